/- Lemmas: N10, N11, N12, N13, N14, N15, SxLit, SxRenew, N16, N17, N18, N19, S1, S2, M4, M5, M6, M7, M8, M9, M10, M11, M12, M13, M14, S1p, S2p, S3, S3p, S4, SxStill, S5, S6, S6p, S4p, S7, S7p, M15, M16, P1, P2, S10, P3. -/
import Derived.Test.YtgookenhmddbfaaGreatDoorPD
open Go.Proofs.Tryz
open Go.IntKind (i64 u64 u8)
open Bool (and_eq_true cond_eq_ite)
open ByteArray (empty)
open Int (toNat_natCast)
open List (append_assoc append_nil cons_append getElem?_append_left getElem?_append_right getElem?_eq_none getElem?_map getElem?_set getElem_mem length_append length_cons length_drop length_map length_nil length_set length_take map_append map_cons mem_append mem_append_right mem_cons mem_cons_of_mem mem_cons_self mem_flatMap mem_map mem_range mem_singleton nil_append nodup_append pairwise_cons replicate sum_cons take_of_length_le)
open Nat (add_zero le_of_ble_eq_true le_refl le_trans lt_or_ge zero_add zero_le)
open Option (map_eq_some_iff)
noncomputable section
namespace Ts
open Go Go.Sx Go.Proofs Lf
theorem an3{f:Nat}(h:fI P Bx.bO 93 (zO f)):(qG f).Ok P Bx.bO:=aK.Ok.cons (p6.sum mNo) (aK.Ok.cons (yG.sum mLv) (aK.Ok.cons (jj (gT (kI.sum mTN) 1 _) 1) (aK.Ok.cons anf.sum (aK.Ok.cons yl.sum (aK.Ok.cons uH.sum (aK.Ok.cons (h.sum aq2) aK.Ok.nil))))))
section
variable{th:Th}{m:As}{fu aa:Int}{fr fs gn:Ws}{n ad:Int}{key val:ByteArray}{f:Nat}{X:Ctx}
theorem aeJ{th:Th}{m:As}{fu aa:Int}{fr fs gn:Ws}{key:ByteArray}:∀y∈agW,(jK th m fu aa fr fs gn key).length<=y.2.m:=λy hy=>by
 simp only[agW,mem_cons,List.not_mem_nil,or_false]at hy;rcases hy with rfl|rfl|rfl|rfl<;>exact le_refl _
theorem aiK(hz:dZ Bx.bO X)(hX:X.H=lk (jK th m fu aa fr fs gn key))(T:(qG f).Ok P Bx.bO){m':As}{ft:Int}{zP rE gn':Ws}{l:Bool}{es:List En}{bs:List Br}{k:Int}{r:List Br}(hd:Ds.bm th m' ft)(hf:Bx.okW zP)(hl:l=false/\es=[])(he:bx es)
 (hb:bz (bs.take k.toNat++r++bs.drop (k.toNat+1))) (hk0:0<=k) (vR:k<(bs.length:Int)) (hbl:bs.length<=84)
 (e:yF th key none (f+1) m fu fr fs gn n ad=iM (rj rE gn' n) (bH th m' ft zP (jV rE n) l es (bs.take k.toNat++r++bs.drop (k.toNat+1)))):
 Safe P 93 X (zM (zO (f+1)) ((th,m,fu,aa,fr,fs,gn),n,ad,key,val)) (aiF th m' ft aa zP rE gn' n key l es bs k r):=by
 rw[<-aeG hk0]at hb e;have hjl:=hb.1;have⟨f1,f2⟩:=akK (aa:=aa) (val:=val) e;refine Ds.cF hz hX aeJ T func93 (avK f th m' ft aa zP rE gn' n key l es bs k r) ⟨by omega,hk0,by omega,⟨by omega,by omega⟩,by omega,by omega,by omega,by show 3<=100;omega, ?_,rfl,rfl,rfl,rfl,hd,hf,⟨λh=>(by rw[hl.1]at h;cases h),λ_=>hl.2⟩,he,hb, ?_⟩;exact le_trans hjl (by omega);exact lO ⟨[],[0,1],5,[]⟩ rfl (le_refl _) (qE.same _) f2 f1
theorem ara(hz:dZ Bx.bO X)(hX:X.H=lk (jK th m fu aa fr fs gn key))(T:(qG f).Ok P Bx.bO){m':As}{ft:Int}{zP rE gn':Ws}{l:Bool}{es:List En}{bs:List Br}{k e:Int}{r:List Br}(hd:Ds.bm th m' ft)(hf:Bx.okW zP)(hl:l=false/\es=[])(he:bx es)
 (hb:bz (bs.take k.toNat++mi (bs.getD k.toNat dB).1 r++bs.drop (k.toNat+1))) (hk0:0<=k) (vR:k<(bs.length:Int)) (hbl:bs.length<=84)
 (ee:yF th key none (f+1) m fu fr fs gn n ad=if e≠0 then(m',ft,zP,rE,gn',[],e)else iM (rj rE gn' n) (bH th m' ft zP (jV rE n) l es (bs.take k.toNat++mi (bs.getD k.toNat dB).1 r++bs.drop (k.toNat+1)))):
 Safe P 93 X (zM (zO (f+1)) ((th,m,fu,aa,fr,fs,gn),n,ad,key,val)) (anR th m' ft aa zP rE gn' n key l es bs k e r):=by
 refine Ds.cF hz hX aeJ T func93 (avJ f th m' ft aa zP rE gn' n key l es bs k e r) ⟨λh=> ?_,λh=>⟨λh5=> ?_,λh5=> ?_⟩⟩;have h:e≠0:=by simpa using h
 rw[if_pos h]at ee;have⟨f1,f2⟩:=akK (aa:=aa) (val:=val) ee;exact lO ⟨[(0,.au cB [],Lf.eB)],[0,1],5,[]⟩ rfl (le_refl _) (qE.same _) f2 f1;have h:¬e≠0:=by simpa using h
 rw[if_neg h]at ee;have h5:=of_decide_eq_true h5;have e5:=aeH (r:=r) (k:=(bs.getD k.toNat dB).1) (by omega);rw[<-e5]at hb ee;exact⟨hk0,vR,by omega,h5,aiK hz hX T hd hf hl he hb hk0 vR hbl ee⟩;have h:¬e≠0:=by simpa using h
 rw[if_neg h]at ee;have h5:=of_decide_eq_false h5;have e5:r=[]:=List.eq_nil_of_length_eq_zero (by omega);subst e5;exact aiK hz hX T hd hf hl he hb hk0 vR hbl ee
theorem arb(hz:dZ Bx.bO X)(hX:X.H=lk (jK th m fu aa fr fs gn key))(T:(qG f).Ok P Bx.bO)(hd:Ds.bm th m fu)(hf:Bx.okW fr)(h1:1<=ad/\ad<=17)(h2:18<=ad+((f+1:Nat):Int))(hk:1<=key.size/\key.size<=24)
 (h:gy th m n ad=0) (hl:lH th m n ad=false):
 Safe P 93 X (zM (zO (f+1)) ((th,m,fu,aa,fr,fs,gn),n,ad,key,val)) (anQ th m fu aa fr fs gn n ad key (lH th m n ad) (bZ th m n ad) (aX th m n ad)):=by
 have⟨hm,n1,n2,n3,n4,n5,_⟩:=fp h;have⟨m1,m2,_,_⟩:=ew hm;have⟨s1,s2⟩:=s7 hm;have hkk:∀v:ByteArray,none=some v->v.size<=100:=λv e=>by cases e
 refine Ds.cF hz hX aeJ T func93 (avH f th m fu aa fr fs gn n ad key (lH th m n ad) (bZ th m n ad) (aX th m n ad)) ⟨λh3=> ?_,λh3=> ?_⟩
 have h3:aX th m n ad=[]:=List.eq_nil_of_length_eq_zero (by have:((aX th m n ad).length:Int)=0:=by simpa using h3
                                                            omega)
 have⟨f1,f2⟩:=akK (val:=val) (aa:=aa) (th:=th) (m:=m) (fu:=fu) (fr:=fr) (fs:=fs) (gn:=gn) (key:=key) (f:=f+1) (n:=n) (ad:=ad) (c:=(m,fu,fr,fs,gn,[],4)) (by rw[gN,if_neg (by rw[h];simp),if_neg (by rw[hl];simp),if_pos h3]);exact lO ⟨[(0,.au cB [],Lf.eB)],[0,1],5,[]⟩ rfl (le_refl _) (qE.same _) f2 f1;have h3:aX th m n ad≠[]:=λe=>by rw[e]at h3;simp at h3
 have⟨p0,p1⟩:=uM (key:=key) s2 h3;have pg:=uN h (bg (aX th m n ad) key).toNat;have acv:=tm (th:=th) (key:=key) (op:=none) hk.2 f (m:=m) (fu:=fu) (fr:=fr) (fs:=fs) (gn:=gn) (n:=((aX th m n ad).getD (bg (aX th m n ad) key).toNat dB).2.1) (ad:=ad+1) hd hf;have hb:=yP (bs:=aX th m n ad) (k:=(bg (aX th m n ad) key).toNat) (aeF hm).2 n2 acv.two acv.key (rz (aeF hm).2 (bg (aX th m n ad) key).toNat);refine⟨by omega,s2,p0,p1,rA (by omega) (by omega),rfl,rfl,hd,hf,pg,⟨by omega,by omega⟩,by omega,hk,(zero_le 100),ara hz hX T acv.d acv.fr ⟨hl,m2 hl⟩ n3 hb p0 p1 n2 ?_⟩;rw[gN,if_neg (by rw[h];simp),if_neg (by rw[hl];simp),if_neg h3,hl];rfl
theorem avP(hz:dZ Bx.bO X)(hX:X.H=lk (jK th m fu aa fr fs gn key))(T:(qG f).Ok P Bx.bO)(hd:Ds.bm th m fu)(hf:Bx.okW fr)(hk:1<=key.size/\key.size<=24)
 (h:gy th m n ad=0) (hl:lH th m n ad=true):
 Safe P 93 X (zM (zO (f+1)) ((th,m,fu,aa,fr,fs,gn),n,ad,key,val)) (axT th m fu aa fr fs gn n key (bZ th m n ad) (aX th m n ad)):=by
 have⟨hm,n1,n2,n3,n4,n5,_⟩:=fp h;have⟨m1,m2,_,_⟩:=ew hm;have⟨s1,s2⟩:=s7 hm;have hkk:∀v:ByteArray,none=some v->v.size<=100:=λv e=>by cases e
 refine Ds.cF hz hX aeJ T func93 (axV f th m fu aa fr fs gn n key (bZ th m n ad) (aX th m n ad)) ⟨by omega,s1,λhb=> ?_,λhb=> ?_⟩;have hb:iT (bZ th m n ad) key=false:=by simpa using hb
 have hc:tC key none (bZ th m n ad)=5:=by show(if iT (bZ th m n ad) key=true then(0:Int)else 5)=5;rw[if_neg (by rw[hb];simp)]
 have⟨f1,f2⟩:=akK (val:=val) (aa:=aa) (th:=th) (m:=m) (fu:=fu) (fr:=fr) (fs:=fs) (gn:=gn) (key:=key) (f:=f+1) (n:=n) (ad:=ad) (c:=(m,fu,fr,fs,gn,[],5)) (by rw[gN,if_neg (by rw[h];simp),if_pos hl,if_pos (by rw[hc];simp),hc]);exact lO ⟨[(0,.au cB [],Lf.eB)],[0,1],5,[]⟩ rfl (le_refl _) (qE.same _) f2 f1;have hb:iT (bZ th m n ad) key=true:=by simpa using hb
 have hc:tC key none (bZ th m n ad)=0:=by show(if iT (bZ th m n ad) key=true then(0:Int)else 5)=0;rw[if_pos hb]
 have ee:doE key none (bZ th m n ad)=cH (bZ th m n ad) key:=by show(if iT (bZ th m n ad) key=true then _ else _)=_;rw[if_pos hb]
 have sm:=p9 (key:=key) (op:=none) (es:=bZ th m n ad) hk.2 hkk n1 n3;have⟨f1,f2⟩:=akK (val:=val) (aa:=aa) (th:=th) (m:=m) (fu:=fu) (fr:=fr) (fs:=fs) (gn:=gn) (key:=key) (f:=f+1) (n:=n) (ad:=ad) (c:=iM (rj fs gn n) (bH th m fu fr (jV fs n) true (cH (bZ th m n ad) key) (aX th m n ad))) (by rw[gN,if_neg (by rw[h];simp),if_pos hl,if_neg (by rw[hc];simp),ee]);rw[ee]at sm;exact⟨rfl,rfl,rfl,rfl,hd,hf,⟨λ_=>m1 hl,λe=>by cases e⟩,sm,n4,lO ⟨[],[0,1],5,[]⟩ rfl (le_refl _) (qE.same _) f2 f1⟩
theorem yR:∀f,fI P Bx.bO 93 (zO f)
 |0=>by
  rintro⟨⟨(th:Th),(m:As),(fu:Int),(aa:Int),(fr:Ws),(fs:Ws),(gn:Ws)⟩,(n:Int),(ad:Int),(key:ByteArray),(val:ByteArray)⟩ ⟨_,_,_,(h1:1<=ad/\ad<=17),(h2:18<=ad+((0:Nat):Int)),_⟩;omega
 |f+1=>by
  have T:=an3 (yR f);refine gm func93 (by kernel_rfl) (λx=>le_of_ble_eq_true (by kernel_rfl)) ?_;rintro⟨⟨th,m,fu,aa,fr,fs,gn⟩,n,ad,key,val⟩ ⟨(hd:Ds.bm th m fu),(hf:Bx.okW fr),(hn:0<=n/\n<=65536),(h1:1<=ad/\ad<=17),(h2:18<=ad+((f+1:Nat):Int)),(hk:1<=key.size/\key.size<=24),(hv:val.size<=100),_⟩ X hX hz;refine Ds.cF hz hX aeJ T func93 (azZ f th m fu aa fr fs gn n ad key) ⟨rfl,rfl,hd,rA (by omega) (by omega),λh=> ?_,λh=>⟨λhl=> ?_,λhl=> ?_⟩⟩;have h:gy th m n ad≠0:=by simpa using h
  have⟨f1,f2⟩:=akK (val:=val) (aa:=aa) (th:=th) (m:=m) (fu:=fu) (fr:=fr) (fs:=fs) (gn:=gn) (key:=key) (f:=f+1) (n:=n) (ad:=ad) (c:=(m,fu,fr,fs,gn,[],gy th m n ad)) (by rw[gN,if_pos h]);exact lO ⟨[(0,.au cB [],Lf.eB)],[0,1],5,[]⟩ rfl (le_refl _) (qE.same _) f2 f1;have h:gy th m n ad=0:=by simpa using h
  have e:=avP (aa:=aa) (val:=val) (gn:=gn) (fs:=fs) hz hX T hd hf hk h hl;rw[hl];exact e;have h:gy th m n ad=0:=by simpa using h
  exact arb hz hX T hd hf h1 h2 hk h hl
end
def qj(th:Th)(m:As):Nat->Ws->Ws->Int->Int->Ws×Ws×Int×Int
 |0,fs,gn,_,_=>(fs,gn,0,4)|f+1,fs,gn,n,ad=>
  if gy th m n ad≠0 then(fs,gn,0,gy th m n ad)
  else if lH th m n ad=true\/(aX th m n ad).length≠1 then(fs,gn,n,0)
  else qj th m f (jV fs n) (rj fs gn n) ((aX th m n ad).getD 0 dB).2.1 (ad+1)
def yS(th:Th)(m:As)(f:Nat)(fs gn:Ws)(n ad:Int):Ws:=(qj th m f fs gn n ad).1
def yT(th:Th)(m:As)(f:Nat)(fs gn:Ws)(n ad:Int):Ws:=(qj th m f fs gn n ad).2.1
def zQ(th:Th)(m:As)(f:Nat)(fs gn:Ws)(n ad:Int):Int:=(qj th m f fs gn n ad).2.2.1
def zR(th:Th)(m:As)(f:Nat)(fs gn:Ws)(n ad:Int):Int:=(qj th m f fs gn n ad).2.2.2
abbrev sLo:Spec (XT×Int):=⟨λ(_,n)=>[.ptr 0 0,aM n],λ((th,m,fu,aa,fr,fs,gn),_)=>hT th m fu aa fr fs gn,λ((th,m,fu,_),n)=>[Ds.bm th m fu,0<=n/\n<=65536],
 λ((th,m,fu,aa,fr,fs,gn),n)=>hT th m fu aa fr (yS th m 17 fs gn n 1) (yT th m 17 fs gn n 1),λ((th,m,_,_,_,fs,gn),n)=>.bq [aM (zQ th m 17 fs gn n 1),aM (zR th m 17 fs gn n 1)]⟩
def an4:aK:=[(61,aaR),(98,anN)]
def arc:List (Nat×Norm):=[(3,⟨[],[0,1,6],4,[]⟩)]
def cLo(th:Th)(m:As)(fu aa:Int)(fr fs gn:Ws)(n ad:Int):bP:=⟨sl 38 [(0,.ptr 0 0),(1,aM n),(6,aM ad)],hT th m fu aa fr fs gn,hd f79 3,{}⟩
theorem az0(th:Th)(m:As)(fu aa:Int)(fr fs gn:Ws)(n:Int):run P an4.sum f79 arc (start f79 [.ptr 0 0,aM n] (hT th m fu aa fr fs gn))=
 Tree.at (cLo th m fu aa fr fs gn n 1):=by kernel_rfl
theorem az1(th:Th)(m:As)(fu aa:Int)(fr fs gn:Ws)(n ad:Int):run P an4.sum f79 arc (cLo th m fu aa fr fs gn n ad)=
 Tree.ab (bp (some [AV.ptr 0 0,aM n,aM ad])) (.ab (bp (some (hT th m fu aa fr fs gn))) (.ab (Ds.bm th m fu) (.ab (aA n) (.ite (gy th m n ad !=0) (.ret (hT th m fu aa fr fs gn++[.aq [.s (.bool (lH th m n ad)),.s (.ro (.au cE (bZ th m n ad))),.s (.ro (.au cB (aX th m n ad)))] 100]) (.bq [.s (.aR .i64 0),aM (gy th m n ad)])) (.ite (lH th m n ad) (.ret (hT th m fu aa fr fs gn++[.aq [.s (.bool (lH th m n ad)),.s (.ro (.au cE (bZ th m n ad))),.s (.ro (.au cB (aX th m n ad)))] 100]) (.bq [aM n,.s (.aR .i64 0)])) (.ite ((↑(aX th m n ad).length:Int) !=1) (.ret (hT th m fu aa fr fs gn++[.aq [.s (.bool (lH th m n ad)),.s (.ro (.au cE (bZ th m n ad))),.s (.ro (.au cB (aX th m n ad)))] 100]) (.bq [aM n,.s (.aR .i64 0)])) (.ab (bp (some [AV.ptr 0 0,aM n])) (.ab (bp (some (hT th m fu aa fr fs gn))) (.ab ((0:Int)<=0) (.ab ((0:Int)<(↑(aX th m n ad).length:Int)) (.ab (aA (ad+1)) (.at (cLo th m fu aa fr (jV fs n) (rj fs gn n) ((aX th m n ad).getD 0 (CL.d cB)).snd.fst (ad+1)))))))))))))):=by kernel_rfl
theorem aeK{Z:bh}:an4.Ok P Z:=aK.Ok.cons (p6.sum mNo) (aK.Ok.cons (yG.sum mLv) aK.Ok.nil)
theorem an5{th:Th}{m:As}{fu aa:Int}{fr fs gn:Ws}{n:Int}{c:Ws×Ws×Int×Int}(e:c=qj th m 17 fs gn n 1):
 sLo.dN ((th,m,fu,aa,fr,fs,gn),n)=hT th m fu aa fr c.1 c.2.1/\sLo.out ((th,m,fu,aa,fr,fs,gn),n)=.bq [aM c.2.2.1,aM c.2.2.2]:=by
 subst e;exact⟨rfl,rfl⟩
theorem aeL{Z:bh}:fI P Z 79 sLo:=by
 refine fS func79 ?_;rintro⟨⟨th,m,fu,aa,fr,dP,dQ⟩,n0⟩ ⟨(hd:Ds.bm th m fu),(hn0:0<=n0/\n0<=65536),_⟩ X hX hz
 have hm:∀y∈arc,(hT th m fu aa fr dP dQ).length<=y.2.m:=λy hy=>by
  simp only[arc,mem_singleton]at hy;subst hy;exact le_refl _
 have loop:∀(f:Nat) (fs gn:Ws) (n ad:Int),1<=ad/\ad<=17->18<=ad+(f:Int)->0<=n/\n<=65536->qj th m f fs gn n ad=qj th m 17 dP dQ n0 1->
  Safe P 79 X (dO sLo ((th,m,fu,aa,fr,dP,dQ),n0)) (cLo th m fu aa fr fs gn n ad):=by
  intro f
  induction f with
  |zero=>intro fs gn n ad h1 h2;omega
  |succ f ih=>
   intro fs gn n ad h1 h2 hn e;rw[qj]at e;refine Ds.cF hz hX hm aeK func79 (az1 th m fu aa fr fs gn n ad) ⟨rfl,rfl,hd,rA (by omega) (by omega),λh=> ?_,λh=>⟨λhl=> ?_,λhl=>⟨λh3=> ?_,λh3=> ?_⟩⟩⟩;have h:gy th m n ad≠0:=by simpa using h
   rw[if_pos h]at e;have⟨f1,f2⟩:=an5 (fu:=fu) (aa:=aa) (fr:=fr) e;exact bD 4 rfl (le_refl _) f2 f1;have h:gy th m n ad=0:=by simpa using h
   rw[if_neg (by rw[h];simp),if_pos (.inl hl)]at e;have⟨f1,f2⟩:=an5 (fu:=fu) (aa:=aa) (fr:=fr) e;exact bD 4 rfl (le_refl _) f2 f1;have h:gy th m n ad=0:=by simpa using h
   have h3:¬((aX th m n ad).length:Int)=1:=by simpa using h3
   rw[if_neg (by rw[h];simp),if_pos (.inr (by omega))]at e;have⟨f1,f2⟩:=an5 (fu:=fu) (aa:=aa) (fr:=fr) e;exact bD 4 rfl (le_refl _) f2 f1;have h:gy th m n ad=0:=by simpa using h
   have h3:((aX th m n ad).length:Int)=1:=by simpa using h3
   rw[if_neg (by rw[h];simp),if_neg (by rintro(a|a);rw[hl]at a;cases a;omega)]at e;have pg:=uN h 0;have⟨_,_,_,_,_,n5,_⟩:=fp h;exact⟨rfl,rfl,by omega,by omega,rA (by omega) (by omega),ih _ _ _ _ ⟨by omega,by omega⟩ (by omega) pg e⟩
 exact Ds.cF hz hX hm aeK func79 (az0 th m fu aa fr dP dQ n0) (loop 17 dP dQ n0 1 ⟨by omega,by omega⟩ (by omega) hn0 rfl)
def jL(th:Th)(key:ByteArray)(op:Option ByteArray)(m:As)(fu aa:Int)(fr fs gn:Ws):Chg:=
 if aa≠0 then yF th key op 17 m fu fr fs gn aa 1
 else if tC key op []≠0 then(m,fu,fr,fs,gn,[],tC key op [])
 else iM gn (bH th m fu fr fs true (doE key op []) [])
abbrev XK:Type:=XT×ByteArray×ByteArray
def zS(th:Th)(key:ByteArray)(op:Option ByteArray)(m:As)(fu aa:Int)(fr fs gn:Ws):As:=(jL th key op m fu aa fr fs gn).1
def zT(th:Th)(key:ByteArray)(op:Option ByteArray)(m:As)(fu aa:Int)(fr fs gn:Ws):Int:=(jL th key op m fu aa fr fs gn).2.1
def zU(th:Th)(key:ByteArray)(op:Option ByteArray)(m:As)(fu aa:Int)(fr fs gn:Ws):Ws:=(jL th key op m fu aa fr fs gn).2.2.1
def aeM(th:Th)(key:ByteArray)(op:Option ByteArray)(m:As)(fu aa:Int)(fr fs gn:Ws):Ws:=(jL th key op m fu aa fr fs gn).2.2.2.1
def aeN(th:Th)(key:ByteArray)(op:Option ByteArray)(m:As)(fu aa:Int)(fr fs gn:Ws):Ws:=(jL th key op m fu aa fr fs gn).2.2.2.2.1
def yU(th:Th)(key:ByteArray)(op:Option ByteArray)(m:As)(fu aa:Int)(fr fs gn:Ws):List Br:=(jL th key op m fu aa fr fs gn).2.2.2.2.2.1
def yV(th:Th)(key:ByteArray)(op:Option ByteArray)(m:As)(fu aa:Int)(fr fs gn:Ws):Int:=(jL th key op m fu aa fr fs gn).2.2.2.2.2.2
def aiL(th:Th)(m:As)(fu aa:Int)(fr:Ws)(key val:ByteArray):List Prop:=[Ds.bm th m fu,Bx.okW fr,0<=aa/\aa<=65536,1<=key.size/\key.size<=24,val.size<=100]
abbrev ard:Spec XK:=⟨λ(_,key,_)=>[.ptr 0 0,.s (.str key),.fn fP1 [.ptr 4 0,.ptr 5 0]],λ((th,m,fu,aa,fr,fs,gn),key,val)=>lz th m fu aa fr fs gn key val,λ((th,m,fu,aa,fr,_,_),key,val)=>aiL th m fu aa fr key val,
 λ((th,m,fu,aa,fr,fs,gn),key,val)=>lz th (zS th key (some val) m fu aa fr fs gn) (zT th key (some val) m fu aa fr fs gn) aa (zU th key (some val) m fu aa fr fs gn) (aeM th key (some val) m fu aa fr fs gn) (aeN th key (some val) m fu aa fr fs gn) key val++[.vec (.au cB (yU th key (some val) m fu aa fr fs gn)) Lf.eB],
 λ((th,m,fu,aa,fr,fs,gn),key,val)=>.bq [.vec 6,aM (yV th key (some val) m fu aa fr fs gn)]⟩
abbrev arf:Spec XK:=⟨λ(_,key,_)=>[.ptr 0 0,.s (.str key),.fn fD1 [.ptr 4 0]],λ((th,m,fu,aa,fr,fs,gn),key,_)=>jK th m fu aa fr fs gn key,λ((th,m,fu,aa,fr,_,_),key,val)=>aiL th m fu aa fr key val,
 λ((th,m,fu,aa,fr,fs,gn),key,_)=>jK th (zS th key none m fu aa fr fs gn) (zT th key none m fu aa fr fs gn) aa (zU th key none m fu aa fr fs gn) (aeM th key none m fu aa fr fs gn) (aeN th key none m fu aa fr fs gn) key++[.vec (.au cB (yU th key none m fu aa fr fs gn)) Lf.eB],
 λ((th,m,fu,aa,fr,fs,gn),key,_)=>.bq [.vec 5,aM (yV th key none m fu aa fr fs gn)]⟩
def arh:List AV->RM (XK×List Nat)
 |[t,.s (.str _),.fn _ [.ptr i 0,.ptr j 0]]=>(mT [t]).bind λ(X,σ)=>.look i λo=>match o with
  |some (.aq [.s (.str key)] _)=>.look j λo=>match o with
   |some (.aq [.s (.str val)] _)=>.ret ((X,key,val),σ++[i,j])|_=>.fail ""
  |_=>.fail ""
 |_=>.fail ""
def ari:List AV->RM (XK×List Nat)
 |[t,.s (.str _),.fn _ [.ptr i 0]]=>(mT [t]).bind λ(X,σ)=>.look i λo=>match o with
  |some (.aq [.s (.str key)] _)=>.ret ((X,key,empty),σ++[i])|_=>.fail ""
 |_=>.fail ""
def ati:aK:=[(93,bY (zN 17) aq1),(58,atg),(78,aaS)]
def atj:aK:=[(93,bY (zO 17) aq2),(73,ath),(78,aaS)]
theorem az2(th:Th)(m:As)(fu aa:Int)(fr fs gn:Ws)(key val:ByteArray):run P ati.sum f77 [] (start f77 [.ptr 0 0,.s (.str key),.fn fP1 [.ptr 4 0,.ptr 5 0]] (lz th m fu aa fr fs gn key val)) (inl:=[fP1])=
 Tree.ite (aa !=0) (.ab (bp (some [AV.ptr 0 0,aM aa,aM 1,.s (.str key),.fn 57 [.ptr 4 0,.ptr 5 0]])) (.ab (bp (some (lz th m fu aa fr fs gn key val))) (.ab (Ds.bm th m fu) (.ab (Bx.okW fr) (.ab ((0:Int)<=aa/\aa<=65536) (.ab ((1:Int)<=1/\(1:Int)<=17) (.ab ((18:Int)<=1+(↑(17:Nat):Int)) (.ab ((1:Nat)<=key.size/\key.size<=24) (.ab (val.size<=100) (.ret (lz th (rp th key (some val) 17 m fu fr fs gn aa 1) (rq th key (some val) 17 m fu fr fs gn aa 1) aa (rr th key (some val) 17 m fu fr fs gn aa 1) (ta th key (some val) 17 m fu fr fs gn aa 1) (uJ th key (some val) 17 m fu fr fs gn aa 1) key val++[.vec (.au cB (vX th key (some val) 17 m fu fr fs gn aa 1)) 116]) (.bq [.vec 6,aM (uK th key (some val) 17 m fu fr fs gn aa 1)]))))))))))) (.ab ((0:Nat)<=100000) (.ab (jt (bS [])) (.ab (bp (some [AV.ptr 0 0,.agg [.s (.bool true),.s (.ro (.au cE (bN [] key val))),.s (.ro (.au cB []))]])) (.ab (bp (some (hT th m fu aa fr fs gn))) (.ab (Ds.bm th m fu) (.ab (Bx.okW fr) (.ab (acr true (bN [] key val) []) (.ab (bx (bN [] key val)) (.ab (bz []) (.ret (lz th (bH th m fu fr fs true (bN [] key val) []).fst (bH th m fu fr fs true (bN [] key val) []).snd.fst aa (bH th m fu fr fs true (bN [] key val) []).snd.snd.fst (bH th m fu fr fs true (bN [] key val) []).snd.snd.snd.fst gn key val++[.aw,.vec (.au cB (bH th m fu fr fs true (bN [] key val) []).snd.snd.snd.snd.fst) 116]) (.bq [.vec 7,aM ((bH th m fu fr fs true (bN [] key val) []).snd.snd.snd.snd.snd)]))))))))))):=by kernel_rfl
theorem az3(th:Th)(m:As)(fu aa:Int)(fr fs gn:Ws)(key:ByteArray):run P atj.sum f77 [] (start f77 [.ptr 0 0,.s (.str key),.fn fD1 [.ptr 4 0]] (jK th m fu aa fr fs gn key)) (inl:=[fD1])=
 Tree.ite (aa !=0) (.ab (bp (some [AV.ptr 0 0,aM aa,aM 1,.s (.str key),.fn 72 [.ptr 4 0]])) (.ab (bp (some (jK th m fu aa fr fs gn key))) (.ab (Ds.bm th m fu) (.ab (Bx.okW fr) (.ab ((0:Int)<=aa/\aa<=65536) (.ab ((1:Int)<=1/\(1:Int)<=17) (.ab ((18:Int)<=1+(↑(17:Nat):Int)) (.ab ((1:Nat)<=key.size/\key.size<=24) (.ab (empty.size<=100) (.ret (jK th (rp th key none 17 m fu fr fs gn aa 1) (rq th key none 17 m fu fr fs gn aa 1) aa (rr th key none 17 m fu fr fs gn aa 1) (ta th key none 17 m fu fr fs gn aa 1) (uJ th key none 17 m fu fr fs gn aa 1) key++[.vec (.au cB (vX th key none 17 m fu fr fs gn aa 1)) 116]) (.bq [.vec 5,aM (uK th key none 17 m fu fr fs gn aa 1)]))))))))))) (.ab ((0:Nat)<=100000) (.ab (jt (bS [])) (.ite (!iT [] key) (.ret (jK th m fu aa fr fs gn key++[.vec (.au cE (cH [] key)) 76]) (.bq [.emp,.s (.aR .i64 5)])) (.ab (bp (some [AV.ptr 0 0,.agg [.s (.bool true),.s (.ro (.au cE (cH [] key))),.s (.ro (.au cB []))]])) (.ab (bp (some (hT th m fu aa fr fs gn))) (.ab (Ds.bm th m fu) (.ab (Bx.okW fr) (.ab (acr true (cH [] key) []) (.ab (bx (cH [] key)) (.ab (bz []) (.ret (jK th (bH th m fu fr fs true (cH [] key) []).fst (bH th m fu fr fs true (cH [] key) []).snd.fst aa (bH th m fu fr fs true (cH [] key) []).snd.snd.fst (bH th m fu fr fs true (cH [] key) []).snd.snd.snd.fst gn key++[.aw,.vec (.au cB (bH th m fu fr fs true (cH [] key) []).snd.snd.snd.snd.fst) 116]) (.bq [.vec 6,aM ((bH th m fu fr fs true (cH [] key) []).snd.snd.snd.snd.snd)])))))))))))):=by kernel_rfl
theorem atk{th:Th}{m:As}{fu aa:Int}{fr fs gn:Ws}{key val:ByteArray}{c:Chg}(e:jL th key (some val) m fu aa fr fs gn=c):
 ard.dN ((th,m,fu,aa,fr,fs,gn),key,val)=lz th c.1 c.2.1 aa c.2.2.1 c.2.2.2.1 c.2.2.2.2.1 key val++[.vec (.au cB c.2.2.2.2.2.1) Lf.eB]/\ard.out ((th,m,fu,aa,fr,fs,gn),key,val)=.bq [.vec 6,aM c.2.2.2.2.2.2]:=by
 subst e;exact⟨rfl,rfl⟩
theorem an6:ati.Ok P Bx.bO:=aK.Ok.cons ((yQ 17).sum aq1) (aK.Ok.cons ano.xR (aK.Ok.cons (jj (gT (kI.sum mTN) 1 _) 1) aK.Ok.nil))
theorem arj:fI P Bx.bO 77 ard:=by
 refine gm func77 (by kernel_rfl) (λx=>le_of_ble_eq_true (by kernel_rfl)) ?_;rintro⟨⟨th,m,fu,aa,fr,fs,gn⟩,key,val⟩ ⟨(hd:Ds.bm th m fu),(hf:Bx.okW fr),(hr:0<=aa/\aa<=65536),(hk:1<=key.size/\key.size<=24),(hv:val.size<=100),_⟩ X hX hz;have hkk:∀v:ByteArray,(some val)=some v->v.size<=100:=λv e=>by cases e;exact hv
 have sm:=p9 (key:=key) (op:=(some val)) (es:=[]) hk.2 hkk (zero_le _) ji;refine Ds.cF hz hX (by intro y hy;cases hy) an6 func77 (az2 th m fu aa fr fs gn key val) ⟨λh=>⟨rfl,rfl,hd,hf,hr,⟨by omega,by omega⟩,by omega,hk,hv, ?_⟩,λh=>⟨by omega,by unfold jt;intro i j _ hj;simp at hj,rfl,rfl,hd,hf,⟨λ_=>rfl,λe=>by cases e⟩,sm,yx, ?_⟩⟩;have h:aa≠0:=by simpa using h
 have⟨f1,f2⟩:=atk (val:=val) (show jL th key (some val) m fu aa fr fs gn=yF th key (some val) 17 m fu fr fs gn aa 1 by unfold jL;rw[if_pos h]);exact lO ⟨[],[0,1],6,[]⟩ rfl (le_refl _) (qE.same _) f2 f1;have h:¬aa≠0:=by simpa using h
 have⟨f1,f2⟩:=atk (val:=val) (show jL th key (some val) m fu aa fr fs gn=iM gn (bH th m fu fr fs true (bN [] key val) [])by unfold jL;rw[if_neg h,if_neg (by show¬(0:Int)≠0;simp)];rfl);exact lO ⟨[],[0,1],6,[]⟩ rfl (le_refl _) (qE.same _) f2 f1
theorem atl{th:Th}{m:As}{fu aa:Int}{fr fs gn:Ws}{key val:ByteArray}{c:Chg}(e:jL th key none m fu aa fr fs gn=c):
 arf.dN ((th,m,fu,aa,fr,fs,gn),key,val)=jK th c.1 c.2.1 aa c.2.2.1 c.2.2.2.1 c.2.2.2.2.1 key++[.vec (.au cB c.2.2.2.2.2.1) Lf.eB]/\arf.out ((th,m,fu,aa,fr,fs,gn),key,val)=.bq [.vec 5,aM c.2.2.2.2.2.2]:=by
 subst e;exact⟨rfl,rfl⟩
theorem an7:atj.Ok P Bx.bO:=aK.Ok.cons ((yR 17).sum aq2) (aK.Ok.cons anf.sum (aK.Ok.cons (jj (gT (kI.sum mTN) 1 _) 1) aK.Ok.nil))
theorem ark:fI P Bx.bO 77 arf:=by
 refine gm func77 (by kernel_rfl) (λx=>le_of_ble_eq_true (by kernel_rfl)) ?_;rintro⟨⟨th,m,fu,aa,fr,fs,gn⟩,key,val⟩ ⟨(hd:Ds.bm th m fu),(hf:Bx.okW fr),(hr:0<=aa/\aa<=65536),(hk:1<=key.size/\key.size<=24),(hv:val.size<=100),_⟩ X hX hz;have hkk:∀v:ByteArray,none=some v->v.size<=100:=λv e=>by cases e
 have sm:=p9 (key:=key) (op:=none) (es:=[]) hk.2 hkk (zero_le _) ji;refine Ds.cF hz hX (by intro y hy;cases hy) an7 func77 (az3 th m fu aa fr fs gn key) ⟨λh=>⟨rfl,rfl,hd,hf,hr,⟨by omega,by omega⟩,by omega,hk,(zero_le 100), ?_⟩,λh=>⟨by omega,by unfold jt;intro i j _ hj;simp at hj,λhb=> ?_,λhb=> ?_⟩⟩;have h:aa≠0:=by simpa using h
 have⟨f1,f2⟩:=atl (val:=val) (show jL th key none m fu aa fr fs gn=yF th key none 17 m fu fr fs gn aa 1 by unfold jL;rw[if_pos h]);exact lO ⟨[],[0,1],5,[]⟩ rfl (le_refl _) (qE.same _) f2 f1;have h:¬aa≠0:=by simpa using h
 have⟨f1,f2⟩:=atl (val:=val) (show jL th key none m fu aa fr fs gn=(m,fu,fr,fs,gn,[],5)by unfold jL;rw[if_neg h,if_pos (by show(5:Int)≠0;simp)];rfl);exact lO ⟨[(0,.au cB [],Lf.eB)],[0,1],5,[]⟩ rfl (le_refl _) (qE.same _) f2 f1;exact absurd hb (by show¬(!iT [] key)=false;simp[iT,cH])
def upT(th:Th)(c:Chg):Chg:=if c.2.2.2.2.2.2=0/\1<c.2.2.2.2.2.1.length then iM c.2.2.2.2.1 (bH th c.1 c.2.1 c.2.2.1 c.2.2.2.1 false [] c.2.2.2.2.2.1)else c
abbrev Chs:Type:=As×Int×Int×Ws×Ws×Ws×Int
def pB(th:Th)(aZ:Int)(ef dP dQ:Ws)(m:As)(fu aa:Int)(fr fs gn:Ws)(e:Int):Chs:=
 if e≠0 then(m,fu,aZ,ef,dP,dQ,e)else(m,fu,aa,Bx.bR .or fr gn,fs,Bx.aG,0)
def kz(th:Th)(aZ:Int)(ef dP dQ:Ws)(c:Chg):Chs:=
 if c.2.2.2.2.2.2=0/\c.2.2.2.2.2.1.length=1 then
  pB th aZ ef dP dQ c.1 c.2.1 (zQ th c.1 17 c.2.2.2.1 c.2.2.2.2.1 (c.2.2.2.2.2.1.getD 0 dB).2.1 1) c.2.2.1 (yS th c.1 17 c.2.2.2.1 c.2.2.2.2.1 (c.2.2.2.2.2.1.getD 0 dB).2.1 1) (yT th c.1 17 c.2.2.2.1 c.2.2.2.2.1 (c.2.2.2.2.2.1.getD 0 dB).2.1 1) (zR th c.1 17 c.2.2.2.1 c.2.2.2.2.1 (c.2.2.2.2.2.1.getD 0 dB).2.1 1)
 else pB th aZ ef dP dQ c.1 c.2.1 0 c.2.2.1 c.2.2.2.1 c.2.2.2.2.1 c.2.2.2.2.2.2
def lP(th:Th)(key:ByteArray)(op:Option ByteArray)(m:As)(fu aa:Int)(fr fs gn:Ws):Chs:=kz th aa fr fs gn (upT th (jL th key op m fu aa fr fs gn))
def arl(th:Th)(key:ByteArray)(op:Option ByteArray)(m:As)(fu aa:Int)(fr fs gn:Ws):As:=(lP th key op m fu aa fr fs gn).1
def arn(th:Th)(key:ByteArray)(op:Option ByteArray)(m:As)(fu aa:Int)(fr fs gn:Ws):Int:=(lP th key op m fu aa fr fs gn).2.1
def aro(th:Th)(key:ByteArray)(op:Option ByteArray)(m:As)(fu aa:Int)(fr fs gn:Ws):Int:=(lP th key op m fu aa fr fs gn).2.2.1
def arp(th:Th)(key:ByteArray)(op:Option ByteArray)(m:As)(fu aa:Int)(fr fs gn:Ws):Ws:=(lP th key op m fu aa fr fs gn).2.2.2.1
def arq(th:Th)(key:ByteArray)(op:Option ByteArray)(m:As)(fu aa:Int)(fr fs gn:Ws):Ws:=(lP th key op m fu aa fr fs gn).2.2.2.2.1
def ars(th:Th)(key:ByteArray)(op:Option ByteArray)(m:As)(fu aa:Int)(fr fs gn:Ws):Ws:=(lP th key op m fu aa fr fs gn).2.2.2.2.2.1
def art(th:Th)(key:ByteArray)(op:Option ByteArray)(m:As)(fu aa:Int)(fr fs gn:Ws):Int:=(lP th key op m fu aa fr fs gn).2.2.2.2.2.2
abbrev sOr:=sumOf [Bx.eH,Bx.eH] [Bx.eH] (λ_=>[]) (λ(a,b,())=>(Bx.bR .or a b,()))
abbrev aeO:Spec XK:=⟨λ(_,key,_)=>[.ptr 0 0,.s (.str key),.fn fP1 [.ptr 4 0,.ptr 5 0]],λ((th,m,fu,aa,fr,fs,gn),key,val)=>lz th m fu aa fr fs gn key val,λ((th,m,fu,aa,fr,_,_),key,val)=>aiL th m fu aa fr key val,
 λ((th,m,fu,aa,fr,fs,gn),key,val)=>lz th (arl th key (some val) m fu aa fr fs gn) (arn th key (some val) m fu aa fr fs gn) (aro th key (some val) m fu aa fr fs gn) (arp th key (some val) m fu aa fr fs gn) (arq th key (some val) m fu aa fr fs gn) (ars th key (some val) m fu aa fr fs gn) key val,
 λ((th,m,fu,aa,fr,fs,gn),key,val)=>aM (art th key (some val) m fu aa fr fs gn)⟩
def yW:aK:=[(77,bY ard arh),(78,aaS),(79,bY sLo mLv),(80,sOr)]
def aaW:List (Nat×Norm):=[(3,⟨[],[0,7,8,9],6,[]⟩),(5,⟨[],[0,7,8,9],6,[]⟩),(8,⟨[],[0,7,9],6,[]⟩)]
def aeP(th:Th)(aZ:Int)(ef dP dQ:Ws)(m:As)(fu aa:Int)(fr fs gn:Ws)(key val:ByteArray)(l:List Br)(e:Int):bP:=⟨sl 78 [(0,.ptr 0 0),(7,.ptr 6 0),(8,.vec 7),(9,aM e)],lz th m fu aa fr fs gn key val++[fL 1 aZ ef dP dQ,.vec (.au cB l) Lf.eB],hd f56 3,{}⟩
def aiM(th:Th)(aZ:Int)(ef dP dQ:Ws)(m:As)(fu aa:Int)(fr fs gn:Ws)(key val:ByteArray)(l:List Br)(e:Int):bP:=⟨sl 78 [(0,.ptr 0 0),(7,.ptr 6 0),(8,.vec 7),(9,aM e)],lz th m fu aa fr fs gn key val++[fL 1 aZ ef dP dQ,.vec (.au cB l) Lf.eB],hr f56 5,{}⟩
def aeQ(th:Th)(aZ:Int)(ef dP dQ:Ws)(m:As)(fu aa:Int)(fr fs gn:Ws)(key val:ByteArray)(e:Int):bP:=⟨sl 78 [(0,.ptr 0 0),(7,.ptr 6 0),(9,aM e)],lz th m fu aa fr fs gn key val++[fL 1 aZ ef dP dQ],hr f56 8,{}⟩
abbrev aeR:Spec XK:=⟨λ(_,key,_)=>[.ptr 0 0,.s (.str key),.fn fD1 [.ptr 4 0]],λ((th,m,fu,aa,fr,fs,gn),key,_)=>jK th m fu aa fr fs gn key,λ((th,m,fu,aa,fr,_,_),key,val)=>aiL th m fu aa fr key val,
 λ((th,m,fu,aa,fr,fs,gn),key,_)=>jK th (arl th key none m fu aa fr fs gn) (arn th key none m fu aa fr fs gn) (aro th key none m fu aa fr fs gn) (arp th key none m fu aa fr fs gn) (arq th key none m fu aa fr fs gn) (ars th key none m fu aa fr fs gn) key,
 λ((th,m,fu,aa,fr,fs,gn),key,_)=>aM (art th key none m fu aa fr fs gn)⟩
def yX:aK:=[(77,bY arf ari),(78,aaS),(79,bY sLo mLv),(80,sOr)]
def aaX:List (Nat×Norm):=[(3,⟨[],[0,7,8,9],5,[]⟩),(5,⟨[],[0,7,8,9],5,[]⟩),(8,⟨[],[0,7,9],5,[]⟩)]
def aeS(th:Th)(aZ:Int)(ef dP dQ:Ws)(m:As)(fu aa:Int)(fr fs gn:Ws)(key:ByteArray)(l:List Br)(e:Int):bP:=⟨sl 78 [(0,.ptr 0 0),(7,.ptr 5 0),(8,.vec 6),(9,aM e)],jK th m fu aa fr fs gn key++[fL 1 aZ ef dP dQ,.vec (.au cB l) Lf.eB],hd f56 3,{}⟩
def aiN(th:Th)(aZ:Int)(ef dP dQ:Ws)(m:As)(fu aa:Int)(fr fs gn:Ws)(key:ByteArray)(l:List Br)(e:Int):bP:=⟨sl 78 [(0,.ptr 0 0),(7,.ptr 5 0),(8,.vec 6),(9,aM e)],jK th m fu aa fr fs gn key++[fL 1 aZ ef dP dQ,.vec (.au cB l) Lf.eB],hr f56 5,{}⟩
def aeT(th:Th)(aZ:Int)(ef dP dQ:Ws)(m:As)(fu aa:Int)(fr fs gn:Ws)(key:ByteArray)(e:Int):bP:=⟨sl 78 [(0,.ptr 0 0),(7,.ptr 5 0),(9,aM e)],jK th m fu aa fr fs gn key++[fL 1 aZ ef dP dQ],hr f56 8,{}⟩
theorem axY(th:Th)(m:As)(fu aa:Int)(fr fs gn:Ws)(key val:ByteArray):run P yW.sum f56 aaW (start f56 [.ptr 0 0,.s (.str key),.fn fP1 [.ptr 4 0,.ptr 5 0]] (lz th m fu aa fr fs gn key val))=
 Tree.ab (bp (some [AV.ptr 0 0,.s (.str key),.fn 57 [.ptr 4 0,.ptr 5 0]])) (.ab (bp (some (lz th m fu aa fr fs gn key val))) (.ab (Ds.bm th m fu) (.ab (Bx.okW fr) (.ab ((0:Int)<=aa/\aa<=65536) (.ab ((1:Nat)<=key.size/\key.size<=24) (.ab (val.size<=100) (.at (aeP th aa fr fs gn (zS th key (some val) m fu aa fr fs gn) (zT th key (some val) m fu aa fr fs gn) aa (zU th key (some val) m fu aa fr fs gn) (aeM th key (some val) m fu aa fr fs gn) (aeN th key (some val) m fu aa fr fs gn) key val (yU th key (some val) m fu aa fr fs gn) (yV th key (some val) m fu aa fr fs gn))))))))):=by kernel_rfl
theorem an8(th:Th)(aZ:Int)(ef dP dQ:Ws)(m:As)(fu aa:Int)(fr fs gn:Ws)(key val:ByteArray)(l:List Br)(e:Int):run P yW.sum f56 aaW (aeP th aZ ef dP dQ m fu aa fr fs gn key val l e)=
 Tree.ite (e==0) (.ite (decide ((↑l.length:Int)>1)) (.ab (bp (some [AV.ptr 0 0,.agg [.s (.bool false),.s (.ro (.au cE [])),.s (.ro (.au cB l))]])) (.ab (bp (some (hT th m fu aa fr fs gn))) (.ab (Ds.bm th m fu) (.ab (Bx.okW fr) (.ab (acr false [] l) (.ab (bx []) (.ab (bz l) (.at (aeP th aZ ef dP dQ (bH th m fu fr fs false [] l).fst (bH th m fu fr fs false [] l).snd.fst aa (bH th m fu fr fs false [] l).snd.snd.fst (bH th m fu fr fs false [] l).snd.snd.snd.fst gn key val (bH th m fu fr fs false [] l).snd.snd.snd.snd.fst (bH th m fu fr fs false [] l).snd.snd.snd.snd.snd))))))))) (.at (aiM th aZ ef dP dQ m fu aa fr fs gn key val l e))) (.at (aiM th aZ ef dP dQ m fu aa fr fs gn key val l e)):=by kernel_rfl
theorem avQ(th:Th)(aZ:Int)(ef dP dQ:Ws)(m:As)(fu aa:Int)(fr fs gn:Ws)(key val:ByteArray)(l:List Br)(e:Int):run P yW.sum f56 aaW (aiM th aZ ef dP dQ m fu aa fr fs gn key val l e)=
 Tree.ite (e==0) (.ite ((↑l.length:Int)==1) (.ab ((0:Int)<=0) (.ab ((0:Int)<(↑l.length:Int)) (.ab (bp (some [AV.ptr 0 0,aM ((l.getD 0 (CL.d cB)).snd.fst)])) (.ab (bp (some (hT th m fu 0 fr fs gn))) (.ab (Ds.bm th m fu) (.ab ((0:Int)<=(l.getD 0 (CL.d cB)).snd.fst/\(l.getD 0 (CL.d cB)).snd.fst<=65536) (.at (aeQ th aZ ef dP dQ m fu (zQ th m 17 fs gn (l.getD 0 (CL.d cB)).snd.fst 1) fr (yS th m 17 fs gn (l.getD 0 (CL.d cB)).snd.fst 1) (yT th m 17 fs gn (l.getD 0 (CL.d cB)).snd.fst 1) key val (zR th m 17 fs gn (l.getD 0 (CL.d cB)).snd.fst 1))))))))) (.at (aeQ th aZ ef dP dQ m fu 0 fr fs gn key val e))) (.at (aeQ th aZ ef dP dQ m fu 0 fr fs gn key val e)):=by kernel_rfl
theorem avR(th:Th)(aZ:Int)(ef dP dQ:Ws)(m:As)(fu aa:Int)(fr fs gn:Ws)(key val:ByteArray)(e:Int):run P yW.sum f56 aaW (aeQ th aZ ef dP dQ m fu aa fr fs gn key val e)=
 Tree.ite (e !=0) (.ret (lz th m fu aZ ef dP dQ key val++[fL 1 aZ ef dP dQ]) (aM e)) (.ret (lz th m fu aa (Bx.bR BinOp.or fr gn) fs (replicate 16 0) key val++[fL 1 aZ ef dP dQ]) (.s (.aR .i64 0))):=by kernel_rfl
theorem axZ(th:Th)(m:As)(fu aa:Int)(fr fs gn:Ws)(key:ByteArray):run P yX.sum f56 aaX (start f56 [.ptr 0 0,.s (.str key),.fn fD1 [.ptr 4 0]] (jK th m fu aa fr fs gn key))=
 Tree.ab (bp (some [AV.ptr 0 0,.s (.str key),.fn 72 [.ptr 4 0]])) (.ab (bp (some (jK th m fu aa fr fs gn key))) (.ab (Ds.bm th m fu) (.ab (Bx.okW fr) (.ab ((0:Int)<=aa/\aa<=65536) (.ab ((1:Nat)<=key.size/\key.size<=24) (.ab (empty.size<=100) (.at (aeS th aa fr fs gn (zS th key none m fu aa fr fs gn) (zT th key none m fu aa fr fs gn) aa (zU th key none m fu aa fr fs gn) (aeM th key none m fu aa fr fs gn) (aeN th key none m fu aa fr fs gn) key (yU th key none m fu aa fr fs gn) (yV th key none m fu aa fr fs gn))))))))):=by kernel_rfl
theorem an9(th:Th)(aZ:Int)(ef dP dQ:Ws)(m:As)(fu aa:Int)(fr fs gn:Ws)(key:ByteArray)(l:List Br)(e:Int):run P yX.sum f56 aaX (aeS th aZ ef dP dQ m fu aa fr fs gn key l e)=
 Tree.ite (e==0) (.ite (decide ((↑l.length:Int)>1)) (.ab (bp (some [AV.ptr 0 0,.agg [.s (.bool false),.s (.ro (.au cE [])),.s (.ro (.au cB l))]])) (.ab (bp (some (hT th m fu aa fr fs gn))) (.ab (Ds.bm th m fu) (.ab (Bx.okW fr) (.ab (acr false [] l) (.ab (bx []) (.ab (bz l) (.at (aeS th aZ ef dP dQ (bH th m fu fr fs false [] l).fst (bH th m fu fr fs false [] l).snd.fst aa (bH th m fu fr fs false [] l).snd.snd.fst (bH th m fu fr fs false [] l).snd.snd.snd.fst gn key (bH th m fu fr fs false [] l).snd.snd.snd.snd.fst (bH th m fu fr fs false [] l).snd.snd.snd.snd.snd))))))))) (.at (aiN th aZ ef dP dQ m fu aa fr fs gn key l e))) (.at (aiN th aZ ef dP dQ m fu aa fr fs gn key l e)):=by kernel_rfl
theorem avS(th:Th)(aZ:Int)(ef dP dQ:Ws)(m:As)(fu aa:Int)(fr fs gn:Ws)(key:ByteArray)(l:List Br)(e:Int):run P yX.sum f56 aaX (aiN th aZ ef dP dQ m fu aa fr fs gn key l e)=
 Tree.ite (e==0) (.ite ((↑l.length:Int)==1) (.ab ((0:Int)<=0) (.ab ((0:Int)<(↑l.length:Int)) (.ab (bp (some [AV.ptr 0 0,aM ((l.getD 0 (CL.d cB)).snd.fst)])) (.ab (bp (some (hT th m fu 0 fr fs gn))) (.ab (Ds.bm th m fu) (.ab ((0:Int)<=(l.getD 0 (CL.d cB)).snd.fst/\(l.getD 0 (CL.d cB)).snd.fst<=65536) (.at (aeT th aZ ef dP dQ m fu (zQ th m 17 fs gn (l.getD 0 (CL.d cB)).snd.fst 1) fr (yS th m 17 fs gn (l.getD 0 (CL.d cB)).snd.fst 1) (yT th m 17 fs gn (l.getD 0 (CL.d cB)).snd.fst 1) key (zR th m 17 fs gn (l.getD 0 (CL.d cB)).snd.fst 1))))))))) (.at (aeT th aZ ef dP dQ m fu 0 fr fs gn key e))) (.at (aeT th aZ ef dP dQ m fu 0 fr fs gn key e)):=by kernel_rfl
theorem avU(th:Th)(aZ:Int)(ef dP dQ:Ws)(m:As)(fu aa:Int)(fr fs gn:Ws)(key:ByteArray)(e:Int):run P yX.sum f56 aaX (aeT th aZ ef dP dQ m fu aa fr fs gn key e)=
 Tree.ite (e !=0) (.ret (jK th m fu aZ ef dP dQ key++[fL 1 aZ ef dP dQ]) (aM e)) (.ret (jK th m fu aa (Bx.bR BinOp.or fr gn) fs (replicate 16 0) key++[fL 1 aZ ef dP dQ]) (.s (.aR .i64 0))):=by kernel_rfl
theorem aeU{th:Th}{key:ByteArray}{op:Option ByteArray}(hk:key.size<=24){m:As}{fu aa:Int}{fr fs gn:Ws}(hd:Ds.bm th m fu)(hf:Bx.okW fr):
 anZ th (zS th key op m fu aa fr fs gn) (zT th key op m fu aa fr fs gn) (zU th key op m fu aa fr fs gn) (yU th key op m fu aa fr fs gn):=by
 unfold zS zT zU yU jL;split;exact tm hk 17 hd hf;split;exact⟨hd,hf,zero_le _,noB,noB⟩;exact pA hd hf (an0 hk noE) noB
theorem az4{l:List Br}(h2:l.length<=2)(h:lB l):bC [] (ae l)<=254:=by
 have e:=tl (ae l);have e2:=uL l
 have e3:iU l<=54:=by
  cases l with
  |nil=>simp[pz]|cons a r=>
   have ha:=h a mem_cons_self;cases r with
   |nil=>rw[dL,pz];unfold rh;omega|cons b r=>
    have hb:=h b (mem_cons_of_mem _ mem_cons_self);cases r with
    |nil=>rw[dL,dL,pz];unfold rh;omega|cons c r=>simp only[length_cons]at h2;omega
 omega
theorem aoa{th:Th}{m:As}{fu:Int}{fr fs:Ws}{l:List Br}(h0:1<l.length)(h2:l.length<=2)(h:lB l):(bH th m fu fr fs false [] l).2.2.2.2.1.length=1:=by
 unfold bH;rw[if_neg (by simp only[length_nil];omega),if_pos (az4 h2 h)];rfl
theorem aiO{l:List Br}(h:∀b∈l,0<=b.2.1/\b.2.1<=65536)(k:Nat):0<=(l.getD k dB).2.1/\(l.getD k dB).2.1<=65536:=by
 rcases lt_or_ge k l.length with hk|hk;rw[ba hk];exact h _ (getElem_mem hk);rw[List.getD,getElem?_eq_none hk];exact⟨Int.le_refl 0,by show(0:Int)<=65536;omega⟩
theorem aaY{l:List Br}(h2:l.length<=2)(h:lB l):bz l:=⟨by omega,λx hx=>le_trans (h x hx) (by omega)⟩
theorem uO{th:Th}{c:Chg}(h:¬(c.2.2.2.2.2.2=0/\1<c.2.2.2.2.2.1.length)):upT th c=c:=if_neg h
theorem atm{th:Th}{m:As}{fu aa:Int}{fr fs gn:Ws}{key val:ByteArray}{c:Chs}(e:lP th key (some val) m fu aa fr fs gn=c):
 aeO.dN ((th,m,fu,aa,fr,fs,gn),key,val)=lz th c.1 c.2.1 c.2.2.1 c.2.2.2.1 c.2.2.2.2.1 c.2.2.2.2.2.1 key val/\aeO.out ((th,m,fu,aa,fr,fs,gn),key,val)=aM c.2.2.2.2.2.2:=by
 subst e;exact⟨rfl,rfl⟩
theorem mZ:yW.Ok P Bx.bO:=aK.Ok.cons (arj.sum arh) (aK.Ok.cons (jj (gT (kI.sum mTN) 1 _) 1) (aK.Ok.cons (aeL.sum mLv) (aK.Ok.cons Bx.anq.sum aK.Ok.nil)))
section
variable{th:Th}{m0:As}{vY aZ:Int}{ef dP dQ:Ws}{key val:ByteArray}{X:Ctx}
theorem tn{th:Th}{m:As}{fu aa:Int}{fr fs gn:Ws}{key val:ByteArray}:∀y∈aaW,(lz th m fu aa fr fs gn key val).length<=y.2.m:=λy hy=>by
 simp only[aaW,mem_cons,List.not_mem_nil,or_false]at hy;rcases hy with rfl|rfl|rfl<;>exact le_refl _
theorem acw(hz:dZ Bx.bO X)(hX:X.H=lk (lz th m0 vY aZ ef dP dQ key val)){m:As}{fu aa:Int}{fr fs gn:Ws}{e:Int}(ee:lP th key (some val) m0 vY aZ ef dP dQ=pB th aZ ef dP dQ m fu aa fr fs gn e):
 Safe P 56 X (dO aeO ((th,m0,vY,aZ,ef,dP,dQ),key,val)) (aeQ th aZ ef dP dQ m fu aa fr fs gn key val e):=by
 refine Ds.cF hz hX tn mZ func56 (avR th aZ ef dP dQ m fu aa fr fs gn key val e) ⟨λh=> ?_,λh=> ?_⟩;have h:e≠0:=by simpa using h
 unfold pB at ee;rw[if_pos h]at ee;have⟨f1,f2⟩:=atm (val:=val) ee;exact bD 6 rfl (le_refl _) f2 f1;have h:¬e≠0:=by simpa using h
 unfold pB at ee;rw[if_neg h]at ee;have⟨f1,f2⟩:=atm (val:=val) ee;exact bD 6 rfl (le_refl _) f2 f1
theorem wI(hz:dZ Bx.bO X)(hX:X.H=lk (lz th m0 vY aZ ef dP dQ key val)){m:As}{fu aa:Int}{fr fs gn:Ws}{l:List Br}{e:Int}(hd:Ds.bm th m fu)(hp:∀b∈l,0<=b.2.1/\b.2.1<=65536)
 (ee:lP th key (some val) m0 vY aZ ef dP dQ=kz th aZ ef dP dQ (m,fu,fr,fs,gn,l,e)):
 Safe P 56 X (dO aeO ((th,m0,vY,aZ,ef,dP,dQ),key,val)) (aiM th aZ ef dP dQ m fu aa fr fs gn key val l e):=by
 refine Ds.cF hz hX tn mZ func56 (avQ th aZ ef dP dQ m fu aa fr fs gn key val l e) ⟨λh=>⟨λh2=> ?_,λh2=> ?_⟩,λh=> ?_⟩;have h:e=0:=by simpa using h
 have h2:(l.length:Int)=1:=by simpa using h2
 unfold kz at ee;rw[if_pos ⟨h,by simp only[];omega⟩]at ee;exact⟨by omega,by omega,rfl,rfl,hd,aiO hp 0,acw hz hX ee⟩;have h2:¬(l.length:Int)=1:=by simpa using h2
 unfold kz at ee;rw[if_neg (λa=>h2 (by have:=a.2;simp only[]at this;omega))]at ee;exact acw hz hX ee;have h:¬e=0:=by simpa using h
 unfold kz at ee;rw[if_neg (λa=>h a.1)]at ee;exact acw hz hX ee
theorem aru(hz:dZ Bx.bO X)(hX:X.H=lk (lz th m0 vY aZ ef dP dQ key val)){m:As}{fu aa:Int}{fr fs gn:Ws}{l:List Br}{e:Int}(hd:Ds.bm th m fu)(hp:∀b∈l,0<=b.2.1/\b.2.1<=65536)(uc:¬(e=0/\1<l.length))
 (ee:lP th key (some val) m0 vY aZ ef dP dQ=kz th aZ ef dP dQ (m,fu,fr,fs,gn,l,e)):
 Safe P 56 X (dO aeO ((th,m0,vY,aZ,ef,dP,dQ),key,val)) (aeP th aZ ef dP dQ m fu aa fr fs gn key val l e):=by
 refine Ds.cF hz hX tn mZ func56 (an8 th aZ ef dP dQ m fu aa fr fs gn key val l e) ⟨λh=>⟨λh2=> ?_,λh2=> ?_⟩,λh=> ?_⟩;have h:e=0:=by simpa using h
 have h2:=of_decide_eq_true h2;exact absurd ⟨h,by omega⟩ uc;exact wI hz hX hd hp ee;exact wI hz hX hd hp ee
theorem arv(hz:dZ Bx.bO X)(hX:X.H=lk (lz th m0 vY aZ ef dP dQ key val)){m:As}{fu aa:Int}{fr fs gn:Ws}{l:List Br}{e:Int}(F:anZ th m fu fr l)
 (ee:lP th key (some val) m0 vY aZ ef dP dQ=kz th aZ ef dP dQ (upT th (m,fu,fr,fs,gn,l,e))):
 Safe P 56 X (dO aeO ((th,m0,vY,aZ,ef,dP,dQ),key,val)) (aeP th aZ ef dP dQ m fu aa fr fs gn key val l e):=by
 refine Ds.cF hz hX tn mZ func56 (an8 th aZ ef dP dQ m fu aa fr fs gn key val l e) ⟨λh=>⟨λh2=> ?_,λh2=> ?_⟩,λh=> ?_⟩;have h:e=0:=by simpa using h
 have h2:=of_decide_eq_true h2;have hu:upT th (m,fu,fr,fs,gn,l,e)=iM gn (bH th m fu fr fs false [] l):=if_pos ⟨h,by show 1<l.length;omega⟩;rw[hu]at ee;have F2:=pA (fs:=fs) (l:=false) (es:=[]) F.d F.fr noE F.key;have hl:=aoa (th:=th) (m:=m) (fu:=fu) (fr:=fr) (fs:=fs) (l:=l) (by omega) F.two F.key;exact⟨rfl,rfl,F.d,F.fr,⟨λa=>(by cases a),λ_=>rfl⟩,ji,aaY F.two F.key,aru hz hX F2.d F2.pg (λa=>by rw[hl]at a;omega) ee⟩;have h2:=of_decide_eq_false h2;rw[uO (λa=>h2 (by have:=a.2;simp only[]at this;omega))]at ee;exact wI hz hX F.d F.pg ee;have h:¬e=0:=by simpa using h
 rw[uO (λa=>h a.1)]at ee;exact wI hz hX F.d F.pg ee
end
theorem aeV:fI P Bx.bO 56 aeO:=by
 refine fS func56 ?_;rintro⟨⟨th,m,fu,aa,fr,fs,gn⟩,key,val⟩ ⟨(hd:Ds.bm th m fu),(hf:Bx.okW fr),(hr:0<=aa/\aa<=65536),(hk:1<=key.size/\key.size<=24),(hv:val.size<=100),_⟩ X hX hz;exact Ds.cF hz hX tn mZ func56 (axY th m fu aa fr fs gn key val) ⟨rfl,rfl,hd,hf,hr,hk,hv,arv hz hX (aeU (op:=(some val)) hk.2 hd hf) rfl⟩
theorem atn{th:Th}{m:As}{fu aa:Int}{fr fs gn:Ws}{key val:ByteArray}{c:Chs}(e:lP th key none m fu aa fr fs gn=c):
 aeR.dN ((th,m,fu,aa,fr,fs,gn),key,val)=jK th c.1 c.2.1 c.2.2.1 c.2.2.2.1 c.2.2.2.2.1 c.2.2.2.2.2.1 key/\aeR.out ((th,m,fu,aa,fr,fs,gn),key,val)=aM c.2.2.2.2.2.2:=by
 subst e;exact⟨rfl,rfl⟩
theorem m5:yX.Ok P Bx.bO:=aK.Ok.cons (ark.sum ari) (aK.Ok.cons (jj (gT (kI.sum mTN) 1 _) 1) (aK.Ok.cons (aeL.sum mLv) (aK.Ok.cons Bx.anq.sum aK.Ok.nil)))
section
variable{th:Th}{m0:As}{vY aZ:Int}{ef dP dQ:Ws}{key val:ByteArray}{X:Ctx}
theorem tp{th:Th}{m:As}{fu aa:Int}{fr fs gn:Ws}{key:ByteArray}:∀y∈aaX,(jK th m fu aa fr fs gn key).length<=y.2.m:=λy hy=>by
 simp only[aaX,mem_cons,List.not_mem_nil,or_false]at hy;rcases hy with rfl|rfl|rfl<;>exact le_refl _
theorem acx(hz:dZ Bx.bO X)(hX:X.H=lk (jK th m0 vY aZ ef dP dQ key)){m:As}{fu aa:Int}{fr fs gn:Ws}{e:Int}(ee:lP th key none m0 vY aZ ef dP dQ=pB th aZ ef dP dQ m fu aa fr fs gn e):
 Safe P 56 X (dO aeR ((th,m0,vY,aZ,ef,dP,dQ),key,val)) (aeT th aZ ef dP dQ m fu aa fr fs gn key e):=by
 refine Ds.cF hz hX tp m5 func56 (avU th aZ ef dP dQ m fu aa fr fs gn key e) ⟨λh=> ?_,λh=> ?_⟩;have h:e≠0:=by simpa using h
 unfold pB at ee;rw[if_pos h]at ee;have⟨f1,f2⟩:=atn (val:=val) ee;exact bD 5 rfl (le_refl _) f2 f1;have h:¬e≠0:=by simpa using h
 unfold pB at ee;rw[if_neg h]at ee;have⟨f1,f2⟩:=atn (val:=val) ee;exact bD 5 rfl (le_refl _) f2 f1
theorem wJ(hz:dZ Bx.bO X)(hX:X.H=lk (jK th m0 vY aZ ef dP dQ key)){m:As}{fu aa:Int}{fr fs gn:Ws}{l:List Br}{e:Int}(hd:Ds.bm th m fu)(hp:∀b∈l,0<=b.2.1/\b.2.1<=65536)
 (ee:lP th key none m0 vY aZ ef dP dQ=kz th aZ ef dP dQ (m,fu,fr,fs,gn,l,e)):
 Safe P 56 X (dO aeR ((th,m0,vY,aZ,ef,dP,dQ),key,val)) (aiN th aZ ef dP dQ m fu aa fr fs gn key l e):=by
 refine Ds.cF hz hX tp m5 func56 (avS th aZ ef dP dQ m fu aa fr fs gn key l e) ⟨λh=>⟨λh2=> ?_,λh2=> ?_⟩,λh=> ?_⟩;have h:e=0:=by simpa using h
 have h2:(l.length:Int)=1:=by simpa using h2
 unfold kz at ee;rw[if_pos ⟨h,by simp only[];omega⟩]at ee;exact⟨by omega,by omega,rfl,rfl,hd,aiO hp 0,acx hz hX ee⟩;have h2:¬(l.length:Int)=1:=by simpa using h2
 unfold kz at ee;rw[if_neg (λa=>h2 (by have:=a.2;simp only[]at this;omega))]at ee;exact acx hz hX ee;have h:¬e=0:=by simpa using h
 unfold kz at ee;rw[if_neg (λa=>h a.1)]at ee;exact acx hz hX ee
theorem arw(hz:dZ Bx.bO X)(hX:X.H=lk (jK th m0 vY aZ ef dP dQ key)){m:As}{fu aa:Int}{fr fs gn:Ws}{l:List Br}{e:Int}(hd:Ds.bm th m fu)(hp:∀b∈l,0<=b.2.1/\b.2.1<=65536)(uc:¬(e=0/\1<l.length))
 (ee:lP th key none m0 vY aZ ef dP dQ=kz th aZ ef dP dQ (m,fu,fr,fs,gn,l,e)):
 Safe P 56 X (dO aeR ((th,m0,vY,aZ,ef,dP,dQ),key,val)) (aeS th aZ ef dP dQ m fu aa fr fs gn key l e):=by
 refine Ds.cF hz hX tp m5 func56 (an9 th aZ ef dP dQ m fu aa fr fs gn key l e) ⟨λh=>⟨λh2=> ?_,λh2=> ?_⟩,λh=> ?_⟩;have h:e=0:=by simpa using h
 have h2:=of_decide_eq_true h2;exact absurd ⟨h,by omega⟩ uc;exact wJ hz hX hd hp ee;exact wJ hz hX hd hp ee
theorem arx(hz:dZ Bx.bO X)(hX:X.H=lk (jK th m0 vY aZ ef dP dQ key)){m:As}{fu aa:Int}{fr fs gn:Ws}{l:List Br}{e:Int}(F:anZ th m fu fr l)
 (ee:lP th key none m0 vY aZ ef dP dQ=kz th aZ ef dP dQ (upT th (m,fu,fr,fs,gn,l,e))):
 Safe P 56 X (dO aeR ((th,m0,vY,aZ,ef,dP,dQ),key,val)) (aeS th aZ ef dP dQ m fu aa fr fs gn key l e):=by
 refine Ds.cF hz hX tp m5 func56 (an9 th aZ ef dP dQ m fu aa fr fs gn key l e) ⟨λh=>⟨λh2=> ?_,λh2=> ?_⟩,λh=> ?_⟩;have h:e=0:=by simpa using h
 have h2:=of_decide_eq_true h2;have hu:upT th (m,fu,fr,fs,gn,l,e)=iM gn (bH th m fu fr fs false [] l):=if_pos ⟨h,by show 1<l.length;omega⟩;rw[hu]at ee;have F2:=pA (fs:=fs) (l:=false) (es:=[]) F.d F.fr noE F.key;have hl:=aoa (th:=th) (m:=m) (fu:=fu) (fr:=fr) (fs:=fs) (l:=l) (by omega) F.two F.key;exact⟨rfl,rfl,F.d,F.fr,⟨λa=>(by cases a),λ_=>rfl⟩,ji,aaY F.two F.key,arw hz hX F2.d F2.pg (λa=>by rw[hl]at a;omega) ee⟩;have h2:=of_decide_eq_false h2;rw[uO (λa=>h2 (by have:=a.2;simp only[]at this;omega))]at ee;exact wJ hz hX F.d F.pg ee;have h:¬e=0:=by simpa using h
 rw[uO (λa=>h a.1)]at ee;exact wJ hz hX F.d F.pg ee
end
theorem aeW:fI P Bx.bO 56 aeR:=by
 refine fS func56 ?_;rintro⟨⟨th,m,fu,aa,fr,fs,gn⟩,key,val⟩ ⟨(hd:Ds.bm th m fu),(hf:Bx.okW fr),(hr:0<=aa/\aa<=65536),(hk:1<=key.size/\key.size<=24),(hv:val.size<=100),_⟩ X hX hz;exact Ds.cF hz hX tp m5 func56 (axZ th m fu aa fr fs gn key) ⟨rfl,rfl,hd,hf,hr,hk,(zero_le 100),arx hz hX (aeU (op:=none) hk.2 hd hf) rfl⟩
def iQ(key:ByteArray):Option ByteArray->Bool
 |some v=>decide (1<=key.size)&&decide (key.size<=24)&&decide (v.size<=100)|none=>decide (1<=key.size)&&decide (key.size<=24)
def opT(th:Th)(key:ByteArray)(op:Option ByteArray)(m:As)(fu aa:Int)(fr fs gn:Ws):Chs:=if iQ key op=true then lP th key op m fu aa fr fs gn else(m,fu,aa,fr,fs,gn,1)
def op0(th:Th)(key:ByteArray)(op:Option ByteArray)(m:As)(fu aa:Int)(fr fs gn:Ws):As:=(opT th key op m fu aa fr fs gn).1
def op1(th:Th)(key:ByteArray)(op:Option ByteArray)(m:As)(fu aa:Int)(fr fs gn:Ws):Int:=(opT th key op m fu aa fr fs gn).2.1
def vN(th:Th)(key:ByteArray)(op:Option ByteArray)(m:As)(fu aa:Int)(fr fs gn:Ws):Int:=(opT th key op m fu aa fr fs gn).2.2.1
def op2(th:Th)(key:ByteArray)(op:Option ByteArray)(m:As)(fu aa:Int)(fr fs gn:Ws):Ws:=(opT th key op m fu aa fr fs gn).2.2.2.1
def op3(th:Th)(key:ByteArray)(op:Option ByteArray)(m:As)(fu aa:Int)(fr fs gn:Ws):Ws:=(opT th key op m fu aa fr fs gn).2.2.2.2.1
def op4(th:Th)(key:ByteArray)(op:Option ByteArray)(m:As)(fu aa:Int)(fr fs gn:Ws):Ws:=(opT th key op m fu aa fr fs gn).2.2.2.2.2.1
def opE(th:Th)(key:ByteArray)(op:Option ByteArray)(m:As)(fu aa:Int)(fr fs gn:Ws):Int:=(opT th key op m fu aa fr fs gn).2.2.2.2.2.2
def ax0(th:Th)(m:As)(fu aa:Int)(fr:Ws):List Prop:=[Ds.bm th m fu,Bx.okW fr,0<=aa/\aa<=65536]
abbrev aob:Spec XK:=⟨λ(_,key,val)=>[.ptr 0 0,.s (.str key),.s (.str val)],λ((th,m,fu,aa,fr,fs,gn),_,_)=>hT th m fu aa fr fs gn,λ((th,m,fu,aa,fr,_,_),_,_)=>ax0 th m fu aa fr,
 λ((th,m,fu,aa,fr,fs,gn),key,val)=>hT th (op0 th key (some val) m fu aa fr fs gn) (op1 th key (some val) m fu aa fr fs gn) (vN th key (some val) m fu aa fr fs gn) (op2 th key (some val) m fu aa fr fs gn) (op3 th key (some val) m fu aa fr fs gn) (op4 th key (some val) m fu aa fr fs gn),
 λ((th,m,fu,aa,fr,fs,gn),key,val)=>aM (opE th key (some val) m fu aa fr fs gn)⟩
abbrev XD:Type:=XT×ByteArray
abbrev aoc:Spec XD:=⟨λ(_,key)=>[.ptr 0 0,.s (.str key)],λ((th,m,fu,aa,fr,fs,gn),_)=>hT th m fu aa fr fs gn,λ((th,m,fu,aa,fr,_,_),_)=>ax0 th m fu aa fr,
 λ((th,m,fu,aa,fr,fs,gn),key)=>hT th (op0 th key none m fu aa fr fs gn) (op1 th key none m fu aa fr fs gn) (vN th key none m fu aa fr fs gn) (op2 th key none m fu aa fr fs gn) (op3 th key none m fu aa fr fs gn) (op4 th key none m fu aa fr fs gn),
 λ((th,m,fu,aa,fr,fs,gn),key)=>aM (opE th key none m fu aa fr fs gn)⟩
def ax1:aK:=[(56,bY aeO arh)]
def ax2:aK:=[(56,bY aeR ari)]
theorem az5(th:Th)(m:As)(fu aa:Int)(fr fs gn:Ws)(key val:ByteArray):run P ax1.sum f33 [] (start f33 [.ptr 0 0,.s (.str key),.s (.str val)] (hT th m fu aa fr fs gn)) (inl:=[55])=
 Tree.ite (decide ((↑key.size:Int)>=1)) (.ite (!decide ((↑key.size:Int)<=24)) (.ret (lz th m fu aa fr fs gn key val) (.s (.aR .i64 1))) (.ite (decide ((↑val.size:Int)>100)) (.ret (lz th m fu aa fr fs gn key val) (.s (.aR .i64 1))) (.ab (bp (some [AV.ptr 0 0,.s (.str key),.fn 57 [.ptr 4 0,.ptr 5 0]])) (.ab (bp (some (lz th m fu aa fr fs gn key val))) (.ab (Ds.bm th m fu) (.ab (Bx.okW fr) (.ab ((0:Int)<=aa/\aa<=65536) (.ab ((1:Nat)<=key.size/\key.size<=24) (.ab (val.size<=100) (.ret (lz th (arl th key (some val) m fu aa fr fs gn) (arn th key (some val) m fu aa fr fs gn) (aro th key (some val) m fu aa fr fs gn) (arp th key (some val) m fu aa fr fs gn) (arq th key (some val) m fu aa fr fs gn) (ars th key (some val) m fu aa fr fs gn) key val) (aM (art th key (some val) m fu aa fr fs gn)))))))))))) (.ret (lz th m fu aa fr fs gn key val) (.s (.aR .i64 1))):=by kernel_rfl
theorem az6(th:Th)(m:As)(fu aa:Int)(fr fs gn:Ws)(key:ByteArray):run P ax2.sum f48 [] (start f48 [.ptr 0 0,.s (.str key)] (hT th m fu aa fr fs gn)) (inl:=[55])=
 Tree.ite (decide ((↑key.size:Int)>=1)) (.ite (!decide ((↑key.size:Int)<=24)) (.ret (jK th m fu aa fr fs gn key) (.s (.aR .i64 1))) (.ab (bp (some [AV.ptr 0 0,.s (.str key),.fn 72 [.ptr 4 0]])) (.ab (bp (some (jK th m fu aa fr fs gn key))) (.ab (Ds.bm th m fu) (.ab (Bx.okW fr) (.ab ((0:Int)<=aa/\aa<=65536) (.ab ((1:Nat)<=key.size/\key.size<=24) (.ab (empty.size<=100) (.ret (jK th (arl th key none m fu aa fr fs gn) (arn th key none m fu aa fr fs gn) (aro th key none m fu aa fr fs gn) (arp th key none m fu aa fr fs gn) (arq th key none m fu aa fr fs gn) (ars th key none m fu aa fr fs gn) key) (aM (art th key none m fu aa fr fs gn))))))))))) (.ret (jK th m fu aa fr fs gn key) (.s (.aR .i64 1))):=by kernel_rfl
theorem acy{th:Th}{key:ByteArray}{op:Option ByteArray}{m:As}{fu aa:Int}{fr fs gn:Ws}(h:iQ key op=true):opT th key op m fu aa fr fs gn=lP th key op m fu aa fr fs gn:=if_pos h
theorem ag1{th:Th}{key:ByteArray}{op:Option ByteArray}{m:As}{fu aa:Int}{fr fs gn:Ws}(h:iQ key op=false):opT th key op m fu aa fr fs gn=(m,fu,aa,fr,fs,gn,1):=if_neg (by rw[h];simp)
theorem ato{th:Th}{m:As}{fu aa:Int}{fr fs gn:Ws}{key val:ByteArray}{c:Chs}(e:opT th key (some val) m fu aa fr fs gn=c):
 aob.dN ((th,m,fu,aa,fr,fs,gn),key,val)=hT th c.1 c.2.1 c.2.2.1 c.2.2.2.1 c.2.2.2.2.1 c.2.2.2.2.2.1/\aob.out ((th,m,fu,aa,fr,fs,gn),key,val)=aM c.2.2.2.2.2.2:=by
 subst e;exact⟨rfl,rfl⟩
theorem atp{th:Th}{m:As}{fu aa:Int}{fr fs gn:Ws}{key:ByteArray}{c:Chs}(e:opT th key none m fu aa fr fs gn=c):
 aoc.dN ((th,m,fu,aa,fr,fs,gn),key)=hT th c.1 c.2.1 c.2.2.1 c.2.2.2.1 c.2.2.2.2.1 c.2.2.2.2.2.1/\aoc.out ((th,m,fu,aa,fr,fs,gn),key)=aM c.2.2.2.2.2.2:=by
 subst e;exact⟨rfl,rfl⟩
theorem aeX:fI P Bx.bO 33 aob:=by
 refine fS func33 ?_;rintro⟨⟨th,m,fu,aa,fr,fs,gn⟩,key,val⟩ ⟨(hd:Ds.bm th m fu),(hf:Bx.okW fr),(hr:0<=aa/\aa<=65536),_⟩ X hX hz
 have no:iQ key (some val)=false->dO aob ((th,m,fu,aa,fr,fs,gn),key,val) (hT th m fu aa fr fs gn++[vW key,vW val]) (.s (.aR .i64 1)):=λh=>by
  have⟨f1,f2⟩:=ato (ag1 (th:=th) (m:=m) (fu:=fu) (aa:=aa) (fr:=fr) (fs:=fs) (gn:=gn) h);exact bD 4 rfl (le_refl _) f2 f1
 refine Ds.cF hz hX (by intro y hy;cases hy) (aK.Ok.cons (aeV.sum arh) aK.Ok.nil) func33 (az5 th m fu aa fr fs gn key val) ⟨λh=>⟨λh2=> ?_,λh2=>⟨λh3=> ?_,λh3=>⟨rfl,rfl,hd,hf,hr, ?_, ?_, ?_⟩⟩⟩,λh=> ?_⟩;have h2:¬(key.size:Int)<=24:=by simpa using h2
 exact no (by simp only[iQ,Bool.and_eq_false_iff,decide_eq_false_iff_not];omega);have h3:=of_decide_eq_true h3;exact no (by simp only[iQ,Bool.and_eq_false_iff,decide_eq_false_iff_not];omega);have h:=of_decide_eq_true h;have h2:(key.size:Int)<=24:=by simpa using h2
 omega;have h3:=of_decide_eq_false h3;omega;have h:=of_decide_eq_true h;have h2:(key.size:Int)<=24:=by simpa using h2
 have h3:=of_decide_eq_false h3;have⟨f1,f2⟩:=ato (acy (th:=th) (key:=key) (op:=some val) (m:=m) (fu:=fu) (aa:=aa) (fr:=fr) (fs:=fs) (gn:=gn) (by simp only[iQ,and_eq_true,decide_eq_true_eq];omega));exact bD 4 rfl (le_refl _) f2 f1;have h:=of_decide_eq_false h;exact no (by simp only[iQ,Bool.and_eq_false_iff,decide_eq_false_iff_not];omega)
theorem aeY:fI P Bx.bO 48 aoc:=by
 refine fS func48 ?_;rintro⟨⟨th,m,fu,aa,fr,fs,gn⟩,key⟩ ⟨(hd:Ds.bm th m fu),(hf:Bx.okW fr),(hr:0<=aa/\aa<=65536),_⟩ X hX hz
 have no:iQ key none=false->dO aoc ((th,m,fu,aa,fr,fs,gn),key) (hT th m fu aa fr fs gn++[vW key]) (.s (.aR .i64 1)):=λh=>by
  have⟨f1,f2⟩:=atp (ag1 (th:=th) (m:=m) (fu:=fu) (aa:=aa) (fr:=fr) (fs:=fs) (gn:=gn) h);exact bD 4 rfl (le_refl _) f2 f1
 refine Ds.cF hz hX (by intro y hy;cases hy) (aK.Ok.cons (aeW.sum ari) aK.Ok.nil) func48 (az6 th m fu aa fr fs gn key) ⟨λh=>⟨λh2=> ?_,λh2=>⟨rfl,rfl,hd,hf,hr, ?_,zero_le 100, ?_⟩⟩,λh=> ?_⟩;have h2:¬(key.size:Int)<=24:=by simpa using h2
 exact no (by simp only[iQ,Bool.and_eq_false_iff,decide_eq_false_iff_not];omega);have h:=of_decide_eq_true h;have h2:(key.size:Int)<=24:=by simpa using h2
 omega;have h:=of_decide_eq_true h;have h2:(key.size:Int)<=24:=by simpa using h2
 have⟨f1,f2⟩:=atp (acy (th:=th) (key:=key) (op:=none) (m:=m) (fu:=fu) (aa:=aa) (fr:=fr) (fs:=fs) (gn:=gn) (by simp only[iQ,and_eq_true,decide_eq_true_eq];omega));exact bD 4 rfl (le_refl _) f2 f1;have h:=of_decide_eq_false h;exact no (by simp only[iQ,Bool.and_eq_false_iff,decide_eq_false_iff_not];omega)
def acz(th:Th)(m:As)(key:ByteArray):Nat->Int->Int->ByteArray×Bool×Int
 |0,_,_=>(empty,false,4)|f+1,n,ad=>
  if gy th m n ad≠0 then(empty,false,gy th m n ad)
  else if lH th m n ad=true then(px (bZ th m n ad) key,nA (bZ th m n ad) key,0)
  else if aX th m n ad=[]then(empty,false,4)
  else acz th m key f ((aX th m n ad).getD (bg (aX th m n ad) key).toNat dB).2.1 (ad+1)
def gtT(th:Th)(m:As)(aa:Int)(key:ByteArray):ByteArray×Bool×Int:=
 if iQ key none=false then(empty,false,1)else if aa=0 then(empty,false,0)else acz th m key 17 aa 1
def gtV(th:Th)(m:As)(aa:Int)(key:ByteArray):ByteArray:=(gtT th m aa key).1
def gtB(th:Th)(m:As)(aa:Int)(key:ByteArray):Bool:=(gtT th m aa key).2.1
def gtE(th:Th)(m:As)(aa:Int)(key:ByteArray):Int:=(gtT th m aa key).2.2
abbrev aod:Spec XD:=⟨λ(_,key)=>[.ptr 0 0,.s (.str key)],λ((th,m,fu,aa,fr,fs,gn),_)=>hT th m fu aa fr fs gn,λ((th,m,fu,aa,_),_)=>[Ds.bm th m fu,0<=aa/\aa<=65536],
 λ((th,m,fu,aa,fr,fs,gn),_)=>hT th m fu aa fr fs gn,λ((th,m,_,aa,_),key)=>.bq [.s (.str (gtV th m aa key)),.s (.bool (gtB th m aa key)),aM (gtE th m aa key)]⟩
abbrev ax3:=sumOf [sP,eU] [eU,dg] (λ(l,_,())=>[(l:List En).length<=1000000,jt (bS l)]) (λ(l,key,())=>(px l key,nA l key,()))
def aoe:aK:=[(61,aaR),(62,ax3),(63,avC)]
def ary:List (Nat×Norm):=[(10,⟨[],[0,1,7,8],4,[]⟩)]
def cGt(th:Th)(m:As)(fu aa:Int)(fr fs gn:Ws)(key:ByteArray)(n ad:Int):bP:=⟨sl 66 [(0,.ptr 0 0),(1,.s (.str key)),(7,aM n),(8,aM ad)],hT th m fu aa fr fs gn,hd f39 10,{}⟩
theorem az7(th:Th)(m:As)(fu aa:Int)(fr fs gn:Ws)(key:ByteArray):run P aoe.sum f39 ary (start f39 [.ptr 0 0,.s (.str key)] (hT th m fu aa fr fs gn)) (inl:=[55])=
 Tree.ite (decide ((↑key.size:Int)>=1)) (.ite (!decide ((↑key.size:Int)<=24)) (.ret (hT th m fu aa fr fs gn) (.bq [.s (.str empty),.s (.aI false),.s (.aR .i64 1)])) (.ite (aa==0) (.ret (hT th m fu aa fr fs gn) (.bq [.s (.str empty),.s (.aI false),.s (.aR .i64 0)])) (.at (cGt th m fu aa fr fs gn key aa 1)))) (.ret (hT th m fu aa fr fs gn) (.bq [.s (.str empty),.s (.aI false),.s (.aR .i64 1)])):=by kernel_rfl
theorem az8(th:Th)(m:As)(fu aa:Int)(fr fs gn:Ws)(key:ByteArray)(n ad:Int):run P aoe.sum f39 ary (cGt th m fu aa fr fs gn key n ad) (inl:=[55])=
 Tree.ab (bp (some [AV.ptr 0 0,aM n,aM ad])) (.ab (bp (some (hT th m fu aa fr fs gn))) (.ab (Ds.bm th m fu) (.ab (aA n) (.ite (gy th m n ad !=0) (.ret (hT th m fu aa fr fs gn++[.aq [.s (.bool (lH th m n ad)),.s (.ro (.au cE (bZ th m n ad))),.s (.ro (.au cB (aX th m n ad)))] 100]) (.bq [.s (.str empty),.s (.aI false),aM (gy th m n ad)])) (.ite (lH th m n ad) (.ab ((bZ th m n ad).length<=1000000) (.ab (jt (bS (bZ th m n ad))) (.ret (hT th m fu aa fr fs gn++[.aq [.s (.bool (lH th m n ad)),.s (.ro (.au cE (bZ th m n ad))),.s (.ro (.au cB (aX th m n ad)))] 100]) (.bq [.s (.str (px (bZ th m n ad) key)),.s (.bool (nA (bZ th m n ad) key)),.s (.aR .i64 0)])))) (.ite ((↑(aX th m n ad).length:Int)==0) (.ret (hT th m fu aa fr fs gn++[.aq [.s (.bool (lH th m n ad)),.s (.ro (.au cE (bZ th m n ad))),.s (.ro (.au cB (aX th m n ad)))] 100]) (.bq [.s (.str empty),.s (.aI false),.s (.aR .i64 4)])) (.ab ((aX th m n ad).length<=1000000) (.ab (jt (nN (aX th m n ad))) (.ab ((0:Int)<=bg (aX th m n ad) key) (.ab (bg (aX th m n ad) key<(↑(aX th m n ad).length:Int)) (.ab (aA (ad+1)) (.at (cGt th m fu aa fr fs gn key ((aX th m n ad).getD (bg (aX th m n ad) key).toNat (CL.d cB)).snd.fst (ad+1)))))))))))))):=by kernel_rfl
theorem aeZ{Z:bh}:aoe.Ok P Z:=aK.Ok.cons (p6.sum mNo) (aK.Ok.cons aqt.sum (aK.Ok.cons yl.sum aK.Ok.nil))
theorem ae0{th:Th}{m:As}{fu aa:Int}{fr fs gn:Ws}{key:ByteArray}{c:ByteArray×Bool×Int}(e:c=gtT th m aa key):
 aod.out ((th,m,fu,aa,fr,fs,gn),key)=.bq [.s (.str c.1),.s (.bool c.2.1),aM c.2.2]:=by
 subst e;rfl
theorem avV{Z:bh}:fI P Z 39 aod:=by
 refine fS func39 ?_;rintro⟨⟨th,m,fu,aa,fr,fs,gn⟩,key⟩ ⟨(hd:Ds.bm th m fu),(hr:0<=aa/\aa<=65536),_⟩ X hX hz
 have hm:∀y∈ary,(hT th m fu aa fr fs gn).length<=y.2.m:=λy hy=>by
  simp only[ary,mem_singleton]at hy;subst hy;exact le_refl _
 have loop:∀(f:Nat) (n ad:Int),1<=ad/\ad<=17->18<=ad+(f:Int)->0<=n/\n<=65536->acz th m key f n ad=gtT th m aa key->
  Safe P 39 X (dO aod ((th,m,fu,aa,fr,fs,gn),key)) (cGt th m fu aa fr fs gn key n ad):=by
  intro f
  induction f with
  |zero=>intro n ad h1 h2;omega
  |succ f ih=>
   intro n ad h1 h2 hn e;rw[acz]at e;refine Ds.cF hz hX hm aeZ func39 (az8 th m fu aa fr fs gn key n ad) ⟨rfl,rfl,hd,rA (by omega) (by omega),λh=> ?_,λh=> ?_⟩;have h:gy th m n ad≠0:=by simpa using h
   rw[if_pos h]at e;exact bD 4 rfl (le_refl _) (ae0 e) rfl;have h:gy th m n ad=0:=by simpa using h
   have⟨az9,n1,n2,_,_,n5,_⟩:=fp h;have⟨s1,s2⟩:=s7 az9;rw[if_neg (by rw[h];simp)]at e;refine⟨λhl=>⟨by omega,s1, ?_⟩,λhl=>⟨λh3=> ?_,λh3=> ?_⟩⟩;rw[if_pos hl]at e;exact bD 4 rfl (le_refl _) (ae0 e) rfl
   have h3:aX th m n ad=[]:=List.eq_nil_of_length_eq_zero (by have:((aX th m n ad).length:Int)=0:=by simpa using h3
                                                              omega)
   rw[if_neg (by rw[hl];simp),if_pos h3]at e;exact bD 4 rfl (le_refl _) (ae0 e) rfl;have h3:aX th m n ad≠[]:=λe=>by rw[e]at h3;simp at h3
   rw[if_neg (by rw[hl];simp),if_neg h3]at e;have⟨p0,p1⟩:=uM (key:=key) s2 h3;exact⟨by omega,s2,p0,p1,rA (by omega) (by omega),ih _ _ ⟨by omega,by omega⟩ (by omega) (uN h _) e⟩
 have no:iQ key none=false->dO aod ((th,m,fu,aa,fr,fs,gn),key) (hT th m fu aa fr fs gn) (.bq [.s (.str empty),.s (.aI false),.s (.aR .i64 1)]):=λh=>
  bD 4 rfl (le_refl _) (ae0 (c:=(empty,false,1)) (by unfold gtT;rw[if_pos h])) rfl
 refine Ds.cF hz hX hm aeZ func39 (az7 th m fu aa fr fs gn key) ⟨λh=>⟨λh2=> ?_,λh2=> ?_⟩,λh=> ?_⟩;have h2:¬(key.size:Int)<=24:=by simpa using h2
 exact no (by simp only[iQ,Bool.and_eq_false_iff,decide_eq_false_iff_not];omega);have h:=of_decide_eq_true h;have h2:(key.size:Int)<=24:=by simpa using h2
 have ok:iQ key none=true:=by simp only[iQ,and_eq_true,decide_eq_true_eq];omega
 refine⟨λh3=> ?_,λh3=> ?_⟩;have h3:aa=0:=by simpa using h3
 exact bD 4 rfl (le_refl _) (ae0 (c:=(empty,false,0)) (by unfold gtT;rw[if_neg (by rw[ok];simp),if_pos h3])) rfl;have h3:aa≠0:=by simpa using h3
 exact loop 17 aa 1 ⟨by omega,by omega⟩ (by omega) hr (by unfold gtT;rw[if_neg (by rw[ok];simp),if_neg h3]);have h:=of_decide_eq_false h;exact no (by simp only[iQ,Bool.and_eq_false_iff,decide_eq_false_iff_not];omega)
end Ts
namespace Go.Sx
open Go
section
variable{P:Program}{X:Ctx}{K:List ak->AV->Prop}{L:List ak}
theorem aof{f:FuncId}{tmps:List AV}{todo:List Item}{stk:uf}{id:Nat}{ay dd:List AV}{e:TypeId}(dq:L[id]? =some (.aq ay e))
 (hc:∀(ρ:Nat->Value) (H:aS) (O:Nat->Prop) (w:World) (cells:List Value),az ρ H O w ay cells->az ρ H O w dd cells)
 (h:Safe P f X K ⟨tmps,L.set id (.aq dd e),todo,stk⟩):Safe P f X K ⟨tmps,L,todo,stk⟩:=by
 intro G E ρ a w gL hZ hr b t fs hw;have hs:Sat ρ (lk L) G w:=hr.sat;have bo:id<L.length:=(List.getElem?_eq_some_iff.1 dq).1
 have eL:lk (L.set id (.aq dd e))=aB (lk L) id (.aq dd e):=by
  funext k;show(L.set id (.aq dd e))[k]? =_;rw[getElem?_set];by_cases hk:id=k;subst hk;simp[aB,bo];rw[if_neg hk];simp[aB,Ne.symm hk]
 have st0:Step ρ (lk L) (aV ρ (lk L) G) w ρ (aB (lk L) id (.aq dd e)) (aV ρ (lk L) G) w:=by
  refine⟨λ_ _ _=>rfl,λj x hx=> ?_,λc hc=>.inl hc,λc _ _=>rfl,le_refl _⟩;by_cases hj:j=id;subst hj;exact⟨.aq dd e,by simp[aB],λc' e' hc=>by cases hc⟩;exact⟨x,by simp[aB,hj,hx],λc' e' hc=>⟨c',e',hc,rfl,rfl⟩⟩
 have dT:iv ρ (aB (lk L) id (.aq dd e)) (aV ρ (lk L) G) w (ρ id) (.aq dd e):=by
  have⟨b2,cells,fr,h1,h2,h3,h4⟩:=hs.obj id _ dq;exact⟨b2,cells,fr,h1,h2,h3,(hc _ _ _ _ _ h4).step st0⟩
 have⟨aL,s',_,st,_⟩:=Good.upd (H:=lk L) (o':=.aq dd e) (r:=.s .aY) (v:=undef) hs dq rfl (λc2 e2 he=>by cases he) dT (by unfold af;trivial);rw[<-eL]at s' st;exact h G E aL a w gL hZ ⟨s',hr.size,λu=>(hr.den u).step st,hr.defers,hr.ao.trans st,hr.jF,hr.kept⟩ b t fs hw
theorem vK{k:IntKind}{n:Int}:∀{ay:List AV} {j:Nat},ay[j]? =some (.s (.int k n))->∀(ρ:Nat->Value) (H:aS) (O:Nat->Prop) (w:World) (cells:List Value),az ρ H O w ay cells->az ρ H O w (ay.set j (.s (.aR k n))) cells
 |[],j,h,_,_,_,_,_,_=>by simp at h
 |a::ay,0,h,ρ,H,O,w,cells,hd=>by
  simp only[List.getElem?_cons_zero,Option.some.injEq]at h;subst h;obtain⟨c1,c2,rfl,h1,h2⟩:=ag.1 hd;refine ag.2 ⟨c1,c2,rfl, ?_,h2⟩;unfold aQ at h1 ⊢;obtain⟨u,rfl,hu⟩:=h1;cases hu;exact⟨_,rfl,.aR _ _⟩
 |a::ay,j+1,h,ρ,H,O,w,cells,hd=>by
  obtain⟨c1,c2,rfl,h1,h2⟩:=ag.1 hd;exact ag.2 ⟨c1,c2,rfl,h1,vK (by simpa using h) ρ H O w c2 h2⟩
theorem m6{f:FuncId}{tmps:List AV}{todo:List Item}{stk:uf}{id:Nat}{ay:List AV}{e:TypeId}(dq:L[id]? =some (.aq ay e)){j:Nat}{k:IntKind}{n:Int}(hj:ay[j]? =some (.s (.int k n)))
 (h:Safe P f X K ⟨tmps,L.set id (.aq (ay.set j (.s (.aR k n))) e),todo,stk⟩):Safe P f X K ⟨tmps,L,todo,stk⟩:=
 aof dq (vK hj) h
end
def ae1(id n:Nat):AV->AV
 |.vec j=>bif j.beq id then .vec n else .vec j|a=>a
def ag2(id n:Nat):AV->AV
 |.agg ay=>.agg (ay.map (ae1 id n))|.vec j=>bif j.beq id then .vec n else .vec j|a=>a
def mvO(id n:Nat):ak->ak
 |.aq ay e=>.aq (ay.map (ae1 id n)) e|o=>o
def arz(s:St)(id:Nat):St:=
 match s.H[id]? with
 |some (.vec c e)=>⟨s.tmps.map (ag2 id s.H.length),(s.H.map (mvO id s.H.length)).set id .aw++[.vec c e]⟩|_=>s
section
variable{ρ aL:Nat->Value}{H H':aS}{G O O':Nat->Prop}{w w':World}{P:Program}{Z:bh}{X:Ctx}{s:St}{a:Act}
theorem akL{id n:Nat}{o:ak}:(mvO id n o).alive=o.alive:=by cases o<;>rfl
theorem arA{id n:Nat}{o:ak}{c':aU}{e':TypeId}(h:mvO id n o=.vec c' e'):o=.vec c' e':=by
 cases o<;>simp[mvO]at h ⊢;exact h
theorem cg.mv(h:cg X ρ s a w)(id:Nat):∃aL,cg X aL (arz s id) a w:=by
 unfold arz;split;rename_i c e ho;have hs:=h.sat;have bo:id<s.H.length:=(List.getElem?_eq_some_iff.1 ho).1;let n:=s.H.length;let aL:Nat->Value:=λj=>if j=n then ρ id else ρ j
 let s':St:=⟨s.tmps.map (ag2 id n),(s.H.map (mvO id n)).set id .aw++[.vec c e]⟩
 have look:∀j,s'.look j=if j=n then some (.vec c e)else if j=id then some .aw else(s.look j).map (mvO id n):=by
  intro j;show((s.H.map (mvO id n)).set id .aw++[.vec c e])[j]? =_;by_cases hj:j=n;subst hj;rw[if_pos rfl,getElem?_append_right (by simp[n])];simp[n];rw[if_neg hj];by_cases hl:j<n;rw[getElem?_append_left (by simpa[n]using hl),getElem?_set];by_cases hi:id=j;subst hi;simp[bo];rw[if_neg hi,if_neg (Ne.symm hi),getElem?_map];rfl;rw[getElem?_eq_none (by simp only[length_append,length_set,length_map,List.length_singleton];show n+1<=j;omega),if_neg (by omega)];have:s.look j=none:=getElem?_eq_none (by show n<=j;omega);rw[this];rfl
 have atq:∀{j:Nat} {o:ak},s.look j=some o->j<n:=λhj=>(List.getElem?_eq_some_iff.1 hj).1
 have back:∀j o,s'.look j=some o->o.alive=true->∃x,s.look (if j=n then id else j)=some x/\x.alive=true/\aL j=ρ (if j=n then id else j)/\(j≠n->j≠id):=by
  intro j o hj ha;rw[look]at hj;by_cases e1:j=n;rw[if_pos e1];exact⟨.vec c e,ho,rfl,by simp[aL,e1],λh=>absurd e1 h⟩;rw[if_neg e1]at hj ⊢;by_cases e2:j=id;rw[if_pos e2]at hj;cases hj;cases ha;rw[if_neg e2]at hj;obtain⟨o0,h3,rfl⟩:=map_eq_some_iff.1 hj;exact⟨o0,h3,by rw[akL]at ha;exact ha,by simp[aL,e1],λ_=>e2⟩
 have aq:∀b,Own aL s'.look b->Own ρ s.look b:=by
  rintro b ⟨j,o,hj,h1,h2⟩;have⟨x,g1,g2,g3,_⟩:=back j o hj h1;exact⟨_,x,g1,g2,by rw[<-g3];exact h2⟩
 have st:Step ρ s.look (aV ρ s.look X.G) w aL s'.look (aV aL s'.look X.G) w:=by
  refine⟨λj o hj=> ?_,λj o hj=> ?_,λb hb=>.inl (hb.imp (aq b) (λx=>x)),λ_ _ _=>rfl,le_refl _⟩;have:=atq hj;simp only[aL];rw[if_neg (by omega)];have hjn:j≠n:=Nat.ne_of_lt (atq hj);by_cases e1:j=id;exact⟨.aw,by rw[look,if_neg hjn,if_pos e1],λc' e' he=>by cases he⟩;refine⟨mvO id n o,by rw[look,if_neg hjn,if_neg e1,hj];rfl,λc' e' he=> ?_⟩;exact⟨c',e',arA he,rfl,rfl⟩
 have ax4:s'.look n=some (.vec c e):=by rw[look,if_pos rfl]
 have ax5:aL n=ρ id:=by simp[aL]
 have hi:s.look id=some (.vec c e):=ho
 have ax6:∀{v:Value},aN ρ s.look (aV ρ s.look X.G) w (.vec id) v->aN aL s'.look (aV aL s'.look X.G) w (.vec n) v:=by
  intro v hv;unfold aN at hv ⊢;have⟨h0,o,h1,h2⟩:=hv;rw[hi]at h1;cases h1;exact⟨h0,.vec c e,ax4,λc' e' _=>by rw[ax5];exact h2 c e rfl⟩
 have agf:∀x cs,aQ ρ s.look (aV ρ s.look X.G) w x cs->aQ aL s'.look (aV aL s'.look X.G) w (ae1 id n x) cs:=by
  intro x cs hx;have ni:=aQ.step st x cs hx;cases x<;>try exact ni
  rename_i j;simp only[ae1,cond_eq_ite];split;rename_i hj;have hj:j=id:=by simpa using hj
  subst hj;unfold aQ at hx ⊢;obtain⟨u,rfl,hu⟩:=hx;exact⟨u,rfl,ax6 hu⟩;exact ni
 have np:∀(xs:List AV) cs,az ρ s.look (aV ρ s.look X.G) w xs cs->az aL s'.look (aV aL s'.look X.G) w (xs.map (ae1 id n)) cs:=by
  intro xs
  induction xs with
  |nil=>intro cs hx;exact aC.2 (aC.1 hx)
  |cons x xs ih=>
   intro cs hx;obtain⟨c1,c2,rfl,h1,h2⟩:=ag.1 hx;exact ag.2 ⟨c1,c2,rfl,agf _ _ h1,ih _ h2⟩
 have aue:∀x v,af ρ s.look (aV ρ s.look X.G) w x v->af aL s'.look (aV aL s'.look X.G) w (ag2 id n x) v:=by
  intro x v hx;have ni:=af.step st x v hx;cases x with
  |agg ay=>
   unfold af at hx;obtain⟨cs,rfl,h1⟩:=hx;show af _ _ _ _ (.agg _) _;unfold af;exact⟨cs,rfl,np _ _ h1⟩
  |vec j=>
   simp only[ag2,cond_eq_ite];split;rename_i hj;have hj:j=id:=by simpa using hj
   subst hj;unfold af at hx ⊢;exact ax6 hx;exact ni
  |_=>exact ni
 refine⟨aL,⟨λj o hj=> ?_,λi j oi oj b h1 h2 h3 h4 h5 h6=> ?_,λb hb=>hs.apart b (aq b hb),hs.low⟩,by rw[<-h.size];exact length_map _,λt=> ?_,h.defers,h.ao.trans st,h.jF,h.kept⟩;have hj:s'.look j=some o:=hj;rw[look]at hj;by_cases e0:j=n;rw[if_pos e0]at hj;cases hj;subst e0;rw[ax5];exact(hs.obj id _ hi).step st (λ_ _ _=>rfl);rw[if_neg e0]at hj;have hr:aL j=ρ j:=by simp[aL,e0]
 rw[hr];by_cases e1:j=id;rw[if_pos e1]at hj;cases hj;trivial;rw[if_neg e1]at hj;obtain⟨o0,h3,rfl⟩:=map_eq_some_iff.1 hj;have dT:=hs.obj j o0 h3;cases o0 with
 |aq ay e1=>
  have⟨b,cells,fr,g1,g2,g3,g4⟩:=dT;exact⟨b,cells,fr,g1,g2,g3,np _ _ g4⟩
 |_=>exact dT.step st (λ_ _ _=>rfl)
 have⟨x,hx,hxa,hxr,hxi⟩:=back i oi h1 h3;have⟨y,hy,hya,hyr,hyi⟩:=back j oj h2 h4;have:=hs.inj _ _ x y b hx hy hxa hya (by rw[<-hxr];exact h5) (by rw[<-hyr];exact h6);by_cases e1:i=n;by_cases e2:j=n;omega;rw[if_pos e1,if_neg e2]at this;exact absurd this.symm (hyi e2);by_cases e2:j=n;rw[if_neg e1,if_pos e2]at this;exact absurd this (hxi e1);rw[if_neg e1,if_neg e2]at this;exact this
 have e1:(s.tmps.map (ag2 id n)).getD t (.s .aY)=ag2 id n (s.tmps.getD t (.s .aY)):=by
  rw[List.getD_eq_getElem?_getD,List.getD_eq_getElem?_getD,getElem?_map];cases s.tmps[t]? <;>rfl
 show af aL s'.look _ w ((s.tmps.map (ag2 id n)).getD t (.s .aY)) _;rw[e1];exact aue _ _ (h.den t);exact⟨ρ,h⟩
variable{K:List ak->AV->Prop}
theorem rB{f:FuncId}{tmps:List AV}{L:List ak}{todo:List Item}{stk:uf}(id:Nat){c:bP}(e:(⟨(arz ⟨tmps,L⟩ id).tmps,(arz ⟨tmps,L⟩ id).H,todo,stk⟩:bP)=c)(h:Safe P f X K c):Safe P f X K ⟨tmps,L,todo,stk⟩:=by
 subst e;intro G E ρ a w gL hZ hr b t fs hw;have⟨aL,r'⟩:=hr.mv id;exact h G E aL a w gL hZ r' b t fs hw
end
end Go.Sx
namespace Ts
open Go Go.Sx Go.Proofs Lf
abbrev fL1:FuncId:=71
abbrev fG1:FuncId:=50
abbrev fW1:FuncId:=74
def geE(k:ByteArray)(e:En):Bool:= !slt e.1 k
abbrev sL1:Spec (Int×(Bool×List En×List Br)×ByteArray×List En):=⟨λ(n,(l,es,bs),_,_)=>[aM n,avN l es bs,.ptr 0 0,.ptr 1 0],λ(_,_,ao,out)=>[vW ao,.aq [.vec 2] 29,.vec (.au cE out) Lf.eE],
 λ(_,(_,es,_),_,out)=>[(es:List En).length<=1000,(out:List En).length<=100000000],λ(_,(_,es,_),ao,out)=>[vW ao,.aq [.vec 3] 29,.aw,.vec (.au cE (out++es.filter (geE ao))) Lf.eE],λ_=>.bq []⟩
def aog:List (Nat×Norm):=[(1,⟨[],[2,3,5],3,[]⟩),(2,⟨[],[2,3,9,10,11],3,[]⟩)]
def aAa(l:Bool)(es:List En)(bs:List Br)(ao:ByteArray)(out:List En):bP:=⟨sl 24 [(2,.ptr 0 0),(3,.ptr 1 0),(5,.ptr 3 0)],[vW ao,.aq [.vec 2] 29,.vec (.au cE out) Lf.eE,obN l es bs eN],hr f71 1,{}⟩
def ax7(l:Bool)(es:List En)(bs:List Br)(ao:ByteArray)(out:List En):bP:=⟨sl 24 [(2,.ptr 0 0),(3,.ptr 1 0),(5,.ptr 3 0)],[vW ao,.aq [.vec 4] 29,.aw,obN l es bs eN,.vec (.au cE out) Lf.eE],hr f71 1,{}⟩
def cL1(es:List En)(ao:ByteArray)(out:List En)(i:Int):bP:=⟨sl 24 [(2,.ptr 0 0),(3,.ptr 1 0),(9,.s (.ro (.au cE es))),(10,aM (es.length:Int)),(11,aM i)],[vW ao,.aq [.vec 3] 29,.aw,.vec (.au cE out) Lf.eE],hd f71 2,{}⟩
theorem aAb(n:Int)(l:Bool)(es:List En)(bs:List Br)(ao:ByteArray)(out:List En):run P (aK.sum []) f71 aog (start f71 [aM n,avN l es bs,.ptr 0 0,.ptr 1 0] [vW ao,.aq [.vec 2] 29,.vec (.au cE out) Lf.eE])=
 Tree.at (aAa l es bs ao out):=by kernel_rfl
theorem aAc(l:Bool)(es:List En)(bs:List Br)(ao:ByteArray)(out:List En):run P (aK.sum []) f71 aog (ax7 l es bs ao out)=
 Tree.at (cL1 es ao out 0):=by kernel_rfl
theorem ax8(es:List En)(ao:ByteArray)(out:List En)(i:Int):run P (aK.sum []) f71 aog (cL1 es ao out i)=
 Tree.ite (decide (i<es.length)) (.ab ((0:Int)<=i) (.ab (i<es.length) (.ite (!slt (es.getD i.toNat (CL.d cE)).fst ao) (.ab ((out.length+1)*(32:Nat)<=140737488355328) (.ab (aA (i+1)) (.at (cL1 es ao (out++[((es.getD i.toNat (CL.d cE)).fst,(es.getD i.toNat (CL.d cE)).snd.fst,())]) (i+1))))) (.ab (aA (i+1)) (.at (cL1 es ao out (i+1))))))) (.ret [.aq [.s (.str ao)] 9,.aq [.vec 3] 29,.aw,.vec (.au cE out) 76] (.bq [])):=by kernel_rfl
theorem ae2{α:Type}{p:α->Bool}{l:List α}{k:Nat}{d:α}(h:k<l.length):(l.take (k+1)).filter p=(l.take k).filter p++(if p (l.getD k d)=true then [l.getD k d]else []):=by
 rw[<-ic (d:=d) h,List.filter_append];congr 1;cases h2:p (l.getD k d);rw[List.filter_cons_of_neg (by rw[h2];simp)];rfl;rw[List.filter_cons_of_pos h2];rfl
theorem filter_le{α:Type}(p:α->Bool)(l:List α):(l.filter p).length<=l.length:=List.length_filter_le _ _
theorem aoh{Z:bh}:fI P Z 71 sL1:=by
 refine fS func71 ?_;rintro⟨n,⟨l,es,bs⟩,ao,out⟩ ⟨(he:es.length<=1000),(ho:out.length<=100000000),_⟩ X hX hz
 have hm:∀y∈aog,([vW ao,.aq [.vec 2] 29,.vec (.au cE out) Lf.eE]:List ak).length<=y.2.m:=λy hy=>by
  simp only[aog,mem_cons,List.not_mem_nil,or_false]at hy;rcases hy with rfl|rfl<;>exact le_refl _
 have loop:∀(j k:Nat),k+j=es.length->Safe P 71 X (dO sL1 (n,(l,es,bs),ao,out)) (cL1 es ao (out++(es.take k).filter (geE ao)) (k:Int)):=by
  intro j
  induction j with
  |zero=>
   intro k hk;refine Ds.cF hz hX hm aK.Ok.nil func71 (ax8 es ao _ k) ⟨λh=>absurd (of_decide_eq_true h) (by omega),λh=> ?_⟩;rw[take_of_length_le (by omega)];exact bD 3 rfl (le_refl _) rfl rfl
  |succ j ih=>
   intro k hk;have e:=ae2 (p:=geE ao) (l:=es) (k:=k) (d:=dE) (by omega);have hl:=filter_le (geE ao) (es.take k);rw[length_take]at hl;refine Ds.cF hz hX hm aK.Ok.nil func71 (ax8 es ao _ k) ⟨λh=>⟨by omega,by omega,λhg=>⟨?_,⟨by omega,by omega⟩, ?_⟩,λhg=>⟨⟨by omega,by omega⟩, ?_⟩⟩,λh=>absurd (of_decide_eq_false h) (by omega)⟩;show(_+1)*32<=140737488355328;rw[length_append];omega;have hg:geE ao (es.getD k dE)=true:=hg;rw[if_pos hg]at e;have:=ih (k+1) (by omega);rw[e,<-append_assoc]at this;exact this;have hg:geE ao (es.getD k dE)=false:=hg;rw[if_neg (by rw[hg];simp),append_nil]at e;have:=ih (k+1) (by omega);rw[e]at this;exact this
 refine Ds.cF hz hX hm aK.Ok.nil func71 (aAb n l es bs ao out) ?_;refine rB 2 (c:=ax7 l es bs ao out) rfl ?_;refine Ds.cF hz hX hm aK.Ok.nil func71 (aAc l es bs ao out) ?_;have:=loop es.length 0 (by omega);rw[List.take_zero,List.filter_nil,append_nil]at this;exact this
def tq{σ:Type}(g:Ws->σ->Int->Ws×σ×Int):List Br->Ws->σ->Ws×σ×Int
 |[],met,out=>(met,out,0)|b::r,met,out=>if(g met out b.2.1).2.2≠0 then g met out b.2.1 else tq g r (g met out b.2.1).1 (g met out b.2.1).2.1
def eb{σ:Type}(on:σ->Int->List En->σ)(th:Th)(m:As):Nat->Int->Ws->σ->Int->Ws×σ×Int
 |0,_,met,out,_=>(met,out,4)|f+1,ad,met,out,n=>
  if gy th m n ad≠0 then(met,out,gy th m n ad)
  else if Bx.mV met n=true then(met,out,4)
  else tq (eb on th m f (ad+1)) (aX th m n ad) (Bx.dk met n) (on out n (bZ th m n ad))
def tu(ao:ByteArray)(out:List En)(_:Int)(es:List En):List En:=out++es.filter (geE ao)
def qk(out:Ws)(n:Int)(_:List En):Ws:=Bx.dk out n
def im(ws:Ws):Nat:=(Bx.agO ws).length
abbrev tT1:TypeId:=68
abbrev tOn:TypeId:=101
abbrev tVi:TypeId:=123
abbrev eSt:TypeId:=67
abbrev eLE:TypeId:=29
abbrev sG1:Spec (Int×(Bool×List En×List Br)×Ws):=⟨λ(n,(l,es,bs),_)=>[aM n,avN l es bs,.ptr 0 0],λ(_,_,out)=>[.aq [.ah .u64 16 out] eSt],λ_=>[],λ(n,_,out)=>[.aq [.ah .u64 16 (Bx.dk out n)] eSt],λ_=>.bq []⟩
def mL1:List AV->RM ((Int×(Bool×List En×List Br)×ByteArray×List En)×List Nat)
 |[n,x,.ptr a 0,.ptr b 0]=>match n.cC,avz x with
  |some (_,_,n),some nd=>.look a λo=>match o with
   |some (.aq [.s (.str ao)] _)=>.look b λo=>match o with
    |some (.aq [.vec r] _)=>.look r λo=>match o with
     |some (.vec (.au [.str,.str] out) _)=>.ret ((n,nd,ao,out),[a,b,r])|_=>.fail ""
    |_=>.fail ""
   |_=>.fail ""
  |_,_=>.fail ""
 |_=>.fail ""
def mG1:List AV->RM ((Int×(Bool×List En×List Br)×Ws)×List Nat)
 |[n,x,.ptr a 0]=>match n.cC,avz x with
  |some (_,_,n),some nd=>.look a λo=>match o with
   |some (.aq [.ah .u64 16 out] _)=>.ret ((n,nd,out),[a])|_=>.fail ""
  |_,_=>.fail ""
 |_=>.fail ""
def arB(th:Th)(m:As)(f:Nat)(ad:Int)(met:Ws)(ao:ByteArray)(out:List En)(n:Int):Ws:=(eb (tu ao) th m f ad met out n).1
def arC(th:Th)(m:As)(f:Nat)(ad:Int)(met:Ws)(ao:ByteArray)(out:List En)(n:Int):List En:=(eb (tu ao) th m f ad met out n).2.1
def arD(th:Th)(m:As)(f:Nat)(ad:Int)(met:Ws)(ao:ByteArray)(out:List En)(n:Int):Int:=(eb (tu ao) th m f ad met out n).2.2
abbrev XVL:Type:=XT×Int×Int×Ws×ByteArray×List En
abbrev hVL(th:Th)(m:As)(fu aa:Int)(fr fs gn met:Ws):List ak:=hT th m fu aa fr fs gn++[.aq [.ptr 0 0] tT1,.aq [.ah .u64 16 met] eSt,.aq [.fn fL1 [.ptr 8 0,.ptr 9 0]] tOn,.aq [.fn fW1 [.ptr 4 0,.ptr 5 0,.ptr 6 0,.ptr 7 0]] tVi]
abbrev ae3(f:Nat):Spec XVL:=⟨λ(_,n,ad,_)=>[aM n,aM ad,.ptr 4 0,.ptr 5 0,.ptr 6 0,.ptr 7 0],λ((th,m,fu,aa,fr,fs,gn),_,_,met,ao,out)=>hVL th m fu aa fr fs gn met++[vW ao,.aq [.vec 10] eLE,.vec (.au cE out) Lf.eE],
 λ((th,m,fu,_),n,ad,met,_,out)=>[Ds.bm th m fu,0<=n/\n<=65536,1<=ad/\ad<=17,18<=ad+(f:Int),Bx.okW met,List.length (α:=En) out<=126*im met],
 λ((th,m,fu,aa,fr,fs,gn),n,ad,met,ao,out)=>hVL th m fu aa fr fs gn (arB th m f ad met ao out n)++[vW ao,.aq [.vec 11] eLE,.aw,.vec (.au cE (arC th m f ad met ao out n)) Lf.eE],
 λ((th,m,_),n,ad,met,ao,out)=>aM (arD th m f ad met ao out n)⟩
def arE:List AV->RM (XVL×List Nat)
 |[n,d,.ptr a 0,.ptr b 0,.ptr c 0,.ptr v 0]=>match n.cC,d.cC with
  |some (_,_,n),some (_,_,d)=>.look a λo=>match o with
   |some (.aq [.ptr t 0] _)=>(mT [.ptr t 0]).bind λ(X,σ)=>.look b λo=>match o with
    |some (.aq [.ah .u64 16 met] _)=>.look c λo=>match o with
     |some (.aq [.fn _ [.ptr p 0,.ptr q 0]] _)=>.look p λo=>match o with
      |some (.aq [.s (.str ao)] _)=>.look q λo=>match o with
       |some (.aq [.vec r] _)=>.look r λo=>match o with
        |some (.vec (.au [.str,.str] out) _)=>.ret ((X,n,d,met,ao,out),σ++[a,b,c,v,p,q,r])|_=>.fail ""
       |_=>.fail ""
      |_=>.fail ""
     |_=>.fail ""
    |_=>.fail ""
   |_=>.fail ""
  |_,_=>.fail ""
 |_=>.fail ""
def acA(f:Nat):aK:=[(61,aaR),(75,avu),(51,aew),(fL1,bY sL1 mL1),(fW1,bY (ae3 f) arE)]
def aiP:List (Nat×Norm):=[(9,⟨[],[1,5,35,36,37],11,[]⟩)]
def arF(th:Th)(m:As)(fu aa:Int)(fr fs gn met:Ws)(ao:ByteArray)(out:List En)(bs:List Br)(ad i:Int):bP:=⟨sl 51 [(1,aM ad),(5,.ptr 7 0),(35,.s (.ro (.au cB bs))),(36,aM (bs.length:Int)),(37,aM i)],hVL th m fu aa fr fs gn met++[vW ao,.aq [.vec 11] eLE,.aw,.vec (.au cE out) Lf.eE],hd f74 9,{}⟩
def arG(th:Th)(m:As)(f:Nat)(ad:Int)(met:Ws)(out:Ws)(n:Int):Ws:=(eb qk th m f ad met out n).1
def arH(th:Th)(m:As)(f:Nat)(ad:Int)(met:Ws)(out:Ws)(n:Int):Ws:=(eb qk th m f ad met out n).2.1
def arI(th:Th)(m:As)(f:Nat)(ad:Int)(met:Ws)(out:Ws)(n:Int):Int:=(eb qk th m f ad met out n).2.2
abbrev XVG:Type:=XT×Int×Int×Ws×Ws
abbrev hVG(th:Th)(m:As)(fu aa:Int)(fr fs gn met:Ws):List ak:=hT th m fu aa fr fs gn++[.aq [.ptr 0 0] tT1,.aq [.ah .u64 16 met] eSt,.aq [.fn fG1 [.ptr 8 0]] tOn,.aq [.fn fW1 [.ptr 4 0,.ptr 5 0,.ptr 6 0,.ptr 7 0]] tVi]
abbrev ae4(f:Nat):Spec XVG:=⟨λ(_,n,ad,_)=>[aM n,aM ad,.ptr 4 0,.ptr 5 0,.ptr 6 0,.ptr 7 0],λ((th,m,fu,aa,fr,fs,gn),_,_,met,out)=>hVG th m fu aa fr fs gn met++[.aq [.ah .u64 16 out] eSt],
 λ((th,m,fu,_),n,ad,met,out)=>[Ds.bm th m fu,0<=n/\n<=65536,1<=ad/\ad<=17,18<=ad+(f:Int),Bx.okW met,0<=0],
 λ((th,m,fu,aa,fr,fs,gn),n,ad,met,out)=>hVG th m fu aa fr fs gn (arG th m f ad met out n)++[.aq [.ah .u64 16 (arH th m f ad met out n)] eSt],
 λ((th,m,_),n,ad,met,out)=>aM (arI th m f ad met out n)⟩
def arJ:List AV->RM (XVG×List Nat)
 |[n,d,.ptr a 0,.ptr b 0,.ptr c 0,.ptr v 0]=>match n.cC,d.cC with
  |some (_,_,n),some (_,_,d)=>.look a λo=>match o with
   |some (.aq [.ptr t 0] _)=>(mT [.ptr t 0]).bind λ(X,σ)=>.look b λo=>match o with
    |some (.aq [.ah .u64 16 met] _)=>.look c λo=>match o with
     |some (.aq [.fn _ [.ptr p 0]] _)=>.look p λo=>match o with
      |some (.aq [.ah .u64 16 out] _)=>.ret ((X,n,d,met,out),σ++[a,b,c,v,p])|_=>.fail ""
     |_=>.fail ""
    |_=>.fail ""
   |_=>.fail ""
  |_,_=>.fail ""
 |_=>.fail ""
def acB(f:Nat):aK:=[(61,aaR),(75,avu),(51,aew),(fG1,bY sG1 mG1),(fW1,bY (ae4 f) arJ)]
def aiQ:List (Nat×Norm):=[(9,⟨[],[1,5,35,36,37],9,[]⟩)]
def arK(th:Th)(m:As)(fu aa:Int)(fr fs gn met:Ws)(out:Ws)(bs:List Br)(ad i:Int):bP:=⟨sl 51 [(1,aM ad),(5,.ptr 7 0),(35,.s (.ro (.au cB bs))),(36,aM (bs.length:Int)),(37,aM i)],hVG th m fu aa fr fs gn met++[.aq [.ah .u64 16 out] eSt],hd f74 9,{}⟩
theorem aAd(n:Int)(l:Bool)(es:List En)(bs:List Br)(out:Ws):run P (aK.sum [(51,aew)]) f50 [] (start f50 [aM n,avN l es bs,.ptr 0 0] [.aq [.ah .u64 16 out] eSt])=
 Tree.ret [.aq [.ah .u64 16 (Bx.dk out n)] 67,.aq [.s (.bool l),.s (.ro (.au cE es)),.s (.ro (.au cB bs))] 100] (.bq []):=by kernel_rfl
theorem ax9(f:Nat)(th:Th)(m:As)(fu aa:Int)(fr fs gn met:Ws)(ao:ByteArray)(out:List En)(n ad:Int):run P (acA f).sum f74 aiP (start f74 [aM n,aM ad,.ptr 4 0,.ptr 5 0,.ptr 6 0,.ptr 7 0] (hVL th m fu aa fr fs gn met++[vW ao,.aq [.vec 11] eLE,.aw,.vec (.au cE out) Lf.eE]))=
 Tree.ab (bp (some [AV.ptr 0 0,aM n,aM ad])) (.ab (bp (some (hT th m fu aa fr fs gn))) (.ab (Ds.bm th m fu) (.ab (aA n) (.ite (gy th m n ad !=0) (.ret (hT th m fu aa fr fs gn++[.aq [.ptr 0 0] 68,.aq [.ah .u64 16 met] 67,.aq [.fn 71 [.ptr 8 0,.ptr 9 0]] 101,.aq [.fn 74 [.ptr 4 0,.ptr 5 0,.ptr 6 0,.ptr 7 0]] 123,.aq [.s (.str ao)] 9,.aq [.vec 11] 29,.aw,.vec (.au cE out) 76,.aq [.s (.bool (lH th m n ad)),.s (.ro (.au cE (bZ th m n ad))),.s (.ro (.au cB (aX th m n ad)))] 100]) (aM (gy th m n ad))) (.ite (Bx.mV met n) (.ret (hT th m fu aa fr fs gn++[.aq [.ptr 0 0] 68,.aq [.ah .u64 16 met] 67,.aq [.fn 71 [.ptr 8 0,.ptr 9 0]] 101,.aq [.fn 74 [.ptr 4 0,.ptr 5 0,.ptr 6 0,.ptr 7 0]] 123,.aq [.s (.str ao)] 9,.aq [.vec 11] 29,.aw,.vec (.au cE out) 76,.aq [.s (.bool (lH th m n ad)),.s (.ro (.au cE (bZ th m n ad))),.s (.ro (.au cB (aX th m n ad)))] 100]) (.s (.aR .i64 4))) (.ab (bp (some [aM n,.agg [.s (.bool (lH th m n ad)),.s (.ro (.au cE (bZ th m n ad))),.s (.ro (.au cB (aX th m n ad)))],.ptr 0 0,.ptr 1 0])) (.ab (bp (some [ak.aq [.s (.str ao)] 9,.aq [.vec 2] 29,.vec (.au cE out) 76])) (.ab ((bZ th m n ad).length<=1000) (.ab (out.length<=100000000) (.at (arF th m fu aa fr fs gn (Bx.dk met n) ao (out++List.filter (geE ao) (bZ th m n ad)) (aX th m n ad) ad 0))))))))))):=by kernel_rfl
theorem atr(f:Nat)(th:Th)(m:As)(fu aa:Int)(fr fs gn met:Ws)(ao:ByteArray)(out:List En)(bs:List Br)(ad i:Int):run P (acA f).sum f74 aiP (arF th m fu aa fr fs gn met ao out bs ad i)=
 Tree.ite (decide (i<bs.length)) (.ab ((0:Int)<=i) (.ab (i<bs.length) (.ab (aA (ad+1)) (.ab (bp (some [aM ((bs.getD i.toNat (CL.d cB)).snd.fst),aM (ad+1),.ptr 4 0,.ptr 5 0,.ptr 6 0,.ptr 7 0])) (.ab (bp (some (hT th m fu aa fr fs gn++[.aq [.ptr 0 0] 68,.aq [.ah .u64 16 met] 67,.aq [.fn 71 [.ptr 8 0,.ptr 9 0]] 101,.aq [.fn 74 [.ptr 4 0,.ptr 5 0,.ptr 6 0,.ptr 7 0]] 123,.aq [.s (.str ao)] 9,.aq [.vec 10] 29,.vec (.au cE out) 76]))) (.ab (Ds.bm th m fu) (.ab ((0:Int)<=(bs.getD i.toNat (CL.d cB)).snd.fst/\(bs.getD i.toNat (CL.d cB)).snd.fst<=65536) (.ab ((1:Int)<=ad+1/\ad+1<=17) (.ab ((18:Int)<=ad+1+(↑f:Int)) (.ab (Bx.okW met) (.ab (out.length<=(126:Nat)*im met) (.ite (arD th m f (ad+1) met ao out (bs.getD i.toNat (CL.d cB)).snd.fst !=0) (.ret (hT th m fu aa fr fs gn++[.aq [.ptr 0 0] 68,.aq [.ah .u64 16 (arB th m f (ad+1) met ao out (bs.getD i.toNat (CL.d cB)).snd.fst)] 67,.aq [.fn 71 [.ptr 8 0,.ptr 9 0]] 101,.aq [.fn 74 [.ptr 4 0,.ptr 5 0,.ptr 6 0,.ptr 7 0]] 123,.aq [.s (.str ao)] 9,.aq [.vec 13] 29,.aw,.aw,.aq [.s (.str (bs.getD i.toNat (CL.d cB)).fst),aM ((bs.getD i.toNat (CL.d cB)).snd.fst)] 116,.vec (.au cE (arC th m f (ad+1) met ao out (bs.getD i.toNat (CL.d cB)).snd.fst)) 76]) (aM (arD th m f (ad+1) met ao out (bs.getD i.toNat (CL.d cB)).snd.fst))) (.ab (aA (i+1)) (.at (arF th m fu aa fr fs gn (arB th m f (ad+1) met ao out (bs.getD i.toNat (CL.d cB)).snd.fst) ao (arC th m f (ad+1) met ao out (bs.getD i.toNat (CL.d cB)).snd.fst) bs ad (i+1)))))))))))))))) (.ret (hT th m fu aa fr fs gn++[.aq [.ptr 0 0] 68,.aq [.ah .u64 16 met] 67,.aq [.fn 71 [.ptr 8 0,.ptr 9 0]] 101,.aq [.fn 74 [.ptr 4 0,.ptr 5 0,.ptr 6 0,.ptr 7 0]] 123,.aq [.s (.str ao)] 9,.aq [.vec 11] 29,.aw,.vec (.au cE out) 76]) (.s (.aR .i64 0))):=by kernel_rfl
theorem aya(f:Nat)(th:Th)(m:As)(fu aa:Int)(fr fs gn met:Ws)(out:Ws)(n ad:Int):run P (acB f).sum f74 aiQ (start f74 [aM n,aM ad,.ptr 4 0,.ptr 5 0,.ptr 6 0,.ptr 7 0] (hVG th m fu aa fr fs gn met++[.aq [.ah .u64 16 out] eSt]))=
 Tree.ab (bp (some [AV.ptr 0 0,aM n,aM ad])) (.ab (bp (some (hT th m fu aa fr fs gn))) (.ab (Ds.bm th m fu) (.ab (aA n) (.ite (gy th m n ad !=0) (.ret (hT th m fu aa fr fs gn++[.aq [.ptr 0 0] 68,.aq [.ah .u64 16 met] 67,.aq [.fn 50 [.ptr 8 0]] 101,.aq [.fn 74 [.ptr 4 0,.ptr 5 0,.ptr 6 0,.ptr 7 0]] 123,.aq [.ah .u64 16 out] 67,.aq [.s (.bool (lH th m n ad)),.s (.ro (.au cE (bZ th m n ad))),.s (.ro (.au cB (aX th m n ad)))] 100]) (aM (gy th m n ad))) (.ite (Bx.mV met n) (.ret (hT th m fu aa fr fs gn++[.aq [.ptr 0 0] 68,.aq [.ah .u64 16 met] 67,.aq [.fn 50 [.ptr 8 0]] 101,.aq [.fn 74 [.ptr 4 0,.ptr 5 0,.ptr 6 0,.ptr 7 0]] 123,.aq [.ah .u64 16 out] 67,.aq [.s (.bool (lH th m n ad)),.s (.ro (.au cE (bZ th m n ad))),.s (.ro (.au cB (aX th m n ad)))] 100]) (.s (.aR .i64 4))) (.ab (bp (some [aM n,.agg [.s (.bool (lH th m n ad)),.s (.ro (.au cE (bZ th m n ad))),.s (.ro (.au cB (aX th m n ad)))],.ptr 0 0])) (.ab (bp (some [ak.aq [.ah .u64 16 out] 67])) (.at (arK th m fu aa fr fs gn (Bx.dk met n) (Bx.dk out n) (aX th m n ad) ad 0))))))))):=by kernel_rfl
theorem ats(f:Nat)(th:Th)(m:As)(fu aa:Int)(fr fs gn met:Ws)(out:Ws)(bs:List Br)(ad i:Int):run P (acB f).sum f74 aiQ (arK th m fu aa fr fs gn met out bs ad i)=
 Tree.ite (decide (i<bs.length)) (.ab ((0:Int)<=i) (.ab (i<bs.length) (.ab (aA (ad+1)) (.ab (bp (some [aM ((bs.getD i.toNat (CL.d cB)).snd.fst),aM (ad+1),.ptr 4 0,.ptr 5 0,.ptr 6 0,.ptr 7 0])) (.ab (bp (some (hT th m fu aa fr fs gn++[.aq [.ptr 0 0] 68,.aq [.ah .u64 16 met] 67,.aq [.fn 50 [.ptr 8 0]] 101,.aq [.fn 74 [.ptr 4 0,.ptr 5 0,.ptr 6 0,.ptr 7 0]] 123,.aq [.ah .u64 16 out] 67]))) (.ab (Ds.bm th m fu) (.ab ((0:Int)<=(bs.getD i.toNat (CL.d cB)).snd.fst/\(bs.getD i.toNat (CL.d cB)).snd.fst<=65536) (.ab ((1:Int)<=ad+1/\ad+1<=17) (.ab ((18:Int)<=ad+1+(↑f:Int)) (.ab (Bx.okW met) (.ab ((0:Nat)<=0) (.ite (arI th m f (ad+1) met out (bs.getD i.toNat (CL.d cB)).snd.fst !=0) (.ret (hT th m fu aa fr fs gn++[.aq [.ptr 0 0] 68,.aq [.ah .u64 16 (arG th m f (ad+1) met out (bs.getD i.toNat (CL.d cB)).snd.fst)] 67,.aq [.fn 50 [.ptr 8 0]] 101,.aq [.fn 74 [.ptr 4 0,.ptr 5 0,.ptr 6 0,.ptr 7 0]] 123,.aq [.ah .u64 16 (arH th m f (ad+1) met out (bs.getD i.toNat (CL.d cB)).snd.fst)] 67,.aq [.s (.str (bs.getD i.toNat (CL.d cB)).fst),aM ((bs.getD i.toNat (CL.d cB)).snd.fst)] 116]) (aM (arI th m f (ad+1) met out (bs.getD i.toNat (CL.d cB)).snd.fst))) (.ab (aA (i+1)) (.at (arK th m fu aa fr fs gn (arG th m f (ad+1) met out (bs.getD i.toNat (CL.d cB)).snd.fst) (arH th m f (ad+1) met out (bs.getD i.toNat (CL.d cB)).snd.fst) bs ad (i+1)))))))))))))))) (.ret (hT th m fu aa fr fs gn++[.aq [.ptr 0 0] 68,.aq [.ah .u64 16 met] 67,.aq [.fn 50 [.ptr 8 0]] 101,.aq [.fn 74 [.ptr 4 0,.ptr 5 0,.ptr 6 0,.ptr 7 0]] 123,.aq [.ah .u64 16 out] 67]) (.s (.aR .i64 0))):=by kernel_rfl
theorem aoi{ws:Ws}(hw:Bx.okW ws){n:Int}(hn:0<=n/\n<1024)(h:Bx.mV ws n=false):im (Bx.dk ws n)=im ws+1:=by
 have hb:Bx.bit ws n.toNat=false:=by
  rw[Bx.aix hw,decide_eq_true hn,Bool.true_and]at h;exact h
 have⟨_,h2⟩:=Bx.gH hw n;unfold im Bx.agO
 have key:∀m,m<=1024->(Bx.fr (Bx.bit (Bx.dk ws n)) m).length=(Bx.fr (Bx.bit ws) m).length+(if n.toNat<m then 1 else 0):=by
  intro m
  induction m with
  |zero=>intro _;rfl
  |succ m ih=>
   intro hm;rw[Bx.sZ,Bx.sZ,length_append,length_append,ih (by omega),h2 m (by omega)]
   have hd:decide (n=(m:Int))=decide (n.toNat=m):=by
    by_cases e:n.toNat=m;rw[decide_eq_true e,decide_eq_true (by omega)];rw[decide_eq_false e,decide_eq_false (by omega)]
   rw[hd];by_cases e:n.toNat=m;subst e;have c1:¬n.toNat<n.toNat:=by omega
   have c2:n.toNat<n.toNat+1:=by omega
   rw[hb,decide_eq_true rfl,if_neg c1,if_pos c2];rfl;rw[decide_eq_false e,Bool.or_false];by_cases e2:n.toNat<m;have c2:n.toNat<m+1:=by omega
   rw[if_pos e2,if_pos c2];omega;have c2:¬n.toNat<m+1:=by omega
   rw[if_neg e2,if_neg c2];omega
 have:=key 1024 (le_refl _);have c:n.toNat<1024:=by omega
 rw[this,if_pos c]
theorem avW(ws:Ws):im ws<=1024:=Bx.akz _ _
theorem aoj{th:Th}{m:As}{fu n ad:Int}(hd:Ds.bm th m fu)(h:gy th m n ad=0):0<=n/\n<1024:=by
 have hp:Ds.wv th n=true:=by
  unfold gy at h;split at h;cases h;split at h;rename_i hg;unfold Ds.gM at hg;split at hg;assumption;cases hg;rename_i hg;exact absurd h hg
 have⟨a,b⟩:=Ds.gk.1 hp;have:=hd.1.1;unfold Ds.eF at b;have e:((th.length:Int)).tdiv 4=(th.length:Int) / 4:=Int.tdiv_eq_ediv_of_nonneg (by omega);rw[e]at b;omega
theorem yY{σ:Type}{g:Ws->σ->Int->Ws×σ×Int}{I:Ws->σ->Prop}(hg:∀met out n,I met out->I (g met out n).1 (g met out n).2.1):∀(l:List Br) (met:Ws) (out:σ),I met out->I (tq g l met out).1 (tq g l met out).2.1
 |[],met,out,h=>h|b::r,met,out,h=>by
  rw[tq];split;exact hg _ _ _ h;exact yY hg r _ _ (hg _ _ _ h)
theorem aiR(ao:ByteArray){th:Th}{m:As}{fu n ad:Int}{met:Ws}{out:List En}(hd:Ds.bm th m fu)(h:gy th m n ad=0)(hw:Bx.okW met)(h3:Bx.mV met n=false)(ho:List.length (α:=En) out<=126*im met):
 Bx.okW (Bx.dk met n)/\List.length (α:=En) (tu ao out n (bZ th m n ad))<=126*im (Bx.dk met n):=by
 refine⟨(Bx.gH hw n).1, ?_⟩;rw[aoi hw (aoj hd h) h3];unfold tu;rw[length_append];have:=filter_le (geE ao) (bZ th m n ad);have⟨_,n1,_⟩:=fp h;omega
theorem aiS(ao:ByteArray){th:Th}{m:As}{fu:Int}(hd:Ds.bm th m fu):∀(f:Nat) (ad:Int) (met:Ws) (out:List En) (n:Int),Bx.okW met->List.length (α:=En) out<=126*im met->
 Bx.okW (eb (tu ao) th m f ad met out n).1/\List.length (α:=En) (eb (tu ao) th m f ad met out n).2.1<=126*im (eb (tu ao) th m f ad met out n).1
 |0,ad,met,out,n,hw,ho=>⟨hw,ho⟩|f+1,ad,met,out,n,hw,ho=>by
  rw[eb];split;exact⟨hw,ho⟩;rename_i h;split;exact⟨hw,ho⟩;rename_i h3;have h3:Bx.mV met n=false:=by simpa using h3
  exact yY (I:=λmet out=>Bx.okW met/\List.length (α:=En) out<=126*im met) (λmet out n hi=>aiS ao hd f (ad+1) met out n hi.1 hi.2) _ _ _ (aiR ao hd (by simpa using h) hw h3 ho)
theorem aiT{th:Th}{m:As}{fu n ad:Int}{met:Ws}(hd:Ds.bm th m fu)(h:gy th m n ad=0)(hw:Bx.okW met)(h3:Bx.mV met n=false)(ho:0<=0):Bx.okW (Bx.dk met n)/\0<=0:=⟨(Bx.gH hw n).1,ho⟩
theorem aiU{th:Th}{m:As}{fu:Int}(hd:Ds.bm th m fu):∀(f:Nat) (ad:Int) (met:Ws) (out:Ws) (n:Int),Bx.okW met->0<=0->Bx.okW (eb qk th m f ad met out n).1/\0<=0
 |0,ad,met,out,n,hw,ho=>⟨hw,ho⟩|f+1,ad,met,out,n,hw,ho=>by
  rw[eb];split;exact⟨hw,ho⟩;rename_i h;split;exact⟨hw,ho⟩;rename_i h3;have h3:Bx.mV met n=false:=by simpa using h3
  exact yY (I:=λmet out=>Bx.okW met/\0<=0) (λmet out n hi=>aiU hd f (ad+1) met out n hi.1 hi.2) _ _ _ (aiT hd (by simpa using h) hw h3 ho)
theorem akM{Z:bh}:fI P Z 50 sG1:=by
 refine fS func50 ?_;rintro⟨n,⟨l,es,bs⟩,out⟩ _ X hX hz;exact Ds.cF hz hX (by intro y hy;cases hy) (aK.Ok.cons Bx.sU.sum aK.Ok.nil) func50 (aAd n l es bs out) (bD 1 rfl (le_refl _) rfl rfl)
theorem fvL{th:Th}{m:As}{fu aa:Int}{fr fs gn met:Ws}{ao:ByteArray}{out:List En}{n ad:Int}{f:Nat}{c:Ws×List En×Int}(e:eb (tu ao) th m f ad met out n=c):
 (ae3 f).dN ((th,m,fu,aa,fr,fs,gn),n,ad,met,ao,out)=hVL th m fu aa fr fs gn c.1++[vW ao,.aq [.vec 11] eLE,.aw,.vec (.au cE c.2.1) Lf.eE]/\(ae3 f).out ((th,m,fu,aa,fr,fs,gn),n,ad,met,ao,out)=aM c.2.2:=by
 subst e;exact⟨rfl,rfl⟩
theorem akN{f:Nat}(h:fI P Bx.bO fW1 (ae3 f)):(acA f).Ok P Bx.bO:=aK.Ok.cons (p6.sum mNo) (aK.Ok.cons Bx.agL.sum (aK.Ok.cons Bx.sU.sum (aK.Ok.cons (aoh.sum mL1) (aK.Ok.cons (h.sum arE) aK.Ok.nil))))
theorem aok{L:List ak}(h:L.length=11):∀y∈aiP,L.length<=y.2.m:=λy hy=>by
 simp only[aiP,mem_singleton]at hy;subst hy;exact Nat.le_of_eq h
theorem att{f:Nat}(T:(acA f).Ok P Bx.bO){th:Th}{m:As}{fu aa:Int}{fr fs gn:Ws}{n ad:Int}{iV:Ws}{ao:ByteArray}{jW:List En}(hd:Ds.bm th m fu)(h1:1<=ad/\ad<=17)(h2:18<=ad+((f+1:Nat):Int))
 {X:Ctx} (hX:X.H=lk ((ae3 (f+1)).heap ((th,m,fu,aa,fr,fs,gn),n,ad,iV,ao,jW))) (hz:dZ Bx.bO X) (h:gy th m n ad=0):
 ∀(j k:Nat) (met:Ws) (out:List En),k+j=(aX th m n ad).length->Bx.okW met->List.length (α:=En) out<=126*im met->eb (tu ao) th m (f+1) ad iV jW n=tq (eb (tu ao) th m f (ad+1)) ((aX th m n ad).drop k) met out->
    Safe P fW1 X (dO (ae3 (f+1)) ((th,m,fu,aa,fr,fs,gn),n,ad,iV,ao,jW)) (arF th m fu aa fr fs gn met ao out (aX th m n ad) ad (k:Int))
 |0,k,met,out,hk,hw,ho,e=>by
  rw[List.drop_of_length_le (by omega)]at e;have⟨f1,f2⟩:=fvL (fu:=fu) (aa:=aa) (fr:=fr) (fs:=fs) (gn:=gn) e;exact Ds.cF hz hX (aok rfl) T func74 (atr f th m fu aa fr fs gn met ao out (aX th m n ad) ad k) ⟨λh=>absurd (of_decide_eq_true h) (by omega),λ_=>bD 11 rfl (le_refl _) f2 f1⟩
 |j+1,k,met,out,hk,hw,ho,e=>by
  have⟨_,_,n2,_,_,n5,_⟩:=fp h;rw[drop_cons dB (by omega),tq]at e;have pg:=uN h k;have⟨i1,i2⟩:=aiS ao hd f (ad+1) met out ((aX th m n ad).getD k dB).2.1 hw ho;refine Ds.cF hz hX (aok rfl) T func74 (atr f th m fu aa fr fs gn met ao out (aX th m n ad) ad k) ⟨λ_=>⟨by omega,by omega,rA (by omega) (by omega),rfl,rfl,hd,pg,⟨by omega,by omega⟩,by omega,hw,ho,λh4=> ?_,λh4=>⟨⟨by omega,by omega⟩, ?_⟩⟩,λh=>absurd (of_decide_eq_false h) (by omega)⟩;have h4:(eb (tu ao) th m f (ad+1) met out ((aX th m n ad).getD k dB).2.1).2.2≠0:=bne_iff_ne.1 h4;rw[if_pos h4]at e;have⟨f1,f2⟩:=fvL (fu:=fu) (aa:=aa) (fr:=fr) (fs:=fs) (gn:=gn) e;exact bD 11 rfl (le_refl _) f2 f1;have h4:¬(eb (tu ao) th m f (ad+1) met out ((aX th m n ad).getD k dB).2.1).2.2≠0:=λhh=>Bool.false_ne_true (h4.symm.trans (bne_iff_ne.2 hh));rw[if_neg h4]at e;exact att T hd h1 h2 hX hz h j (k+1) _ _ (by omega) i1 i2 e
theorem aaZ:∀f,fI P Bx.bO fW1 (ae3 f)
 |0=>by
  rintro⟨⟨(th:Th),(m:As),(fu:Int),(aa:Int),(fr:Ws),(fs:Ws),(gn:Ws)⟩,(n:Int),(ad:Int),(met:Ws),(ao:ByteArray),(out:List En)⟩ ⟨_,_,(h1:1<=ad/\ad<=17),(h2:18<=ad+((0:Nat):Int)),_⟩;omega
 |f+1=>by
  have T:=akN (aaZ f);refine fS func74 ?_;rintro⟨⟨th,m,fu,aa,fr,fs,gn⟩,n,ad,iV,ao,jW⟩ ⟨(hd:Ds.bm th m fu),(hn:0<=n/\n<=65536),(h1:1<=ad/\ad<=17),(h2:18<=ad+((f+1:Nat):Int)),(hw:Bx.okW iV),(ho:List.length (α:=En) jW<=126*im iV),_⟩ X hX hz;refine rB 10 (c:=start f74 [aM n,aM ad,.ptr 4 0,.ptr 5 0,.ptr 6 0,.ptr 7 0] (hVL th m fu aa fr fs gn iV++[vW ao,.aq [.vec 11] eLE,.aw,.vec (.au cE jW) Lf.eE])) rfl ?_;refine Ds.cF hz hX (aok rfl) T func74 (ax9 f th m fu aa fr fs gn iV ao jW n ad) ⟨rfl,rfl,hd,rA (by omega) (by omega),λh=> ?_,λh=>⟨λh3=> ?_,λh3=> ?_⟩⟩;have h:gy th m n ad≠0:=by simpa using h
  have⟨f1,f2⟩:=fvL (fu:=fu) (aa:=aa) (fr:=fr) (fs:=fs) (gn:=gn) (show eb (tu ao) th m (f+1) ad iV jW n=(iV,jW,gy th m n ad)by rw[eb,if_pos h]);exact bD 11 rfl (le_refl _) f2 f1;have h:gy th m n ad=0:=by simpa using h
  have⟨f1,f2⟩:=fvL (fu:=fu) (aa:=aa) (fr:=fr) (fs:=fs) (gn:=gn) (show eb (tu ao) th m (f+1) ad iV jW n=(iV,jW,4)by rw[eb,if_neg (by rw[h];simp),if_pos h3]);exact bD 11 rfl (le_refl _) f2 f1;have h:gy th m n ad=0:=by simpa using h
  have⟨_,n1,n2,_,_,_,_⟩:=fp h;have e:eb (tu ao) th m (f+1) ad iV jW n=tq (eb (tu ao) th m f (ad+1)) (aX th m n ad) (Bx.dk iV n) ((tu ao) jW n (bZ th m n ad)):=by rw[eb,if_neg (by rw[h];simp),if_neg (by rw[h3];simp)]
  have⟨i1,i2⟩:=aiR ao hd h hw h3 ho;exact⟨rfl,rfl,by omega,by have:=avW iV;omega,att T hd h1 h2 hX hz h _ 0 _ _ (zero_add _) i1 i2 (by rw[List.drop_zero];exact e)⟩
theorem fvG{th:Th}{m:As}{fu aa:Int}{fr fs gn met:Ws}{out:Ws}{n ad:Int}{f:Nat}{c:Ws×Ws×Int}(e:eb qk th m f ad met out n=c):
 (ae4 f).dN ((th,m,fu,aa,fr,fs,gn),n,ad,met,out)=hVG th m fu aa fr fs gn c.1++[.aq [.ah .u64 16 c.2.1] eSt]/\(ae4 f).out ((th,m,fu,aa,fr,fs,gn),n,ad,met,out)=aM c.2.2:=by
 subst e;exact⟨rfl,rfl⟩
theorem akO{f:Nat}(h:fI P Bx.bO fW1 (ae4 f)):(acB f).Ok P Bx.bO:=aK.Ok.cons (p6.sum mNo) (aK.Ok.cons Bx.agL.sum (aK.Ok.cons Bx.sU.sum (aK.Ok.cons (akM.sum mG1) (aK.Ok.cons (h.sum arJ) aK.Ok.nil))))
theorem aol{L:List ak}(h:L.length=9):∀y∈aiQ,L.length<=y.2.m:=λy hy=>by
 simp only[aiQ,mem_singleton]at hy;subst hy;exact Nat.le_of_eq h
theorem atu{f:Nat}(T:(acB f).Ok P Bx.bO){th:Th}{m:As}{fu aa:Int}{fr fs gn:Ws}{n ad:Int}{iV:Ws}{jW:Ws}(hd:Ds.bm th m fu)(h1:1<=ad/\ad<=17)(h2:18<=ad+((f+1:Nat):Int))
 {X:Ctx} (hX:X.H=lk ((ae4 (f+1)).heap ((th,m,fu,aa,fr,fs,gn),n,ad,iV,jW))) (hz:dZ Bx.bO X) (h:gy th m n ad=0):
 ∀(j k:Nat) (met:Ws) (out:Ws),k+j=(aX th m n ad).length->Bx.okW met->0<=0->eb qk th m (f+1) ad iV jW n=tq (eb qk th m f (ad+1)) ((aX th m n ad).drop k) met out->
    Safe P fW1 X (dO (ae4 (f+1)) ((th,m,fu,aa,fr,fs,gn),n,ad,iV,jW)) (arK th m fu aa fr fs gn met out (aX th m n ad) ad (k:Int))
 |0,k,met,out,hk,hw,ho,e=>by
  rw[List.drop_of_length_le (by omega)]at e;have⟨f1,f2⟩:=fvG (fu:=fu) (aa:=aa) (fr:=fr) (fs:=fs) (gn:=gn) e;exact Ds.cF hz hX (aol rfl) T func74 (ats f th m fu aa fr fs gn met out (aX th m n ad) ad k) ⟨λh=>absurd (of_decide_eq_true h) (by omega),λ_=>bD 9 rfl (le_refl _) f2 f1⟩
 |j+1,k,met,out,hk,hw,ho,e=>by
  have⟨_,_,n2,_,_,n5,_⟩:=fp h;rw[drop_cons dB (by omega),tq]at e;have pg:=uN h k;have⟨i1,i2⟩:=aiU hd f (ad+1) met out ((aX th m n ad).getD k dB).2.1 hw ho;refine Ds.cF hz hX (aol rfl) T func74 (ats f th m fu aa fr fs gn met out (aX th m n ad) ad k) ⟨λ_=>⟨by omega,by omega,rA (by omega) (by omega),rfl,rfl,hd,pg,⟨by omega,by omega⟩,by omega,hw,ho,λh4=> ?_,λh4=>⟨⟨by omega,by omega⟩, ?_⟩⟩,λh=>absurd (of_decide_eq_false h) (by omega)⟩;have h4:(eb qk th m f (ad+1) met out ((aX th m n ad).getD k dB).2.1).2.2≠0:=bne_iff_ne.1 h4;rw[if_pos h4]at e;have⟨f1,f2⟩:=fvG (fu:=fu) (aa:=aa) (fr:=fr) (fs:=fs) (gn:=gn) e;exact bD 9 rfl (le_refl _) f2 f1;have h4:¬(eb qk th m f (ad+1) met out ((aX th m n ad).getD k dB).2.1).2.2≠0:=λhh=>Bool.false_ne_true (h4.symm.trans (bne_iff_ne.2 hh));rw[if_neg h4]at e;exact atu T hd h1 h2 hX hz h j (k+1) _ _ (by omega) i1 i2 e
theorem aa0:∀f,fI P Bx.bO fW1 (ae4 f)
 |0=>by
  rintro⟨⟨(th:Th),(m:As),(fu:Int),(aa:Int),(fr:Ws),(fs:Ws),(gn:Ws)⟩,(n:Int),(ad:Int),(met:Ws),(out:Ws)⟩ ⟨_,_,(h1:1<=ad/\ad<=17),(h2:18<=ad+((0:Nat):Int)),_⟩;omega
 |f+1=>by
  have T:=akO (aa0 f);refine fS func74 ?_;rintro⟨⟨th,m,fu,aa,fr,fs,gn⟩,n,ad,iV,jW⟩ ⟨(hd:Ds.bm th m fu),(hn:0<=n/\n<=65536),(h1:1<=ad/\ad<=17),(h2:18<=ad+((f+1:Nat):Int)),(hw:Bx.okW iV),(ho:0<=0),_⟩ X hX hz;refine Ds.cF hz hX (aol rfl) T func74 (aya f th m fu aa fr fs gn iV jW n ad) ⟨rfl,rfl,hd,rA (by omega) (by omega),λh=> ?_,λh=>⟨λh3=> ?_,λh3=> ?_⟩⟩;have h:gy th m n ad≠0:=by simpa using h
  have⟨f1,f2⟩:=fvG (fu:=fu) (aa:=aa) (fr:=fr) (fs:=fs) (gn:=gn) (show eb qk th m (f+1) ad iV jW n=(iV,jW,gy th m n ad)by rw[eb,if_pos h]);exact bD 9 rfl (le_refl _) f2 f1;have h:gy th m n ad=0:=by simpa using h
  have⟨f1,f2⟩:=fvG (fu:=fu) (aa:=aa) (fr:=fr) (fs:=fs) (gn:=gn) (show eb qk th m (f+1) ad iV jW n=(iV,jW,4)by rw[eb,if_neg (by rw[h];simp),if_pos h3]);exact bD 9 rfl (le_refl _) f2 f1;have h:gy th m n ad=0:=by simpa using h
  have⟨_,n1,n2,_,_,_,_⟩:=fp h;have e:eb qk th m (f+1) ad iV jW n=tq (eb qk th m f (ad+1)) (aX th m n ad) (Bx.dk iV n) (qk jW n (bZ th m n ad)):=by rw[eb,if_neg (by rw[h];simp),if_neg (by rw[h3];simp)]
  have⟨i1,i2⟩:=aiT hd h hw h3 ho;exact⟨rfl,rfl,atu T hd h1 h2 hX hz h _ 0 _ _ (zero_add _) i1 i2 (by rw[List.drop_zero];exact e)⟩
def wkT{σ:Type}(on:σ->Int->List En->σ)(th:Th)(m:As)(aa:Int)(out:σ):σ×Int:=if aa=0 then(out,0)else((eb on th m 17 1 Bx.aG out aa).2.1,(eb on th m 17 1 Bx.aG out aa).2.2)
def lsT(th:Th)(m:As)(aa:Int)(ao:ByteArray):List En:=(wkT (tu ao) th m aa []).1
def vZ(th:Th)(m:As)(aa:Int)(ao:ByteArray):Int:=(wkT (tu ao) th m aa []).2
def pgT(th:Th)(m:As)(aa:Int):Ws:=(wkT qk th m aa Bx.aG).1
def zm(th:Th)(m:As)(aa:Int):Int:=(wkT qk th m aa Bx.aG).2
def m8(th:Th)(m:As)(aa:Int)(ao:ByteArray):List En:=if vZ th m aa ao≠0 then []else lsT th m aa ao
def dR(th:Th)(m:As)(aa:Int):Ws:=if zm th m aa≠0 then Bx.aG else pgT th m aa
abbrev arL:Spec XD:=⟨λ_=>[.ptr 0 0,.fn fL1 [.ptr 4 0,.ptr 5 0]],λ((th,m,fu,aa,fr,fs,gn),ao)=>hT th m fu aa fr fs gn++[vW ao,.aq [.vec 6] eLE,.vec (.au cE []) Lf.eE],
 λ((th,m,fu,aa,_),_)=>[Ds.bm th m fu,0<=aa/\aa<=65536],λ((th,m,fu,aa,fr,fs,gn),ao)=>hT th m fu aa fr fs gn++[vW ao,.aq [.vec 7] eLE,.aw,.vec (.au cE (lsT th m aa ao)) Lf.eE],λ((th,m,_,aa,_),ao)=>aM (vZ th m aa ao)⟩
abbrev arM:Spec XT:=⟨λ_=>[.ptr 0 0,.fn fG1 [.ptr 4 0]],λ(th,m,fu,aa,fr,fs,gn)=>hT th m fu aa fr fs gn++[.aq [.ah .u64 16 Bx.aG] eSt],
 λ(th,m,fu,aa,_)=>[Ds.bm th m fu,0<=aa/\aa<=65536],λ(th,m,fu,aa,fr,fs,gn)=>hT th m fu aa fr fs gn++[.aq [.ah .u64 16 (pgT th m aa)] eSt],λ(th,m,_,aa,_)=>aM (zm th m aa)⟩
def avX:aK:=[(fW1,bY (ae3 17) arE)]
def avY:aK:=[(fW1,bY (ae4 17) arJ)]
abbrev sLs:Spec XD:=⟨λ(_,ao)=>[.ptr 0 0,.s (.str ao)],λ((th,m,fu,aa,fr,fs,gn),_)=>hT th m fu aa fr fs gn,λ((th,m,fu,aa,_),_)=>[Ds.bm th m fu,0<=aa/\aa<=65536],
 λ((th,m,fu,aa,fr,fs,gn),ao)=>hT th m fu aa fr fs gn++[.vec (.au cE (m8 th m aa ao)) Lf.eE],λ((th,m,_,aa,_),ao)=>.bq [.vec 4,aM (vZ th m aa ao)]⟩
abbrev sPg:Spec XT:=⟨λ_=>[.ptr 0 0],λ(th,m,fu,aa,fr,fs,gn)=>hT th m fu aa fr fs gn,λ(th,m,fu,aa,_)=>[Ds.bm th m fu,0<=aa/\aa<=65536],
 λ(th,m,fu,aa,fr,fs,gn)=>hT th m fu aa fr fs gn,λ(th,m,_,aa,_)=>.bq [.ah .u64 16 (dR th m aa),aM (zm th m aa)]⟩
def ayb:List AV->RM (XD×List Nat)
 |[t,.fn _ [.ptr p 0,.ptr q 0]]=>(mT [t]).bind λ(X,σ)=>.look p λo=>match o with
  |some (.aq [.s (.str ao)] _)=>.look q λo=>match o with
   |some (.aq [.vec r] _)=>.ret ((X,ao),σ++[p,q,r])|_=>.fail ""
  |_=>.fail ""
 |_=>.fail ""
def ayc:List AV->RM (XT×List Nat)
 |[t,.fn _ [.ptr p 0]]=>(mT [t]).bind λ(X,σ)=>.ret (X,σ++[p])|_=>.fail ""
def aom:aK:=[(49,bY arL ayb)]
def ayd:aK:=[(49,bY arM ayc)]
def arN:List (Nat×Norm):=[(4,⟨[],[0,3,6],4,[(5,0,false,.au cE [],Lf.eE)]⟩)]
def cLs(th:Th)(m:As)(fu aa:Int)(fr fs gn:Ws)(ao:ByteArray):bP:=⟨sl 17 [(0,.ptr 0 0),(3,.ptr 4 0),(6,.ptr 5 0)],hT th m fu aa fr fs gn++[vW ao,.aq [.vec 6] eLE,.vec (.au cE []) Lf.eE],hr f47 4,{}⟩
theorem aye(th:Th)(m:As)(fu aa:Int)(fr fs gn:Ws)(ao:ByteArray):run P avX.sum f49 [] (start f49 [.ptr 0 0,.fn fL1 [.ptr 4 0,.ptr 5 0]] (hT th m fu aa fr fs gn++[vW ao,.aq [.vec 7] eLE,.aw,.vec (.au cE []) Lf.eE]))=
 Tree.ite (aa==0) (.ret (jK th m fu aa fr fs gn ao++[.aq [.vec 7] 29,.aw,.vec (.au cE []) 76,.aq [.ptr 0 0] 68,.aq [.fn 71 [.ptr 4 0,.ptr 5 0]] 101,.aq [.ah .u64 16 (replicate 16 0)] 67,.aq [.fn 74 [.ptr 8 0,.ptr 10 0,.ptr 9 0,.ptr 11 0]] 123]) (.s (.aR .i64 0))) (.ab (bp (some [aM aa,aM 1,.ptr 4 0,.ptr 5 0,.ptr 6 0,.ptr 7 0])) (.ab (bp (some (hT th m fu aa fr fs gn++[.aq [.ptr 0 0] 68,.aq [.ah .u64 16 (replicate 16 0)] 67,.aq [.fn 71 [.ptr 8 0,.ptr 9 0]] 101,.aq [.fn 74 [.ptr 4 0,.ptr 5 0,.ptr 6 0,.ptr 7 0]] 123,.aq [.s (.str ao)] 9,.aq [.vec 10] 29,.vec (.au cE []) 76]))) (.ab (Ds.bm th m fu) (.ab ((0:Int)<=aa/\aa<=65536) (.ab ((1:Int)<=1/\(1:Int)<=17) (.ab ((18:Int)<=1+(↑(17:Nat):Int)) (.ab (Bx.okW (replicate 16 0)) (.ab ((0:Nat)<=(126:Nat)*0) (.ret (jK th m fu aa fr fs gn ao++[.aq [.vec 12] 29,.aw,.aw,.aq [.ptr 0 0] 68,.aq [.fn 71 [.ptr 4 0,.ptr 5 0]] 101,.aq [.ah .u64 16 (arB th m 17 1 (replicate 16 0) ao [] aa)] 67,.aq [.fn 74 [.ptr 8 0,.ptr 10 0,.ptr 9 0,.ptr 11 0]] 123,.vec (.au cE (arC th m 17 1 (replicate 16 0) ao [] aa)) 76]) (aM (arD th m 17 1 (replicate 16 0) ao [] aa))))))))))):=by kernel_rfl
theorem ayf(th:Th)(m:As)(fu aa:Int)(fr fs gn:Ws):run P avY.sum f49 [] (start f49 [.ptr 0 0,.fn fG1 [.ptr 4 0]] (hT th m fu aa fr fs gn++[.aq [.ah .u64 16 Bx.aG] eSt]))=
 Tree.ite (aa==0) (.ret (hT th m fu aa fr fs gn++[.aq [.ah .u64 16 Bx.aG] 67,.aq [.ptr 0 0] 68,.aq [.fn 50 [.ptr 4 0]] 101,.aq [.ah .u64 16 (replicate 16 0)] 67,.aq [.fn 74 [.ptr 5 0,.ptr 7 0,.ptr 6 0,.ptr 8 0]] 123]) (.s (.aR .i64 0))) (.ab (bp (some [aM aa,aM 1,.ptr 4 0,.ptr 5 0,.ptr 6 0,.ptr 7 0])) (.ab (bp (some (hT th m fu aa fr fs gn++[.aq [.ptr 0 0] 68,.aq [.ah .u64 16 (replicate 16 0)] 67,.aq [.fn 50 [.ptr 8 0]] 101,.aq [.fn 74 [.ptr 4 0,.ptr 5 0,.ptr 6 0,.ptr 7 0]] 123,.aq [.ah .u64 16 Bx.aG] 67]))) (.ab (Ds.bm th m fu) (.ab ((0:Int)<=aa/\aa<=65536) (.ab ((1:Int)<=1/\(1:Int)<=17) (.ab ((18:Int)<=1+(↑(17:Nat):Int)) (.ab (Bx.okW (replicate 16 0)) (.ab ((0:Nat)<=0) (.ret (hT th m fu aa fr fs gn++[.aq [.ah .u64 16 (arH th m 17 1 (replicate 16 0) Bx.aG aa)] 67,.aq [.ptr 0 0] 68,.aq [.fn 50 [.ptr 4 0]] 101,.aq [.ah .u64 16 (arG th m 17 1 (replicate 16 0) Bx.aG aa)] 67,.aq [.fn 74 [.ptr 5 0,.ptr 7 0,.ptr 6 0,.ptr 8 0]] 123]) (aM (arI th m 17 1 (replicate 16 0) Bx.aG aa))))))))))):=by kernel_rfl
theorem aAe(th:Th)(m:As)(fu aa:Int)(fr fs gn:Ws)(ao:ByteArray):run P aom.sum f47 arN (start f47 [.ptr 0 0,.s (.str ao)] (hT th m fu aa fr fs gn))=
 Tree.at (cLs th m fu aa fr fs gn ao):=by kernel_rfl
theorem aAf(th:Th)(m:As)(fu aa:Int)(fr fs gn:Ws)(ao:ByteArray):run P aom.sum f47 arN (cLs th m fu aa fr fs gn ao)=
 Tree.ab (bp (some [AV.ptr 0 0,.fn 71 [.ptr 4 0,.ptr 5 0]])) (.ab (bp (some (jK th m fu aa fr fs gn ao++[.aq [.vec 6] 29,.vec (.au cE []) 76]))) (.ab (Ds.bm th m fu) (.ab ((0:Int)<=aa/\aa<=65536) (.ite (vZ th m aa ao !=0) (.ret (jK th m fu aa fr fs gn ao++[.aq [.vec 7] 29,.aw,.vec (.au cE (lsT th m aa ao)) 76]) (.bq [.emp,aM (vZ th m aa ao)])) (.ret (jK th m fu aa fr fs gn ao++[.aq [.vec 7] 29,.aw,.vec (.au cE (lsT th m aa ao)) 76]) (.bq [.vec 7,.s (.aR .i64 0)])))))):=by kernel_rfl
theorem aAg(th:Th)(m:As)(fu aa:Int)(fr fs gn:Ws):run P ayd.sum f29 [] (start f29 [.ptr 0 0] (hT th m fu aa fr fs gn))=
 Tree.ab (bp (some [AV.ptr 0 0,.fn 50 [.ptr 4 0]])) (.ab (some (hT th m fu aa fr fs gn++[.aq [.ah .u64 16 (replicate 16 0)] 67])=some (hT th m fu aa fr fs gn++[.aq [.ah .u64 16 Bx.aG] 67])) (.ab (Ds.bm th m fu) (.ab ((0:Int)<=aa/\aa<=65536) (.ite (zm th m aa !=0) (.ret (hT th m fu aa fr fs gn++[.aq [.ah .u64 16 (replicate 16 0)] 67,.aq [.ah .u64 16 (pgT th m aa)] 67]) (.bq [.ah .u64 16 (replicate 16 0),aM (zm th m aa)])) (.ret (hT th m fu aa fr fs gn++[.aq [.ah .u64 16 (pgT th m aa)] 67,.aq [.ah .u64 16 (pgT th m aa)] 67]) (.bq [.ah .u64 16 (pgT th m aa),.s (.aR .i64 0)])))))):=by kernel_rfl
theorem aon{th:Th}{m:As}{fu aa:Int}{fr fs gn:Ws}{ao:ByteArray}{c:List En×Int}(e:c=wkT (tu ao) th m aa []):
 arL.dN ((th,m,fu,aa,fr,fs,gn),ao)=hT th m fu aa fr fs gn++[vW ao,.aq [.vec 7] eLE,.aw,.vec (.au cE c.1) Lf.eE]/\arL.out ((th,m,fu,aa,fr,fs,gn),ao)=aM c.2:=by
 subst e;exact⟨rfl,rfl⟩
theorem aoo{th:Th}{m:As}{fu aa:Int}{fr fs gn:Ws}{c:Ws×Int}(e:c=wkT qk th m aa Bx.aG):
 arM.dN (th,m,fu,aa,fr,fs,gn)=hT th m fu aa fr fs gn++[.aq [.ah .u64 16 c.1] eSt]/\arM.out (th,m,fu,aa,fr,fs,gn)=aM c.2:=by
 subst e;exact⟨rfl,rfl⟩
theorem aop:fI P Bx.bO 49 arL:=by
 refine fS func49 ?_;rintro⟨⟨th,m,fu,aa,fr,fs,gn⟩,ao⟩ ⟨(hd:Ds.bm th m fu),(hr:0<=aa/\aa<=65536),_⟩ X hX hz;refine rB 6 (c:=start f49 [.ptr 0 0,.fn fL1 [.ptr 4 0,.ptr 5 0]] (hT th m fu aa fr fs gn++[vW ao,.aq [.vec 7] eLE,.aw,.vec (.au cE []) Lf.eE])) rfl ?_;refine Ds.cF hz hX (by intro y hy;cases hy) (aK.Ok.cons ((aaZ 17).sum arE) aK.Ok.nil) func49 (aye th m fu aa fr fs gn ao) ⟨λh=> ?_,λh=>⟨rfl,rfl,hd,hr,⟨by omega,by omega⟩,by omega,Bx.eV.1,le_refl _, ?_⟩⟩;have h:aa=0:=by simpa using h
 have⟨f1,f2⟩:=aon (fu:=fu) (fr:=fr) (fs:=fs) (gn:=gn) (c:=([],0)) (show _=wkT (tu ao) th m aa []by unfold wkT;rw[if_pos h]);exact bD 7 rfl (le_refl _) f2 f1;have h:¬aa=0:=by simpa using h
 have⟨f1,f2⟩:=aon (fu:=fu) (fr:=fr) (fs:=fs) (gn:=gn) (c:=((eb (tu ao) th m 17 1 Bx.aG [] aa).2.1,(eb (tu ao) th m 17 1 Bx.aG [] aa).2.2)) (show _=wkT (tu ao) th m aa []by unfold wkT;rw[if_neg h]);exact bD 7 rfl (le_refl _) f2 f1
theorem aoq:fI P Bx.bO 49 arM:=by
 refine fS func49 ?_;rintro⟨th,m,fu,aa,fr,fs,gn⟩ ⟨(hd:Ds.bm th m fu),(hr:0<=aa/\aa<=65536),_⟩ X hX hz;refine Ds.cF hz hX (by intro y hy;cases hy) (aK.Ok.cons ((aa0 17).sum arJ) aK.Ok.nil) func49 (ayf th m fu aa fr fs gn) ⟨λh=> ?_,λh=>⟨rfl,rfl,hd,hr,⟨by omega,by omega⟩,by omega,Bx.eV.1,le_refl _, ?_⟩⟩;have h:aa=0:=by simpa using h
 have⟨f1,f2⟩:=aoo (fu:=fu) (fr:=fr) (fs:=fs) (gn:=gn) (c:=(Bx.aG,0)) (show _=wkT qk th m aa Bx.aG by unfold wkT;rw[if_pos h]);exact bD 5 rfl (le_refl _) f2 f1;have h:¬aa=0:=by simpa using h
 have⟨f1,f2⟩:=aoo (fu:=fu) (fr:=fr) (fs:=fs) (gn:=gn) (c:=((eb qk th m 17 1 Bx.aG Bx.aG aa).2.1,(eb qk th m 17 1 Bx.aG Bx.aG aa).2.2)) (show _=wkT qk th m aa Bx.aG by unfold wkT;rw[if_neg h]);exact bD 5 rfl (le_refl _) f2 f1
theorem arO:fI P Bx.bO 47 sLs:=by
 refine gm func47 (by kernel_rfl) (λx=>le_of_ble_eq_true (by kernel_rfl)) ?_;rintro⟨⟨th,m,fu,aa,fr,fs,gn⟩,ao⟩ ⟨(hd:Ds.bm th m fu),(hr:0<=aa/\aa<=65536),_⟩ X hX hz
 have hm:∀y∈arN,(hT th m fu aa fr fs gn).length<=y.2.m:=λy hy=>by
  simp only[arN,mem_singleton]at hy;subst hy;exact le_refl _
 have T:aom.Ok P Bx.bO:=aK.Ok.cons (aop.sum ayb) aK.Ok.nil;refine Ds.cF hz hX hm T func47 (aAe th m fu aa fr fs gn ao) ?_;refine Ds.cF hz hX hm T func47 (aAf th m fu aa fr fs gn ao) ⟨rfl,rfl,hd,hr,λh=> ?_,λh=> ?_⟩;have h:vZ th m aa ao≠0:=bne_iff_ne.1 h;refine lO (h:=hT th m fu aa fr fs gn++[.vec (.au cE []) Lf.eE]) ⟨[(0,.au cE [],Lf.eE)],[0,1],4,[]⟩ rfl (le_refl _) (qE.same _) rfl ?_;show hT th m fu aa fr fs gn++[.vec (.au cE (m8 th m aa ao)) Lf.eE]=_;unfold m8;rw[if_pos h];rfl;have h:¬vZ th m aa ao≠0:=λhh=>Bool.false_ne_true (h.symm.trans (bne_iff_ne.2 hh));refine lO (h:=hT th m fu aa fr fs gn++[.vec (.au cE (lsT th m aa ao)) Lf.eE]) ⟨[],[0,1],4,[]⟩ rfl (le_refl _) (qE.same _) ?_ ?_;show AV.bq [.vec 4,aM (vZ th m aa ao)]=_;rw[show vZ th m aa ao=0 from Decidable.byContradiction h];rfl;show hT th m fu aa fr fs gn++[.vec (.au cE (m8 th m aa ao)) Lf.eE]=_;unfold m8;rw[if_neg h]
theorem ae5:fI P Bx.bO 29 sPg:=by
 refine fS func29 ?_;rintro⟨th,m,fu,aa,fr,fs,gn⟩ ⟨(hd:Ds.bm th m fu),(hr:0<=aa/\aa<=65536),_⟩ X hX hz;refine Ds.cF hz hX (by intro y hy;cases hy) (aK.Ok.cons (aoq.sum ayc) aK.Ok.nil) func29 (aAg th m fu aa fr fs gn) ⟨rfl,rfl,hd,hr,λh=> ?_,λh=> ?_⟩;have h:zm th m aa≠0:=bne_iff_ne.1 h;refine bD (h:=hT th m fu aa fr fs gn) 4 rfl (le_refl _) ?_ rfl;show AV.bq [.ah .u64 16 (dR th m aa),aM (zm th m aa)]=_;unfold dR;rw[if_pos h];rfl;have h:¬zm th m aa≠0:=λhh=>Bool.false_ne_true (h.symm.trans (bne_iff_ne.2 hh));refine bD (h:=hT th m fu aa fr fs gn) 4 rfl (le_refl _) ?_ rfl;show AV.bq [.ah .u64 16 (dR th m aa),aM (zm th m aa)]=_;unfold dR;rw[if_neg h,show zm th m aa=0 from Decidable.byContradiction h];rfl
def opF(th:Th)(free:Ws):Ws:=Bx.bR .and free (Bx.bR .andNot (Bx.bk (Ds.eF th)) (Bx.bk 2))
abbrev XO:Type:=Th×As×Int×Int×Ws
abbrev sOp:Spec XO:=⟨λ(_,_,_,aa,free)=>[.ptr 0 0,aM aa,.ah .u64 16 free],λ(th,m,fu,_)=>Ds.hD th m fu,λ(th,m,fu,_)=>[Ds.bm th m fu],λ(th,m,fu,aa,free)=>Ds.hD th m fu++[fL 0 aa (opF th free) Bx.aG Bx.aG],λ_=>.ptr 3 0⟩
def mOp:List AV->RM (XO×List Nat)
 |[d,r,.ah .u64 16 free]=>(Ds.sG [d]).bind λ((th,m,fu),σ)=>match r.cC with
  |some (_,_,aa)=>.ret ((th,m,fu,aa,free),σ)|none=>.fail ""
 |_=>.fail ""
abbrev ayg:=bY sOp mOp
abbrev ae6:=bY Ds.sPn Ds.sG
abbrev avZ:=sumOf [Bx.bI] [Bx.eH] (λ_=>[]) (λ(n,())=>(Bx.bk n,()))
abbrev aor:=sumOf [Bx.eH,Bx.eH] [Bx.eH] (λ_=>[]) (λ(a,b,())=>(Bx.bR .andNot a b,()))
abbrev ayh:=sumOf [Bx.eH,Bx.eH] [Bx.eH] (λ_=>[]) (λ(a,b,())=>(Bx.bR .and a b,()))
def ayi:aK:=[(22,ae6),(30,avZ),(31,aor),(46,ayh)]
abbrev sRt:Spec XT:=⟨λ_=>[.ptr 0 0],λ(th,m,fu,aa,fr,fs,gn)=>hT th m fu aa fr fs gn,λ_=>[],λ(th,m,fu,aa,fr,fs,gn)=>hT th m fu aa fr fs gn,λ(_,_,_,aa,_)=>aM aa⟩
def th0(n:Int):Th:=replicate n.toNat (CL.d Ds.cS)
def mGt:List AV->RM (XD×List Nat)
 |[t,.s (.str key)]=>(mT [t]).bind λ(X,σ)=>.ret ((X,key),σ)|_=>.fail ""
theorem aAh(th:Th)(m:As)(fu aa:Int)(free:Ws):run P ayi.sum f45 [] (start f45 [.ptr 0 0,aM aa,.ah .u64 16 free] (Ds.hD th m fu))=
 Tree.ab (bp (some [AV.ptr 0 0])) (.ab (bp (some (Ds.hD th m fu))) (.ab (Ds.bm th m fu) (.ret (Ds.hD th m fu++[.aq [.ah .u64 16 free] 67,fL 0 aa (Bx.bR BinOp.and free (Bx.bR BinOp.andNot (Bx.bk (Ds.eF th)) (Bx.bk 2))) (replicate 16 0) (replicate 16 0)]) (.ptr 4 0)))):=by kernel_rfl
theorem aAi(th:Th)(m:As)(fu aa:Int)(fr fs gn:Ws):run P (aK.sum []) f34 [] (start f34 [.ptr 0 0] (hT th m fu aa fr fs gn))=
 Tree.ret (hT th m fu aa fr fs gn) (aM aa):=by kernel_rfl
theorem arP{Z:bh}:fI P Z 45 sOp:=by
 refine fS func45 ?_;rintro⟨th,m,fu,aa,free⟩ ⟨(hd:Ds.bm th m fu),_⟩ X hX hz;exact Ds.cF hz hX (by intro y hy;cases hy) (aK.Ok.cons (Ds.adW.sum Ds.sG) (aK.Ok.cons Bx.sW.sum (aK.Ok.cons Bx.wC.sum (aK.Ok.cons Bx.aiw.sum aK.Ok.nil)))) func45 (aAh th m fu aa free) ⟨rfl,rfl,hd,bD 3 rfl (le_refl _) rfl rfl⟩
theorem arQ{Z:bh}:fI P Z 34 sRt:=by
 refine fS func34 ?_;rintro⟨th,m,fu,aa,fr,fs,gn⟩ _ X hX hz;exact Ds.cF hz hX (by intro y hy;cases hy) aK.Ok.nil func34 (aAi th m fu aa fr fs gn) (bD 4 rfl (le_refl _) rfl rfl)
abbrev av0:TypeId:=70
abbrev fy(i:Nat)(wh:Int)(on:Bool)(ep pg:Int)(br:Ws)(t:AV):ak:=.aq [.ptr i 0,aM wh,.s (.bool on),aM ep,aM pg,.ah .u64 16 br,t] av0
abbrev hS0(th:Th)(m:As)(fu wh:Int)(on:Bool)(ep pg:Int)(br:Ws):List ak:=[fy 1 wh on ep pg br (.s .jv),Ds.jI 2 3 fu,.vec (.au Ds.cS th) Ds.eS,.map Ds.kS m]
abbrev jM(th:Th)(m:As)(fu wh:Int)(on:Bool)(ep pg:Int)(br:Ws)(aa:Int)(fr fs gn:Ws):List ak:=[fy 1 wh on ep pg br (.ptr 2 0),Ds.jI 3 4 fu,fL 1 aa fr fs gn,.vec (.au Ds.cS th) Ds.eS,.map Ds.kS m]
abbrev atv:=bY sPg mT
abbrev ayj:=sumOf [Bx.eH] [bI] (λ(ws,())=>[Bx.okW ws]) (λ(ws,())=>(Bx.lN ws,()))
def aos:aK:=[(22,ae6),(30,avZ),(31,aor),(46,ayh),(45,ayg),(29,atv),(32,ayj)]
theorem aAj(th:Th)(m:As)(fu wh:Int)(on:Bool)(ep pg:Int)(br:Ws):run P aos.sum f24 [] (start f24 [.ptr 0 0] (hS0 th m fu wh on ep pg br))=
 Tree.ab (bp (some [AV.ptr 0 0])) (.ab (bp (some (Ds.hD th m fu))) (.ab (Ds.bm th m fu) (.ab (bp (some [AV.ptr 0 0,aM pg,.ah .u64 16 (replicate 16 0)])) (.ab (bp (some (Ds.hD th m fu))) (.ab (Ds.bm th m fu) (.ab (bp (some [AV.ptr 0 0])) (.ab (bp (some (hT th m fu pg (opF th (replicate 16 0)) Bx.aG Bx.aG))) (.ab (Ds.bm th m fu) (.ab ((0:Int)<=pg/\pg<=65536) (.ite (zm th m pg !=0) (.ret (hS0 th m fu wh on ep pg br++[.aq [.ah .u64 16 (Bx.bk (Ds.eF th))] 67,fL 1 pg (opF th (replicate 16 0)) Bx.aG Bx.aG,.aq [.ah .u64 16 (dR th m pg)] 67]) (.s (.aI false))) (.ab (Bx.okW (Bx.bR BinOp.and (dR th m pg) (Bx.bk 2))) (.ite (decide (Bx.lN (Bx.bR BinOp.and (dR th m pg) (Bx.bk 2))>0)) (.ret (hS0 th m fu wh on ep pg br++[.aq [.ah .u64 16 (Bx.bk (Ds.eF th))] 67,fL 1 pg (opF th (replicate 16 0)) Bx.aG Bx.aG,.aq [.ah .u64 16 (dR th m pg)] 67]) (.s (.aI false))) (.ab (Bx.okW (Bx.bR BinOp.andNot (dR th m pg) (Bx.bk (Ds.eF th)))) (.ite (decide (Bx.lN (Bx.bR BinOp.andNot (dR th m pg) (Bx.bk (Ds.eF th)))>0)) (.ret (hS0 th m fu wh on ep pg br++[.aq [.ah .u64 16 (Bx.bk (Ds.eF th))] 67,fL 1 pg (opF th (replicate 16 0)) Bx.aG Bx.aG,.aq [.ah .u64 16 (dR th m pg)] 67]) (.s (.aI false))) (.ab (bp (some [AV.ptr 0 0,aM pg,.ah .u64 16 (Bx.bR BinOp.andNot (Bx.bR BinOp.andNot (Bx.bk (Ds.eF th)) (Bx.bk 2)) (dR th m pg))])) (.ab (bp (some (Ds.hD th m fu))) (.ab (Ds.bm th m fu) (.ret [fy 1 wh on ep pg (dR th m pg) (.ptr 7 0),Ds.jI 2 3 fu,.vec (.au Ds.cS th) Ds.eS,.map Ds.kS m,.aq [.ah .u64 16 (Bx.bk (Ds.eF th))] 67,fL 1 pg (opF th (replicate 16 0)) Bx.aG Bx.aG,.aq [.ah .u64 16 (dR th m pg)] 67,fL 1 pg (opF th (Bx.bR BinOp.andNot (Bx.bR BinOp.andNot (Bx.bk (Ds.eF th)) (Bx.bk 2)) (dR th m pg))) Bx.aG Bx.aG] (.s (.aI true)))))))))))))))))))):=by kernel_rfl
theorem aAk(th:Th)(m:As)(fu wh:Int)(on:Bool)(ep pg:Int)(br:Ws)(aa:Int)(fr fs gn:Ws):run P aos.sum f24 [] (start f24 [.ptr 0 0] (jM th m fu wh on ep pg br aa fr fs gn))=
 Tree.ab (bp (some [AV.ptr 0 0]))
 (.ab (bp (some (Ds.hD th m fu))) (.ab (Ds.bm th m fu) (.ab (bp (some [AV.ptr 0 0,aM pg,.ah .u64 16 (replicate 16 0)])) (.ab (bp (some (Ds.hD th m fu))) (.ab (Ds.bm th m fu) (.ab (bp (some [AV.ptr 0 0])) (.ab (bp (some (hT th m fu pg (opF th (replicate 16 0)) Bx.aG Bx.aG))) (.ab (Ds.bm th m fu) (.ab ((0:Int)<=pg/\pg<=65536) (.ite (zm th m pg !=0) (.ret (jM th m fu wh on ep pg br aa fr fs gn++[.aq [.ah .u64 16 (Bx.bk (Ds.eF th))] 67,fL 1 pg (opF th (replicate 16 0)) Bx.aG Bx.aG,.aq [.ah .u64 16 (dR th m pg)] 67]) (.s (.aI false))) (.ab (Bx.okW (Bx.bR BinOp.and (dR th m pg) (Bx.bk 2))) (.ite (decide (Bx.lN (Bx.bR BinOp.and (dR th m pg) (Bx.bk 2))>0)) (.ret (jM th m fu wh on ep pg br aa fr fs gn++[.aq [.ah .u64 16 (Bx.bk (Ds.eF th))] 67,fL 1 pg (opF th (replicate 16 0)) Bx.aG Bx.aG,.aq [.ah .u64 16 (dR th m pg)] 67]) (.s (.aI false))) (.ab (Bx.okW (Bx.bR BinOp.andNot (dR th m pg) (Bx.bk (Ds.eF th)))) (.ite (decide (Bx.lN (Bx.bR BinOp.andNot (dR th m pg) (Bx.bk (Ds.eF th)))>0)) (.ret (jM th m fu wh on ep pg br aa fr fs gn++[.aq [.ah .u64 16 (Bx.bk (Ds.eF th))] 67,fL 1 pg (opF th (replicate 16 0)) Bx.aG Bx.aG,.aq [.ah .u64 16 (dR th m pg)] 67]) (.s (.aI false))) (.ab (bp (some [AV.ptr 0 0,aM pg,.ah .u64 16 (Bx.bR BinOp.andNot (Bx.bR BinOp.andNot (Bx.bk (Ds.eF th)) (Bx.bk 2)) (dR th m pg))])) (.ab (bp (some (Ds.hD th m fu))) (.ab (Ds.bm th m fu) (.ret [fy 1 wh on ep pg (dR th m pg) (.ptr 8 0),Ds.jI 3 4 fu,fL 1 aa fr fs gn,.vec (.au Ds.cS th) Ds.eS,.map Ds.kS m,.aq [.ah .u64 16 (Bx.bk (Ds.eF th))] 67,fL 1 pg (opF th (replicate 16 0)) Bx.aG Bx.aG,.aq [.ah .u64 16 (dR th m pg)] 67,fL 1 pg (opF th (Bx.bR BinOp.andNot (Bx.bR BinOp.andNot (Bx.bk (Ds.eF th)) (Bx.bk 2)) (dR th m pg))) Bx.aG Bx.aG] (.s (.aI true)))))))))))))))))))):=by kernel_rfl
def mGs:List AV->RM ((Th×As×Int×Int×Bool×Int×Int)×List Nat)
 |[.ptr id 0,n,.agg [on,ep,pg]]=>(Ds.sG [.ptr id 0]).bind λ((th,m,fu),σ)=>match n.cC,on.fM,ep.cC,pg.cC with
  |some (_,_,n),some (_,on),some (_,_,ep),some (_,_,pg)=>.ret ((th,m,fu,n,on,ep,pg),σ)|_,_,_,_=>.fail ""
 |_=>.fail ""
abbrev atw:=bY Ds.sGs mGs
abbrev aot:=bY Ds.sFl Ds.sG
abbrev ayk:=bY Ds.sGo Ds.mRd
def aou:aK:=[(22,ae6),(37,atw),(38,aot)]
def arR:List (Nat×Norm):=[(fA+6,⟨[],[],3,[]⟩),(abE+8003,⟨[],[0,15,16,17,22,23,24],3,[]⟩)]
abbrev cMk:List CK:=[.bool,.int .i64,.int .i64]
abbrev mkO(x:CL cMk):Bool:=x.1
abbrev mkE(x:CL cMk):Int:=x.2.1
abbrev mkP(x:CL cMk):Int:=x.2.2.1
def cFo(th:Th)(m:As)(fu i k:Int)(on:Bool)(ep pg:Int)(l:List (CL cMk)):bP:=⟨sl 32 [(0,.ptr 0 0),(15,.vec 3),(16,aM 2),(17,aM i),(22,.ptr 0 0),(23,aM k),(24,.agg [.s (.bool on),aM ep,aM pg])],Ds.hD th m fu++[.vec (.au cMk l) 64],sj f20 8 3,⟨none,false,0,[],8⟩⟩
theorem ayl(th:Th)(m:As)(fu:Int):run P aou.sum f20 arR (start f20 [.ptr 0 0] (Ds.hD th m fu))=
 Tree.ab (bp (some [AV.ptr 0 0])) (.ab (bp (some (Ds.hD th m fu))) (.ab (Ds.bm th m fu) (.ite (decide (Ds.eF th<3)) (.ret (Ds.hD th m fu) (.s (.aR .i64 1))) (.ite true (.ab ((0:Int)<=0) (.ab ((0:Int)<(↑(2:Nat):Int)) (.at (cFo th m fu 0 0 true 1 0 [(true,(1:Int),(0:Int),()),(false,(0:Int),(0:Int),())])))) (.ab (bp (some [AV.ptr 0 0])) (.ab (bp (some (Ds.hD th m fu))) (.ab (Ds.bm th m fu) (.ret (Ds.hD (Ds.lM th m fu) (Ds.oa m fu) (Ds.dC fu)++[.vec (.au cMk [(true,(1:Int),(0:Int),()),(false,(0:Int),(0:Int),())]) 64]) (aM (Ds.zD fu)))))))))):=by kernel_rfl
theorem aym(th:Th)(m:As)(fu i k:Int)(on:Bool)(ep pg:Int)(l:List (CL cMk)):run P aou.sum f20 arR (cFo th m fu i k on ep pg l)=
 Tree.ab (bp (some [AV.ptr 0 0,aM k,.agg [.s (.bool on),aM ep,aM pg]])) (.ab (bp (some (Ds.hD th m fu))) (.ab (Ds.bm th m fu) (.ab (aA k) (.ite (Ds.zG th fu k on ep pg !=0) (.ret (Ds.hD th (Ds.ku th m fu k on ep pg) (Ds.pV th fu k on ep pg)++[.vec (.au cMk l) 64]) (aM (Ds.zG th fu k on ep pg))) (.ab (aA (i+1)) (.ite (decide (i+1<2)) (.ab ((0:Int)<=i+1) (.ab (i+1<(↑l.length:Int)) (.at (cFo th (Ds.ku th m fu k on ep pg) (Ds.pV th fu k on ep pg) (i+1) (i+1) (mkO (el l (i+1))) (mkE (el l (i+1))) (mkP (el l (i+1))) l)))) (.ab (bp (some [AV.ptr 0 0])) (.ab (bp (some (Ds.hD th (Ds.ku th m fu k on ep pg) (Ds.pV th fu k on ep pg)))) (.ab (Ds.bm th (Ds.ku th m fu k on ep pg) (Ds.pV th fu k on ep pg)) (.ret (Ds.hD (Ds.lM th (Ds.ku th m fu k on ep pg) (Ds.pV th fu k on ep pg)) (Ds.oa (Ds.ku th m fu k on ep pg) (Ds.pV th fu k on ep pg)) (Ds.dC (Ds.pV th fu k on ep pg))++[.vec (.au cMk l) 64]) (aM (Ds.zD (Ds.pV th fu k on ep pg))))))))))))):=by kernel_rfl
def sS(th:Th)(s:S5)(l:Bool)(es:List En)(bs:List Br):S5:=
 ⟨(bH th s.m s.fu s.fr s.fs l es bs).1,(bH th s.m s.fu s.fr s.fs l es bs).2.1,(bH th s.m s.fu s.fr s.fs l es bs).2.2.1,(bH th s.m s.fu s.fr s.fs l es bs).2.2.2.1,s.gn⟩
def sL(th:Th)(s:S5)(l:Bool)(es:List En)(bs:List Br):List Br:=(bH th s.m s.fu s.fr s.fs l es bs).2.2.2.2.1
def sE(th:Th)(s:S5)(l:Bool)(es:List En)(bs:List Br):Int:=(bH th s.m s.fu s.fr s.fs l es bs).2.2.2.2.2
def Bad(th:Th)(s t:S5)(k:Nat)(e:Int):Prop:=∃N,tj th s t N []/\N.length<=k/\((e=41/\∀p,In s.fr p->p∈N)\/(e=42/\t.fu=0))
theorem pC(bs:List Br):ae (ae bs)=ae bs:=by cases bs<;>rfl
theorem ag3{bs:List Br}{k:Nat}(h:ae bs=bs):ae (bs.take k)=bs.take k:=by
 cases bs with
 |nil=>simp[ae]|cons b r=>
  cases k with
  |zero=>rfl|succ k=>
   simp only[ae,List.cons.injEq]at h;simp[ae,h.1]
theorem acC{th:Th}{s:S5}{l:Bool}{es:List En}{bs:List Br}(ho:okS th s)(hm:dD l es (ae bs)=true)(hz:bC es (ae bs)<=254):
 (wE th s l es bs=0/\∃n,tj th s (wS th s l es bs) [n] []/\wB th s l es bs=(du l es bs,n,())/\Rd th (wS th s l es bs).m n l es (ae bs))\/(wE th s l es bs≠0/\Bad th s (wS th s l es bs) 0 (wE th s l es bs)):=by
 rcases avL ho hm hz with h|⟨h1,h2,h3⟩|⟨h1,h2,h3⟩;exact .inl h;exact .inr ⟨by rw[h1];decide,[],by rw[h2];exact iP ho,le_refl _,.inl ⟨h1,λp hp=>absurd hp (h3 p)⟩⟩;exact .inr ⟨by rw[h1];decide,[],h2,le_refl _,.inr ⟨h1,h3⟩⟩
theorem aiV{th:Th}{s:S5}{l:Bool}{es:List En}{bs:List Br}(ho:okS th s)(h:es.length+bs.length=0):sE th s l es bs=0/\sL th s l es bs=[]/\tj th s (sS th s l es bs) [] []:=by
 have e:bH th s.m s.fu s.fr s.fs l es bs=(s.m,s.fu,s.fr,s.fs,[],0):=by unfold bH;rw[if_pos h]
 refine⟨by unfold sE;rw[e],by unfold sL;rw[e], ?_⟩;have:sS th s l es bs=s:=by unfold sS;rw[e]
 rw[this];exact iP ho
theorem aov{th:Th}{s:S5}{l:Bool}{es:List En}{bs:List Br}(ho:okS th s)(h:0<es.length+bs.length)(hm:dD l es (ae bs)=true)(hz:bC es (ae bs)<=254):
 (sE th s l es bs=0/\∃n,tj th s (sS th s l es bs) [n] []/\sL th s l es bs=[(du l es (ae bs),n,())]/\Rd th (sS th s l es bs).m n l es (ae bs))\/(sE th s l es bs≠0/\Bad th s (sS th s l es bs) 1 (sE th s l es bs)):=by
 have e1:sE th s l es bs=wE th s l es (ae bs):=by unfold sE wE bH;rw[if_neg (by omega),if_pos hz]
 have e2:sS th s l es bs=wS th s l es (ae bs):=by unfold sS wS bH;rw[if_neg (by omega),if_pos hz]
 have e3:sL th s l es bs=[wB th s l es (ae bs)]:=by unfold sL wB bH;rw[if_neg (by omega),if_pos hz]
 rw[e1,e2,e3];have:=acC (bs:=ae bs) ho (by rw[pC];exact hm) (by rw[pC];exact hz);rw[pC]at this;rcases this with⟨a,n,b,c,d⟩|⟨a,N,b,c,d⟩;exact .inl ⟨a,n,b,by rw[c],d⟩;exact .inr ⟨a,N,b,Nat.le_succ_of_le c,d⟩
theorem aow{th:Th}{s:S5}{l:Bool}{es:List En}{bs:List Br}(ho:okS th s)(h:0<es.length+bs.length)(hz:¬bC es (ae bs)<=254)(ok:dW l es (ae bs)=true)
 (z1:bC (bu l es (ae bs)) (ae (bA l es (ae bs)))<=254) (z2:bC (dj l es (ae bs)) (ae (dw l es (ae bs)))<=254)
 (m1:dD (b8 l es (ae bs)) (bu l es (ae bs)) (ae (bA l es (ae bs)))=true) (m2:dD (b8 l es (ae bs)) (dj l es (ae bs)) (ae (dw l es (ae bs)))=true):
 (sE th s l es bs=0/\∃a b,tj th s (sS th s l es bs) [a,b] []/\sL th s l es bs=[(du (b8 l es (ae bs)) (bu l es (ae bs)) (bA l es (ae bs)),a,()),(du (b8 l es (ae bs)) (dj l es (ae bs)) (dw l es (ae bs)),b,())]/\
   Rd th (sS th s l es bs).m a (b8 l es (ae bs)) (bu l es (ae bs)) (ae (bA l es (ae bs)))/\Rd th (sS th s l es bs).m b (b8 l es (ae bs)) (dj l es (ae bs)) (ae (dw l es (ae bs))))\/(sE th s l es bs≠0/\Bad th s (sS th s l es bs) 1 (sE th s l es bs)):=by
 have hsp:¬spC l es (ae bs)≠0:=by unfold spC;rw[if_pos ok];simp
 have ed:bH th s.m s.fu s.fr s.fs l es bs=if wE th s (b8 l es (ae bs)) (bu l es (ae bs)) (bA l es (ae bs))≠0 then
  ((wS th s (b8 l es (ae bs)) (bu l es (ae bs)) (bA l es (ae bs))).m,(wS th s (b8 l es (ae bs)) (bu l es (ae bs)) (bA l es (ae bs))).fu,(wS th s (b8 l es (ae bs)) (bu l es (ae bs)) (bA l es (ae bs))).fr,(wS th s (b8 l es (ae bs)) (bu l es (ae bs)) (bA l es (ae bs))).fs,[],wE th s (b8 l es (ae bs)) (bu l es (ae bs)) (bA l es (ae bs)))
  else((wS th (wS th s (b8 l es (ae bs)) (bu l es (ae bs)) (bA l es (ae bs))) (b8 l es (ae bs)) (dj l es (ae bs)) (dw l es (ae bs))).m,(wS th (wS th s (b8 l es (ae bs)) (bu l es (ae bs)) (bA l es (ae bs))) (b8 l es (ae bs)) (dj l es (ae bs)) (dw l es (ae bs))).fu,
   (wS th (wS th s (b8 l es (ae bs)) (bu l es (ae bs)) (bA l es (ae bs))) (b8 l es (ae bs)) (dj l es (ae bs)) (dw l es (ae bs))).fr,(wS th (wS th s (b8 l es (ae bs)) (bu l es (ae bs)) (bA l es (ae bs))) (b8 l es (ae bs)) (dj l es (ae bs)) (dw l es (ae bs))).fs,
   [wB th s (b8 l es (ae bs)) (bu l es (ae bs)) (bA l es (ae bs)),wB th (wS th s (b8 l es (ae bs)) (bu l es (ae bs)) (bA l es (ae bs))) (b8 l es (ae bs)) (dj l es (ae bs)) (dw l es (ae bs))],wE th (wS th s (b8 l es (ae bs)) (bu l es (ae bs)) (bA l es (ae bs))) (b8 l es (ae bs)) (dj l es (ae bs)) (dw l es (ae bs))):=by
  unfold bH;rw[if_neg (by omega),if_neg hz,if_neg hsp];rfl
 generalize b8 l es (ae bs)=L at *;generalize bu l es (ae bs)=E1 at *;generalize dj l es (ae bs)=E2 at *;generalize bA l es (ae bs)=B1 at *;generalize dw l es (ae bs)=B2 at *;rcases acC ho m1 z1 with⟨a,n,b,c,d⟩|⟨a,N,b,c,d⟩;rw[if_neg (by rw[a];simp)]at ed;have ho2:=b.ok;have e2:sS th s l es bs=wS th (wS th s L E1 B1) L E2 B2:=by unfold sS;rw[ed];rfl
 have e3:sL th s l es bs=[wB th s L E1 B1,wB th (wS th s L E1 B1) L E2 B2]:=by unfold sL;rw[ed]
 have e4:sE th s l es bs=wE th (wS th s L E1 B1) L E2 B2:=by unfold sE;rw[ed]
 rw[e2,e3,e4];rcases acC ho2 m2 z2 with⟨a2,n2,b2,c2,d2⟩|⟨a2,N2,b2,c2,d2⟩;refine .inl ⟨a2,n,n2,fC b b2 (λp hp=>by cases hp),by rw[c,c2], ?_,d2⟩;exact Rd.same d (b2.rd n (λhh=>((b.fr n).1 hh).2 mem_cons_self));refine .inr ⟨a2,[n]++N2,fC b b2 (λp hp=>by cases hp),by rw[length_append,List.length_singleton];omega,d2.imp (λh=>⟨h.1,λp hp=> ?_⟩) id⟩;by_cases hpn:p∈[n];exact List.mem_append_left _ hpn;exact mem_append_right _ (h.2 p ((b.fr p).2 ⟨hp,hpn⟩));rw[if_pos a]at ed;have e2:sS th s l es bs=wS th s L E1 B1:=by unfold sS;rw[ed];rfl
 have e4:sE th s l es bs=wE th s L E1 B1:=by unfold sE;rw[ed]
 rw[e2,e4];exact .inr ⟨a,N,b,Nat.le_succ_of_le c,d⟩
structure For (th:Th) (m:As) (h:Nat) (F:List (Kd h)):Prop where
 bare:cv F=F
 rep:∀k∈F,rep th m h k.2
 ok:∀k∈F,nM h k.2
 sep:aeB h F
 key:∀k∈F,k.1.size<=24
 pg:∀k∈F,2<=pg h k.2/\pg h k.2<1024
theorem aiW{th:Th}{m:As}{h:Nat}:For th m h []:=⟨rfl,λk hk=>(by cases hk),λk hk=>(by cases hk),⟨List.Pairwise.nil,λk hk=>(by cases hk)⟩,λk hk=>(by cases hk),λk hk=>(by cases hk)⟩
theorem aiX{th:Th}{m:As}{h:Nat}{t:TN h}(h1:rep th m h t)(h2:nM h t)(h3:2<=pg h t/\pg h t<1024):For th m h [(empty,t)]:=
 ⟨rfl,λk hk=>by rw[mem_singleton.1 hk];exact h1,λk hk=>by rw[mem_singleton.1 hk];exact h2,⟨List.pairwise_singleton _ _,λk hk e _=>by rw[mem_singleton.1 hk];exact ib _⟩,
   λk hk=>by rw[mem_singleton.1 hk];exact zero_le _,λk hk=>by rw[mem_singleton.1 hk];exact h3⟩
theorem aiY{th:Th}{m:As}{h:Nat}{t u:TN h}{s:ByteArray}(h1:rep th m h t)(h2:nM h t)(h3:2<=pg h t/\pg h t<1024)(g1:rep th m h u)(g2:nM h u)(g3:2<=pg h u/\pg h u<1024)
 (hs:s.size<=24) (a:∀e∈fc h t,slt e.1 s=true) (b:∀e∈fc h u,slt e.1 s=false):For th m h [(empty,t),(s,u)]:=by
 have two:∀{p:Kd h->Prop},p (empty,t)->p (s,u)->∀k∈[((empty,t):Kd h),(s,u)],p k:=λhp hq k hk=>by
  rcases mem_cons.1 hk with rfl|hk;exact hp;rw[mem_singleton.1 hk];exact hq
 refine⟨rfl,two h1 g1,two h2 g2,⟨?_,two (p:=λk=>∀e∈fc h k.2,slt e.1 k.1=false) (λe _=>ib _) b⟩,two (zero_le _) hs,two h3 g3⟩;rw[pairwise_cons];exact⟨λk hk e he=>by rw[mem_singleton.1 hk];exact a e he,List.pairwise_singleton _ _⟩
theorem For.same{th:Th}{s t:S5}{N V:List Int}(e:tj th s t N V){h:Nat}{F:List (Kd h)}(f:For th s.m h F)(hp:∀p∈cf h F,¬In s.fr p):For th t.m h F:=
 ⟨f.bare,λk hk=>e.rep h (f.rep k hk) λp ky=>hp p (mem_flatMap.2 ⟨k,hk,ky⟩),f.ok,f.sep,f.key,f.pg⟩
theorem uP{th:Th}{s:S5}(ho:okS th s){n:Int}(h:In s.fr n):2<=n/\n<1024:=⟨(ho.pg n h).1,(mX ho.fr h).2⟩
theorem arS{th:Th}{s:S5}{es:List En}(ho:okS th s)(jU:kv es=true)(hsp:¬bC es []<=254->dW true es []=true/\bC (bu true es []) []<=254/\bC (dj true es []) []<=254/\
 ∃k,0<k/\k<es.length/\bu true es []=es.take k/\dj true es []=es.drop k/\bA true es []=[]/\dw true es []=[]/\b8 true es []=true):
 (sE th s true es []=0/\∃(N:List Int) (k0:ByteArray) (F:List (Kd 0)),tj th s (sS th s true es []) N []/\N.length<=2/\sL th s true es []=mi k0 (F.map (dh 0))/\For th (sS th s true es []).m 0 F/\cu 0 F=es/\cf 0 F=N/\F.length<=2/\(bC es []<=254->F.length<=1))\/
 (sE th s true es []≠0/\Bad th s (sS th s true es []) 1 (sE th s true es [])):=by
 have hm:=axW jU;by_cases h0:es.length=0;have⟨a,b,c⟩:=aiV (l:=true) (es:=es) (bs:=[]) ho (by rw[h0];rfl);obtain rfl:es=[]:=List.eq_nil_of_length_eq_zero h0;exact .inl ⟨a,[],empty,[],c,zero_le _,b,aiW,rfl,rfl,zero_le _,λ_=>zero_le _⟩;by_cases hz:bC es []<=254;rcases aov (l:=true) (es:=es) (bs:=[]) ho (by simp only[length_nil];omega) hm hz with⟨a,n,b,c,d⟩|h;refine .inl ⟨a,[n],du true es [],[(empty,(n,es))],b,by simp,c,aiX d ⟨λe=>h0 (by show es.length=0;rw[show es=[]from e];rfl),jU,hz⟩ (uP ho (b.sub n mem_cons_self)), ?_,rfl,by simp,λ_=>by simp⟩;show es++[]=es;rw[append_nil];exact .inr h;have⟨ok,z1,z2,k,k0,k1,e1,e2,e3,e4,e5⟩:=hsp hz;have bn:ae ([]:List Br)=[]:=rfl;have hmt:=aex hm k;have hmd:=aey hm k;rw[List.take_nil]at hmt;rw[List.drop_nil]at hmd;have key:=aow (l:=true) (es:=es) (bs:=[]) ho (by simp only[length_nil];omega) hz ok (by rw[bn,e3];exact z1) (by rw[bn,e4];exact z2) (by rw[bn,e3,e1,e5];exact hmt) (by rw[bn,e4,e2,e5];exact hmd);rw[bn,e1,e2,e3,e4,e5]at key;rw[e1]at z1;rw[e2]at z2;rcases key with⟨a,n,n2,b,c,d1,d2⟩|h;have⟨m1,m2⟩:=aeD.1 jU;have aAl:es.drop k≠[]:=λe=>by have:=congrArg List.length e;rw[length_drop,length_nil]at this;omega
 have av1:es.take k≠[]:=λe=>by have:=congrArg List.length e;rw[length_take,length_nil]at this;omega
 have hk:du true (es.drop k) []=(es.getD k dE).1:=by
  unfold du;rw[if_pos rfl,lu,add_zero]
 have hki:es.getD k dE=es[k]:=ba k1
 have low:∀i,i<k->slt (es.getD i dE).1 (es.getD k dE).1=true:=λi hi=>by
  have:=m2 i k hi (by simpa using k1);rw[c9 es rf dE i,c9 es rf dE k]at this;exact this
 have high:∀i,k<=i->i<es.length->slt (es.getD i dE).1 (es.getD k dE).1=false:=λi hi hl=>by
  by_cases e:i=k;rw[e];exact eu _;have:=m2 k i (by omega) (by simpa using hl);rw[c9 es rf dE i,c9 es rf dE k]at this;exact uo this
 refine .inl ⟨a,[n,n2],du true (es.take k) [],[(empty,(n,es.take k)),(du true (es.drop k) [],(n2,es.drop k))],b,by simp,c, ?_, ?_,rfl,by simp,λh=>absurd h hz⟩;refine aiY (h:=0) d1 ⟨av1,aaL jU k,z1⟩ (uP ho (b.sub n mem_cons_self)) d2 ⟨aAl,aaN jU k,z2⟩ (uP ho (b.sub n2 (mem_cons_of_mem _ mem_cons_self))) ?_ (λe he=> ?_) (λe he=> ?_);rw[hk,hki];exact(m1 _ (getElem_mem k1)).2.1;obtain⟨i,hi,rfl⟩:=List.getElem_of_mem (show e∈es.take k from he);rw[length_take]at hi;rw[hk,List.getElem_take];have:=low i (by omega);rw[ba (by omega)]at this;exact this;obtain⟨i,hi,rfl⟩:=List.getElem_of_mem (show e∈es.drop k from he);rw[length_drop]at hi;rw[hk,List.getElem_drop];have:=high (k+i) (by omega) (by omega);rw[ba (by omega)]at this;exact this;show es.take k++(es.drop k++[])=es;rw[append_nil,List.take_append_drop];exact .inr h
theorem aiZ{th:Th}{s:S5}{h:Nat}{Q:List (Kd h)}{bs:List Br}(ho:okS th s)(hb:ae bs=Q.map (dh h))(hQ:Q≠[])(f:For th s.m h Q)(hp:∀p∈cf h Q,¬In s.fr p)(jU:ik (Q.map (dh h))=true)(bU:od h Q<=281):
 (sE th s false [] bs=0/\∃(N:List Int) (k0:ByteArray) (F:List (Kd (h+1))),tj th s (sS th s false [] bs) N []/\N.length<=2/\sL th s false [] bs=mi k0 (F.map (dh (h+1)))/\For th (sS th s false [] bs).m (h+1) F/\cu (h+1) F=cu h Q/\
   (cf (h+1) F).Perm (N++cf h Q)/\((od h Q<=254/\F.length=1/\fE (h+1) F=3^(h+1)*(19+ovr (od h Q))+fE h Q)\/(254<od h Q/\F.length=2/\fE (h+1) F=3^(h+1)*38+fE h Q)))\/
 (sE th s false [] bs≠0/\Bad th s (sS th s false [] bs) 1 (sE th s false [] bs)):=by
 have hl:0<bs.length:=by
  have e:(ae bs).length=bs.length:=aaQ bs;rw[hb,length_map]at e;have:=List.length_pos_iff.2 hQ;omega
 have hm:=aq5 jU;have hs0:od h Q=bC [] (Q.map (dh h)):=rfl;have stay:∀{t:S5} {N:List Int},tj th s t N []->∀k∈Q,rep th t.m h k.2:=λe k hk=>e.rep h (f.rep k hk) λp ky=>hp p (mem_flatMap.2 ⟨k,hk,ky⟩);by_cases hz:od h Q<=254;rcases aov (l:=false) (es:=[]) (bs:=bs) ho (by simp only[length_nil];omega) (by rw[hb];exact hm) (by rw[hb];exact hz)with⟨a,n,b,c,d⟩|h;rw[hb]at c d;refine .inl ⟨a,[n],du false [] (Q.map (dh h)),[(empty,(n,Q))],b,by simp,c,aiX (h:=h+1) ⟨d,stay b⟩ ⟨hQ,f.bare,jU,hz,f.sep,f.ok⟩ (uP ho (b.sub n mem_cons_self)), ?_, ?_,.inl ⟨hz,rfl, ?_⟩⟩;show cu h Q++[]=_;rw[append_nil];show(n::cf h Q++[]).Perm (n::cf h Q);rw[append_nil];rw[jk];rfl;exact .inr h;have⟨ok,z1,z2,k,k0,k1,e1,e2,e3,e4,e5⟩:=anW jU (by rw[<-hs0];omega) (by rw[<-hs0];exact bU);have hbt:ae ((Q.map (dh h)).take k)=(Q.map (dh h)).take k:=ag3 (by rw[kM,f.bare]);have aox:=aaM jU k;have aoy:=aaV (aaO jU k)
 have zd:bC [] (ae ((Q.map (dh h)).drop k))<=154:=by
  have s1:=tl (ae ((Q.map (dh h)).drop k));have s2:=tl ((Q.map (dh h)).drop k);have s3:=uL ((Q.map (dh h)).drop k);rw[e2]at z2;omega
 have key:=aow (l:=false) (es:=[]) (bs:=bs) ho (by simp only[length_nil];omega) (by rw[hb];exact hz) (by rw[hb];exact ok);rw[hb,e1,e2,e3,e4,e5,hbt]at key;rw[e1]at z1;have key:=key (by omega) (by omega) (aq5 aox) (aq5 aoy);rcases key with⟨a,n,n2,b,c,d1,d2⟩|h;have eT:(Q.map (dh h)).take k=(Q.take k).map (dh h):=by rw[List.map_take]
 have eD:ae ((Q.map (dh h)).drop k)=(cv (Q.drop k)).map (dh h):=by rw[<-List.map_drop,kM]
 rw[length_map]at k1;have eQ:Q=Q.take k++Q.drop k:=(List.take_append_drop k Q).symm;obtain⟨q,r,eqd⟩:∃q r,Q.drop k=q::r:=List.exists_cons_of_ne_nil (λe=>by have:=congrArg List.length e;rw[length_drop,length_nil]at this;omega);have av1:Q.take k≠[]:=λe=>by have:=congrArg List.length e;rw[length_take,length_nil]at this;omega
 have hqm:q∈Q:=by rw[eQ,eqd];exact mem_append_right _ mem_cons_self
 have hk:du false [] ((Q.map (dh h)).drop k)=q.1:=by
  unfold du;rw[if_neg (by simp),<-List.map_drop,eqd];rfl
 have sp:=f.sep;have sp1:=sp.1;rw[eQ,List.pairwise_append]at sp1;have up:=(gI.1 jU).2;rw[eQ,map_append,List.pairwise_append]at up;have mT:∀x∈Q.take k,x∈Q:=λx hx=>List.mem_of_mem_take hx;have mD:∀x∈Q.drop k,x∈Q:=λx hx=>List.mem_of_mem_drop hx
 have okA:nM (h+1) (n,Q.take k):=by
  refine⟨av1, ?_,by rw[<-eT];exact aox,by rw[od,<-eT];omega,⟨sp1.1,λx hx=>sp.2 x (mT x hx)⟩,λx hx=>f.ok x (mT x hx)⟩;show cv (Q.take k)=Q.take k;have:=f.bare;cases Q with
  |nil=>exact absurd rfl hQ|cons x y=>
   cases k with
   |zero=>omega|succ k=>simp only[cv,List.cons.injEq]at this;simp[cv,this.1]
 have okB:nM (h+1) (n2,cv (Q.drop k)):=by
  refine⟨by rw[eqd];exact List.cons_ne_nil _ _,yJ _,by rw[<-eD];exact aoy,by rw[od,<-eD];omega,⟨?_,λx hx e he=> ?_⟩,λx hx=> ?_⟩;have p2:=sp1.2.1;rw[eqd]at p2 ⊢;rw[pairwise_cons]at p2;rw[cv,pairwise_cons];exact p2;have⟨x',hx',e2,e3⟩:=ie hx;rcases e3 with e3|e3;rw[e3];exact ib _;subst e3;exact sp.2 x (mD x hx') e he;have⟨x',hx',e2,_⟩:=ie hx;rw[<-e2];exact f.ok x' (mD x' hx')
 have aAm:rep th (sS th s false [] bs).m (h+1) (n,Q.take k):=⟨by rw[<-eT];exact d1,λx hx=>stay b x (mT x hx)⟩
 have aAn:rep th (sS th s false [] bs).m (h+1) (n2,cv (Q.drop k)):=⟨by rw[<-eD];exact d2,λx hx=>by
  have⟨x',hx',e2,_⟩:=ie hx;rw[<-e2];exact stay b x' (mD x' hx')⟩
 refine .inl ⟨a,[n,n2],_,[(empty,(n,Q.take k)),(q.1,(n2,cv (Q.drop k)))],b,by simp,by rw[c,hk];rfl,aiY aAm okA (uP ho (b.sub n mem_cons_self)) aAn okB (uP ho (b.sub n2 (mem_cons_of_mem _ mem_cons_self))) (f.key q hqm) (λe he=> ?_) (λe he=> ?_), ?_, ?_,.inr ⟨by omega,rfl, ?_⟩⟩;have he:e∈cu h (Q.take k):=he;have⟨x,hx,hxe⟩:=mem_flatMap.1 he;exact sp1.2.2 x hx q (by rw[eqd];exact mem_cons_self) e hxe;have he:e∈cu h (cv (Q.drop k)):=he;rw[ry]at he;have⟨x,hx,hxe⟩:=mem_flatMap.1 he;have h1:=sp.2 x (mD x hx) e hxe;rw[eqd]at hx;rcases mem_cons.1 hx with rfl|hx;exact h1;have u:=up.2.1;rw[eqd,map_cons,pairwise_cons]at u;have u:=u.1 (dh h x) (List.mem_map_of_mem hx);cases hh:slt e.1 q.1;rfl;have h2:slt e.1 x.1=true:=dc hh u;rw[h2]at h1;cases h1;show cu h (Q.take k)++(cu h (cv (Q.drop k))++[])=_;rw[append_nil,ry,<-kJ,<-eQ];show(n::cf h (Q.take k)++(n2::cf h (cv (Q.drop k))++[])).Perm (n::n2::cf h Q);rw[append_nil,aaT];have e:cf h Q=cf h (Q.take k)++cf h (Q.drop k):=by rw[<-te,<-eQ]
 rw[e];refine List.Perm.cons n ?_;exact List.perm_middle;rw[jk,jk];show 3^(h+1)*(19+ovr (od h (Q.take k)))+fE h (Q.take k)+(3^(h+1)*(19+ovr (od h (cv (Q.drop k))))+fE h (cv (Q.drop k))+0)=_;have o1:ovr (od h (Q.take k))=0:=by unfold ovr;rw[od,<-eT];omega
 have o2:ovr (od h (cv (Q.drop k)))=0:=by unfold ovr;rw[od,<-eD];omega
 have e:fE h Q=fE h (Q.take k)+fE h (Q.drop k):=by rw[<-tg,<-eQ]
 rw[o1,o2,aaU,e];omega;exact .inr h
def lQ(key:ByteArray):Option ByteArray->List En->List En
 |some v,l=>bN l key v|none,l=>cH l key
theorem wK{x:En}{r:List En}{key v:ByteArray}(h:slt x.1 key=true):bN (x::r) key v=x::bN r key v:=by
 unfold bN;rw[ach h,ait h];split<;>simp
theorem wL{x:En}{r:List En}{key v:ByteArray}(h:slt x.1 key=false):bN (x::r) key v=(key,v,())::(if x.1=key then r else x::r):=by
 unfold bN;rw[agK h,ang h];by_cases e:x.1=key;rw[decide_eq_true e,if_pos rfl,if_pos e];rfl;rw[decide_eq_false e,if_neg (by simp),if_neg e];rfl
theorem aoz{key v:ByteArray}:bN [] key v=[(key,v,())]:=rfl
theorem akP{X W:List En}{key v:ByteArray}(h:∀x∈X,slt x.1 key=true):bN (X++W) key v=X++bN W key v:=by
 induction X with
 |nil=>rfl|cons x r ih=>rw[cons_append,wK (h x mem_cons_self),ih λy hy=>h y (mem_cons_of_mem _ hy)];rfl
theorem ag4{Y Z:List En}{key v:ByteArray}(h:∀z∈Z,slt key z.1=true):bN (Y++Z) key v=bN Y key v++Z:=by
 induction Y with
 |nil=>
  rw[nil_append,aoz];cases Z with
  |nil=>rfl|cons z r=>
   have hz:=h z mem_cons_self;rw[wL (uo hz),if_neg (λe=>auw hz e.symm)];rfl
 |cons y r ih=>
  cases hy:slt y.1 key;rw[cons_append,wL hy,wL hy];by_cases e:y.1=key;rw[if_pos e,if_pos e];rfl;rw[if_neg e,if_neg e];rfl;rw[cons_append,wK hy,wK hy,ih];rfl
theorem aa1{X:List En}{key:ByteArray}(h:∀x∈X,x.1≠key):cH X key=X:=by
 unfold cH;rw[List.filter_eq_self];intro x hx;simp only[isK,decide_eq_false (h x hx),Bool.not_false]
theorem ai0{X Y Z:List En}{key:ByteArray}{op:Option ByteArray}(h1:∀x∈X,slt x.1 key=true)(h2:∀z∈Z,slt key z.1=true):lQ key op (X++Y++Z)=X++lQ key op Y++Z:=by
 cases op with
 |some v=>
  show bN (X++Y++Z) key v=X++bN Y key v++Z;rw[ag4 h2,akP h1]
 |none=>
  have e1:=aa1 (X:=X) (key:=key) λx hx e=>by have:=h1 x hx;rw[e,eu]at this;cases this
  have e2:=aa1 (X:=Z) (key:=key) λx hx e=>by have:=h2 x hx;rw[e,eu]at this;cases this
  show cH (X++Y++Z) key=X++cH Y key++Z;unfold cH at e1 e2 ⊢;rw[List.filter_append,List.filter_append,e1,e2]
theorem aoA{X Y Z:List En}{key:ByteArray}(h1:∀x∈X,slt x.1 key=true)(h2:∀z∈Z,slt key z.1=true):iT (X++Y++Z) key=iT Y key:=by
 have e:=ai0 (op:=none) h1 h2 (Y:=Y);have e:cH (X++Y++Z) key=X++cH Y key++Z:=e;unfold iT;rw[e];simp only[length_append];by_cases c:(cH Y key).length<Y.length;rw[decide_eq_true (by omega),decide_eq_true (by omega)];rw[decide_eq_false (by omega),decide_eq_false (by omega)]
theorem ai1{X Y Z:List En}{key:ByteArray}{op:Option ByteArray}(h1:∀x∈X,slt x.1 key=true)(h2:∀z∈Z,slt key z.1=true):tC key op (X++Y++Z)=tC key op Y:=by
 cases op with
 |some v=>rfl|none=>
  show(if iT (X++Y++Z) key=true then(0:Int)else 5)=if iT Y key=true then 0 else 5
  rw[aoA h1 h2]
theorem ai2(key:ByteArray)(op:Option ByteArray)(l:List En):tC key op l=0\/tC key op l=5:=by
 cases op with
 |some v=>exact .inl rfl|none=>
  show(if iT l key=true then(0:Int)else 5)=0\/(if iT l key=true then(0:Int)else 5)=5;split;exact .inl rfl;exact .inr rfl
theorem aoB{key:ByteArray}{op:Option ByteArray}{l:List En}(h:tC key op l=0):doE key op l=lQ key op l:=by
 cases op with
 |some v=>rfl|none=>
  have h:(if iT l key=true then(0:Int)else 5)=0:=h;show(if iT l key=true then cH l key else [])=cH l key;split at h;rename_i hb;rw[if_pos hb];cases h
theorem acD{key:ByteArray}{op:Option ByteArray}{l:List En}{e:En}(h:e∈lQ key op l):e∈l\/(e.1=key/\∃v,op=some v/\e.2.1=v):=by
 cases op with
 |some v=>
  have h:e∈bN l key v:=h;unfold bN at h;rcases mem_append.1 h with h|h;exact .inl (List.mem_of_mem_take h);rcases mem_cons.1 h with rfl|h;exact .inr ⟨rfl,v,rfl,rfl⟩;exact .inl (List.mem_of_mem_drop h)
 |none=>exact .inl (List.mem_filter.1 (show e∈cH l key from h)).1
theorem arT{key:ByteArray}{op:Option ByteArray}{l:List En}(hk:1<=key.size/\key.size<=24)(hv:∀v,op=some v->v.size<=100)(h:kv l=true):kv (lQ key op l)=true:=by
 rw[aeD]at h ⊢;refine⟨λe he=> ?_, ?_⟩;rcases acD he with h1|⟨h1,v,h2,h3⟩;exact h.1 e h1;rw[h1,h3];exact⟨hk.1,hk.2,hv v h2⟩;cases op with
 |some v=>exact aqw key v h.2|none=>exact aqx key h.2
theorem yZ{es:List En}{key:ByteArray}:bC (cH es key) []<=bC es []:=by
 rw[yM,yM];unfold cH
 induction es with
 |nil=>simp|cons x r ih=>
  rw[List.filter_cons];have:=anV x;split;rw[map_cons,sum_cons,map_cons,sum_cons];omega;rw[map_cons,sum_cons];omega
def cS(th:Th)(key:ByteArray)(op:Option ByteArray)(f:Nat)(s:S5)(n ad:Int):S5:=
 ⟨rp th key op f s.m s.fu s.fr s.fs s.gn n ad,rq th key op f s.m s.fu s.fr s.fs s.gn n ad,rr th key op f s.m s.fu s.fr s.fs s.gn n ad,ta th key op f s.m s.fu s.fr s.fs s.gn n ad,uJ th key op f s.m s.fu s.fr s.fs s.gn n ad⟩
def cL(th:Th)(key:ByteArray)(op:Option ByteArray)(f:Nat)(s:S5)(n ad:Int):List Br:=vX th key op f s.m s.fu s.fr s.fs s.gn n ad
def cE'(th:Th)(key:ByteArray)(op:Option ByteArray)(f:Nat)(s:S5)(n ad:Int):Int:=uK th key op f s.m s.fu s.fr s.fs s.gn n ad
def lvT(s:S5)(n:Int):S5:=⟨s.m,s.fu,s.fr,jV s.fs n,rj s.fs s.gn n⟩
def opP(op:Option ByteArray):Nat:=match op with|some _=>81|none=>0
structure ayn (th:Th) (key:ByteArray) (op:Option ByteArray) (s t:S5) (h:Nat) (old:List En) (ps:List Int) (po:Nat) (l:List Br) (N V rest:List Int) (k0:ByteArray) (F:List (Kd h)):Prop where
 qa:tj th s t N V
 len:N.length<=2*(h+1)
 l:l=mi k0 (F.map (dh h))
 fr:For th t.m h F
 fc:cu h F=lQ key op old
 old:ps.Perm (V++rest)
 new:(cf h F).Perm (N++rest)
 two:F.length<=2
 del:op=none->F.length<=1
 wH:fE h F+(F.length - 1)*(81*3^h)<=po+opP op
structure ayo (th:Th) (key:ByteArray) (op:Option ByteArray) (s t:S5) (h:Nat) (old:List En) (ps:List Int) (e:Int) (N V:List Int):Prop where
 qa:tj th s t N V
 len:N.length<=2*h+1
 sub:∀p∈V,p∈ps
 how:(e=5/\tC key op old=5)\/(e=41/\∀p,In s.fr p->p∈N)\/(e=42/\t.fu=0)
def ag5(th:Th)(key:ByteArray)(op:Option ByteArray)(s t:S5)(h:Nat)(old:List En)(ps:List Int)(po:Nat)(l:List Br)(e:Int):Prop:=
 (e=0/\tC key op old=0/\∃N V rest k0 F,ayn th key op s t h old ps po l N V rest k0 F)\/(e≠0/\∃N V,ayo th key op s t h old ps e N V)
theorem aoC{th:Th}{key:ByteArray}{op:Option ByteArray}{s s1 t:S5}{h:Nat}{old:List En}{ps N V:List Int}{e:Int}{k:Nat}(h1:tj th s s1 N V)(hN:N.length+k<=2*h+1)(hV:∀p∈V,p∈ps)(hb:Bad th s1 t k e):∃N V,ayo th key op s t h old ps e N V:=by
 have⟨N2,b1,b2,b3⟩:=hb;refine⟨N++N2,V++[],fC h1 b1 (λp hp=>by cases hp),by rw[length_append];omega,λp hp=>hV p (by simpa using hp),.inr (b3.imp (λx=>⟨x.1,λp hp=> ?_⟩) id)⟩;by_cases hpn:p∈N;exact List.mem_append_left _ hpn;exact mem_append_right _ (x.2 p ((h1.fr p).2 ⟨hp,hpn⟩))
theorem ai3{th:Th}{key:ByteArray}{op:Option ByteArray}{es:List En}(hk:1<=key.size/\key.size<=24)(hv:∀v,op=some v->v.size<=100)(jU:kv es=true)(hz:bC es []<=254){s s1:S5}{V ps:List Int}(h1:tj th s s1 [] V)(hV:ps.Perm V)(hc:tC key op es=0){h:Nat}:
 ag5 th key op s (sS th s1 true (lQ key op es) []) 0 es ps h (sL th s1 true (lQ key op es) []) (sE th s1 true (lQ key op es) []):=by
 have ho:=h1.ok;have ayp:=arT (op:=op) hk hv jU;have hsp:¬bC (lQ key op es) []<=254->dW true (lQ key op es) []=true/\bC (bu true (lQ key op es) []) []<=254/\bC (dj true (lQ key op es) []) []<=254/\
  ∃k,0<k/\k<(lQ key op es).length/\bu true (lQ key op es) []=(lQ key op es).take k/\dj true (lQ key op es) []=(lQ key op es).drop k/\bA true (lQ key op es) []=[]/\dw true (lQ key op es) []=[]/\b8 true (lQ key op es) []=true:=λhn=>by
  cases op with
  |some v=>exact anX ayp hz hn|none=>exact absurd (Int.le_trans yZ hz) hn
 rcases arS ho ayp hsp with⟨a,N,k0,F,b,c,d,e,g,i,j,k⟩|⟨a,b⟩;refine .inl ⟨a,hc,[]++N,V++[],[],k0,F,fC h1 b (λp hp=>by cases hp),by simp;omega,d,e,g, ?_, ?_,j,λhn=>k ?_, ?_⟩;rw[append_nil,append_nil];exact hV;rw[i,nil_append,append_nil];subst hn;exact Int.le_trans yZ hz
 have p0:fE 0 F=0:=by
  have:∀F:List (Kd 0),fE 0 F=0:=λF=>by
   induction F with
   |nil=>rfl|cons x r ih=>rw[jk,ih];rfl
  exact this F
 rw[p0];cases op with
 |some v=>show 0+(F.length - 1)*(81*3^0)<=h+81;rw[Nat.pow_zero];omega|none=>
  have:=k (Int.le_trans yZ hz);show 0+(F.length - 1)*(81*3^0)<=h+0;rw[show F.length - 1=0 from by omega];omega
 exact .inr ⟨a,aoC h1 (by simp) (λp hp=>(hV.mem_iff).2 hp) b⟩
theorem aoD{th:Th}{key:ByteArray}{op:Option ByteArray}(hk:1<=key.size/\key.size<=24)(hv:∀v,op=some v->v.size<=100){s:S5}{t:TN 0}{f:Nat}{ad:Int}(ho:okS th s)(hr:rep th s.m 0 t)(ht:nM 0 t)(hd:ad<=16):
 ag5 th key op s (cS th key op (f+1) s (pg 0 t) ad) 0 (fc 0 t) (oc 0 t) (wH 0 t) (cL th key op (f+1) s (pg 0 t) ad) (cE' th key op (f+1) s (pg 0 t) ad):=by
 have⟨n,es⟩:=t;have hr:Rd th s.m n true es []:=hr;have⟨e1,e2,e3,e4⟩:=hr.nd hd;have⟨_,jU,hz⟩:=(show es≠[]/\kv es=true/\bC es []<=254 from ht);show ag5 th key op s (cS th key op (f+1) s n ad) 0 es [n] 0 (cL th key op (f+1) s n ad) (cE' th key op (f+1) s n ad);have h1:=agY ho n;by_cases hc:tC key op es=0
 have e:yF th key op (f+1) s.m s.fu s.fr s.fs s.gn n ad=iM (rj s.fs s.gn n) (bH th s.m s.fu s.fr (jV s.fs n) true (lQ key op es) []):=by
  rw[gN,if_neg (by rw[e1];simp),if_pos e2,e3,e4,if_neg (by rw[hc];simp),aoB hc]
 have g:=ai3 (op:=op) (s1:=lvT s n) (h:=0) hk hv jU hz h1 (List.Perm.refl [n]) hc;have c1:cS th key op (f+1) s n ad=sS th (lvT s n) true (lQ key op es) []:=by unfold cS rp rq rr ta uJ;rw[e];rfl
 have c2:cL th key op (f+1) s n ad=sL th (lvT s n) true (lQ key op es) []:=by unfold cL vX;rw[e];rfl
 have c3:cE' th key op (f+1) s n ad=sE th (lvT s n) true (lQ key op es) []:=by unfold cE' uK;rw[e];rfl
 rw[c1,c2,c3];exact g;have h5:tC key op es=5:=(ai2 key op es).resolve_left hc
 have e:yF th key op (f+1) s.m s.fu s.fr s.fs s.gn n ad=(s.m,s.fu,s.fr,s.fs,s.gn,[],5):=by
  rw[gN,if_neg (by rw[e1];simp),if_pos e2,e3,if_pos hc,h5]
 have c1:cS th key op (f+1) s n ad=s:=by unfold cS rp rq rr ta uJ;rw[e]
 have c3:cE' th key op (f+1) s n ad=5:=by unfold cE' uK;rw[e]
 rw[c1,c3];exact .inr ⟨by decide,[],[],iP ho,by simp,λp hp=>(by cases hp),.inl ⟨rfl,h5⟩⟩
theorem akQ{th:Th}{m:As}{h:Nat}{A B F:List (Kd h)}{k:Kd h}{key:ByteArray}{op:Option ByteArray}(hQ:cv (A++k::B)=A++k::B)(jU:ik ((A++k::B).map (dh h))=true)(hs:aeB h (A++k::B))(hT:∀x∈A++k::B,nM h x.2)
 (hA:∀x∈A,rep th m h x.2) (hB:∀x∈B,rep th m h x.2) (f:For th m h F) (fe:cu h F=lQ key op (fc h k.2)) (vR:slt key k.1=false) (vg:∀b∈B,slt key b.1=true):
 For th m h (cv (A++cK k.1 F++B))/\ik ((cv (A++cK k.1 F++B)).map (dh h))=true/\cu h (cv (A++cK k.1 F++B))=lQ key op (cu h (A++k::B))/\tC key op (cu h (A++k::B))=tC key op (fc h k.2)/\
  (F.length<=1->od h (cv (A++cK k.1 F++B))<=od h (A++k::B))/\(F.length<=2->od h (cv (A++cK k.1 F++B))<=od h (A++k::B)+27):=by
 have⟨o1,o2⟩:=gI.1 jU;have mk:∀x∈A++k::B,(dh h x)∈(A++k::B).map (dh h):=λx hx=>List.mem_map_of_mem hx;have inA:∀x∈A,x∈A++k::B:=λx hx=>List.mem_append_left _ hx;have ink:k∈A++k::B:=mem_append_right _ mem_cons_self;have inB:∀x∈B,x∈A++k::B:=λx hx=>mem_append_right _ (mem_cons_of_mem _ hx);rw[map_append,map_cons,List.pairwise_append,pairwise_cons]at o2;have⟨oA,⟨okB,oB⟩,oAB⟩:=o2;have⟨s1,s2⟩:=hs;rw[List.pairwise_append,pairwise_cons]at s1;have⟨sA,⟨skB,sB⟩,sAB⟩:=s1
 have eA:∀x∈cu h A,slt x.1 k.1=true:=λx hx=>by
  have⟨a,ha,hxa⟩:=mem_flatMap.1 hx;exact sAB a ha k mem_cons_self x hxa
 have eAk:∀x∈cu h A,slt x.1 key=true:=λx hx=>fl (eA x hx) vR
 have eBk:∀x∈cu h B,slt key x.1=true:=λx hx=>by
  have⟨b,hb,hxb⟩:=mem_flatMap.1 hx;exact fl (vg b hb) (s2 b (inB b hb) x hxb)
 have kF:∀e∈cu h F,slt e.1 k.1=false:=λe he=>by
  rw[fe]at he;rcases acD he with h1|⟨h1,_⟩;exact s2 k ink e h1;rw[h1];exact vR
 have fB:∀e∈cu h F,∀b∈B,slt e.1 b.1=true:=λe he b hb=>by
  rw[fe]at he;rcases acD he with h1|⟨h1,_⟩;exact skB b hb e h1;rw[h1];exact vg b hb
 have inF:∀{x:Kd h},x∈F->∀e∈fc h x.2,e∈cu h F:=λhx e he=>mem_flatMap.2 ⟨_,hx,he⟩;have some_:∀{x:Kd h},x∈F->∃e,e∈fc h x.2:=λhx=>List.exists_mem_of_ne_nil _ (tc h (f.ok _ hx))
 have zV:∀x∈cK k.1 F,(x.1=k.1\/slt k.1 x.1=true)/\x.1.size<=24/\(2<=pg h x.2/\pg h x.2<1024)/\rep th m h x.2/\nM h x.2/\(∀e∈fc h x.2,slt e.1 x.1=false)/\(∀e∈fc h x.2,e∈cu h F):=λx hx=>by
  cases F with
  |nil=>cases hx
  |cons y r=>
   rcases mem_cons.1 hx with rfl|hx;have y0:y∈y::r:=mem_cons_self;exact⟨.inl rfl,(o1 _ (mk k ink)).1,f.pg y y0,f.rep y y0,f.ok y y0,λe he=>kF e (inF (x:=y) y0 e he),λe he=>inF (x:=y) y0 e he⟩;have x0:x∈y::r:=mem_cons_of_mem _ hx;refine⟨.inr ?_,f.key x x0,f.pg x x0,f.rep x x0,f.ok x x0,f.sep.2 x x0,inF x0⟩;have p:=f.sep.1;rw[pairwise_cons]at p;have⟨e,he⟩:=some_ (x:=y) mem_cons_self;have a1:=p.1 x hx e he;have a2:=kF e (inF mem_cons_self e he);rcases jf k.1 e.1 with h1|h1|h1;exact dc h1 a1;rw[h1];exact a1;rw[h1]at a2;cases a2
 have aAo:∀x∈cK k.1 F,∀b∈B,slt x.1 b.1=true:=λx hx b hb=>by
  have⟨_,_,_,_,ok,g1,g2⟩:=zV x hx;have⟨e,he⟩:=List.exists_mem_of_ne_nil _ (tc h ok);have a1:=fB e (g2 e he) b hb;rcases jf x.1 e.1 with h1|h1|h1;exact dc h1 a1;rw[h1];exact a1;rw[g1 e he]at h1;cases h1
 have up2:(cK k.1 F).Pairwise λa b=>slt a.1 b.1=true:=by
  cases F with
  |nil=>exact List.Pairwise.nil|cons y r=>
   have p:=f.sep.1;rw[pairwise_cons]at p;rw[cK,pairwise_cons];refine⟨λx hx=>((zV x (mem_cons_of_mem _ hx)).1.resolve_left λe=> ?_), ?_⟩;have⟨e',he⟩:=some_ (x:=y) mem_cons_self;have a1:=p.1 x hx e' he;rw[e,kF e' (inF mem_cons_self e' he)]at a1;cases a1;refine List.Pairwise.imp_of_mem (λ{a b} ha hb hab=> ?_) p.2;have⟨e',he⟩:=some_ (x:=a) (mem_cons_of_mem _ ha);have a1:=hab e' he;have a2:=f.sep.2 a (mem_cons_of_mem _ ha) e' he;rcases jf a.1 e'.1 with h1|h1|h1;exact dc h1 a1;rw[h1];exact a1;rw[a2]at h1;cases h1
 have sp2:(cK k.1 F).Pairwise λa b=>∀e∈fc h a.2,slt e.1 b.1=true:=by
  cases F with
  |nil=>exact List.Pairwise.nil|cons y r=>
   have p:=f.sep.1;rw[pairwise_cons]at p;rw[cK,pairwise_cons];exact p
 have arU:∀{p:Kd h->Prop},(∀x∈A,p x)->(∀x∈cK k.1 F,p x)->(∀x∈B,p x)->∀x∈A++cK k.1 F++B,p x:=λh1 h2 h3 x hx=>by
  rcases mem_append.1 hx with hx|hx;rcases mem_append.1 hx with hx|hx;exact h1 x hx;exact h2 x hx;exact h3 x hx
 have okJ:ik ((A++cK k.1 F++B).map (dh h))=true:=by
  rw[gI];constructor;intro b hb;obtain⟨x,hx,rfl⟩:=mem_map.1 hb;exact arU (p:=λx=>(dh h x).1.size<=24/\2<=(dh h x).2.1/\(dh h x).2.1<1024) (λx hx=>o1 _ (mk x (inA x hx))) (λx hx=>⟨(zV x hx).2.1,(zV x hx).2.2.1⟩) (λx hx=>o1 _ (mk x (inB x hx))) x hx;rw[map_append,map_append,List.pairwise_append,List.pairwise_append];refine⟨⟨oA, ?_,λa ha b hb=> ?_⟩,oB,λa ha b hb=> ?_⟩;rw[List.pairwise_map];exact up2;obtain⟨x,hx,rfl⟩:=mem_map.1 hb;have a1:=oAB a ha (dh h k) mem_cons_self;rcases(zV x hx).1 with e|e;show slt a.1 x.1=true;rw[e];exact a1;exact dc a1 e;obtain⟨y,hy,rfl⟩:=mem_map.1 hb;rcases mem_append.1 ha with ha|ha;exact oAB a ha (dh h y) (mem_cons_of_mem _ (List.mem_map_of_mem hy));obtain⟨x,hx,rfl⟩:=mem_map.1 ha;exact aAo x hx y hy
 have spJ:(A++cK k.1 F++B).Pairwise λa b=>∀e∈fc h a.2,slt e.1 b.1=true:=by
  rw[List.pairwise_append,List.pairwise_append];refine⟨⟨sA,sp2,λa ha b hb e he=> ?_⟩,sB,λa ha b hb e he=> ?_⟩;have a1:=sAB a ha k mem_cons_self e he;rcases(zV b hb).1 with e1|e1;rw[e1];exact a1;exact dc a1 e1;rcases mem_append.1 ha with ha|ha;exact sAB a ha b (mem_cons_of_mem _ hb) e he;exact fB e ((zV a ha).2.2.2.2.2.2 e he) b hb
 have aAp:∀x∈A++cK k.1 F++B,∀e∈fc h x.2,slt e.1 x.1=false:=arU (λx hx=>s2 x (inA x hx)) (λx hx=>(zV x hx).2.2.2.2.2.1) (λx hx=>s2 x (inB x hx));have eE:cu h (A++k::B)=cu h A++fc h k.2++cu h B:=by rw[kJ,lA,append_assoc]
 have szs:od h (cv (A++cK k.1 F++B))<=1+(iU (A.map (dh h))+iU ((cK k.1 F).map (dh h))+iU (B.map (dh h)))/\od h (A++k::B)=1+(iU (A.map (dh h))+(rh (dh h k)+iU (B.map (dh h)))):=by
  rw[agX,agX,<-kM];have a1:=uL ((A++cK k.1 F++B).map (dh h));rw[map_append,map_append,yL,yL]at a1;rw[map_append (l₁:=A),map_cons,yL (A.map (dh h)),dL];refine⟨?_,rfl⟩;rw[map_append,map_append];omega
 refine⟨⟨yJ _,λx hx=> ?_,λx hx=> ?_,⟨?_,λx hx e he=> ?_⟩,λx hx=> ?_,λx hx=> ?_⟩, ?_, ?_, ?_,λhl=> ?_,λhl=> ?_⟩;have⟨y,hy,e,_⟩:=ie hx;rw[<-e];exact arU (p:=λx=>rep th m h x.2) hA (λx hx=>(zV x hx).2.2.2.1) hB y hy;have⟨y,hy,e,_⟩:=ie hx;rw[<-e];exact arU (p:=λx=>nM h x.2) (λx hx=>hT x (inA x hx)) (λx hx=>(zV x hx).2.2.2.2.1) (λx hx=>hT x (inB x hx)) y hy;generalize A++cK k.1 F++B=J at spJ;cases J with
 |nil=>exact List.Pairwise.nil|cons x r=>
  rw[pairwise_cons]at spJ;rw[cv,pairwise_cons];exact spJ
 have⟨y,hy,e1,e2⟩:=ie hx;rcases e2 with e2|e2;rw[e2];exact ib _;subst e2;exact aAp x hy e he;have⟨y,hy,e1,e2⟩:=ie hx;rcases e2 with e2|e2;rw[e2];exact zero_le _;subst e2;exact((gI.1 okJ).1 _ (List.mem_map_of_mem hy)).1;have⟨y,hy,e,_⟩:=ie hx;rw[<-e];exact((gI.1 okJ).1 _ (List.mem_map_of_mem hy)).2;rw[<-kM];exact aaV okJ;rw[ry,kJ,kJ,akI,fe,eE,ai0 eAk eBk];rw[eE,ai1 eAk eBk];have⟨z1,z2⟩:=szs;rw[z2];refine Int.le_trans z1 ?_
 have:iU ((cK k.1 F).map (dh h))<=rh (dh h k):=by
  cases F with
  |nil=>show(0:Int)<=_;have:=yK (dh h k);omega|cons y r=>
   cases r with
   |nil=>rw[cK,map_cons,dL];show rh (dh h (k.1,y.2))+0<=_;rw[Int.add_zero];exact Int.le_refl _|cons z r=>simp only[length_cons]at hl;omega
 omega;have⟨z1,z2⟩:=szs;rw[z2];refine Int.le_trans z1 ?_
 have:iU ((cK k.1 F).map (dh h))<=rh (dh h k)+27:=by
  cases F with
  |nil=>show(0:Int)<=_;have:=yK (dh h k);omega|cons y r=>
   cases r with
   |nil=>rw[cK,map_cons,dL];show rh (dh h k)+0<=_;omega|cons z r=>
    cases r with
    |nil=>
     have:=f.key z (mem_cons_of_mem _ mem_cons_self);rw[cK,map_cons,map_cons,dL,dL];show rh (dh h k)+(rh (dh h z)+0)<=_;have:rh (dh h z)=3+(z.1.size:Int):=rfl;omega
    |cons w r=>simp only[length_cons]at hl;omega
 omega
theorem ae7{h:Nat}{Q:List (Kd h)}{key:ByteArray}(hQ:Q≠[])(hb:cv Q=Q)(jU:ik (Q.map (dh h))=true):
 ∃A k B,Q=A++k::B/\(bg (Q.map (dh h)) key).toNat=A.length/\slt key k.1=false/\(∀b∈B,slt key b.1=true):=by
 have hs:=auR jU;have hn:nN (Q.map (dh h))≠[]:=by cases Q with|nil=>exact absurd rfl hQ|cons q r=>simp
 have⟨p,e,hp,h0,h1⟩:=yp (ks:=nN (Q.map (dh h))) (key:=key) hs hn;have hl:(nN (Q.map (dh h))).length=Q.length:=by simp
 rw[hl]at hp h1
 have ek:∀i,i<Q.length->(nN (Q.map (dh h))).getD i empty=(Q.getD i (empty,Q.head hQ |>.2)).1:=λi hi=>by
  rw[ba (by simpa using hi),ba hi];simp[dh]
 refine⟨Q.take p,Q[p],Q.drop (p+1), ?_, ?_, ?_,λb hb=> ?_⟩;rw[List.getElem_cons_drop,List.take_append_drop];unfold bg;rw[e,length_take,toNat_natCast];omega;rcases h0 with h0|h0;subst h0
 have:Q[0].1=empty:=by
  cases Q with
  |nil=>exact absurd rfl hQ|cons q r=>
   simp only[cv,List.cons.injEq]at hb;show q.1=_;rw[<-hb.1]
 rw[this];exact ib _;rw[ek p hp,ba hp]at h0;exact h0;obtain⟨i,hi,rfl⟩:=List.getElem_of_mem hb;rw[length_drop]at hi;have:=h1 (p+1+i) (by omega) (by omega);rw[ek _ (by omega),ba (by omega)]at this;rw[List.getElem_drop];exact this
theorem aoE{P x y a b F n m:Nat}(c:Nat)(h1:F+(n - 1)*(81*P)<=m+c)(hn:n<=2)(hz:(n<=1->y<=x)/\(n<=2->y<=x+27)):3*P*(19+y)+(a+F+b)<=3*P*(19+x)+(a+m+b)+c:=by
 have k:3*P*(19+y)<=3*P*(19+x)+(n - 1)*(81*P):=by
  rcases lt_or_ge 1 n with h|h;have e:n=2:=by omega
  subst e;have:=Nat.mul_le_mul_left (3*P) (show 19+y<=(19+x)+27 from by have:=hz.2 (le_refl _);omega);rw[Nat.mul_add (3*P) (19+x) 27]at this;omega;have:=Nat.mul_le_mul_left (3*P) (show 19+y<=19+x from by have:=hz.1 h;omega);omega
 omega
theorem akR{P x a b F m:Nat}(c:Nat)(h1:F+(2 - 1)*(81*P)<=m+c)(hx:73<=x):3*P*38+(a+F+b)+(2 - 1)*(81*(3*P))<=3*P*(19+x)+(a+m+b)+c:=by
 have:=Nat.mul_le_mul_left (3*P) (show 92<=19+x from by omega);omega
theorem ae8{th:Th}{key:ByteArray}{op:Option ByteArray}(hk:1<=key.size/\key.size<=24)(hv:∀v,op=some v->v.size<=100):∀(h:Nat) {s:S5} {t:TN h} {f:Nat} {ad:Int},okS th s->rep th s.m h t->nM h t->(∀p∈oc h t,¬In s.fr p)->h<f->ad+(h:Int)<=16->
 ag5 th key op s (cS th key op f s (pg h t) ad) h (fc h t) (oc h t) (wH h t) (cL th key op f s (pg h t) ad) (cE' th key op f s (pg h t) ad)
 |0,s,t,f,ad,ho,hr,ht,hp,hf,hd=>by
  cases f with
  |zero=>omega|succ f=>exact aoD hk hv ho hr ht (by omega)
 |h+1,s,t,f,ad,ho,hr,ht,hp,hf,hd=>by
  cases f with
  |zero=>omega|succ f=>
  have⟨n,Q⟩:=t;have⟨hr1,zB⟩:=(show Rd th s.m n false [] (Q.map (dh h))/\∀k∈Q,rep th s.m h k.2 from hr);have⟨hQ,hQb,jU,bU,hsp,hT⟩:=(show Q≠[]/\cv Q=Q/\ik (Q.map (dh h))=true/\od h Q<=254/\aeB h Q/\∀k∈Q,nM h k.2 from ht);have⟨e1,e2,e3,e4⟩:=hr1.nd (ad:=ad) (by omega);have⟨A,k,B,eQ,ep,vR,vg⟩:=ae7 (key:=key) hQ hQb jU;have cP:Q.map (dh h)≠[]:=by cases Q with|nil=>exact absurd rfl hQ|cons q r=>simp
  have egd:(Q.map (dh h)).getD A.length dB=dh h k:=by rw[eQ];simp[List.getD]
  have etk:(Q.map (dh h)).take A.length=A.map (dh h):=by rw[eQ];simp
  have edp:(Q.map (dh h)).drop (A.length+1)=B.map (dh h):=by
   rw[eQ,map_append,map_cons,<-List.drop_drop]
   have e:(A.map (dh h)++dh h k::B.map (dh h)).drop A.length=dh h k::B.map (dh h):=by
    have:=List.drop_left (l₁:=A.map (dh h)) (l₂:=dh h k::B.map (dh h));rw[length_map]at this;exact this
   rw[e];rfl
  have epg:cf h Q=cf h A++(oc h k.2++cf h B):=by rw[eQ,te,kL]
  have hpn:¬In s.fr n:=hp n mem_cons_self;have hpA:∀p∈cf h A,¬In s.fr p:=λp ky=>hp p (mem_cons_of_mem _ (show p∈cf h Q from by rw[epg];exact List.mem_append_left _ ky));have hpk:∀p∈oc h k.2,¬In s.fr p:=λp ky=>hp p (mem_cons_of_mem _ (show p∈cf h Q from by rw[epg];exact mem_append_right _ (List.mem_append_left _ ky)));have hpB:∀p∈cf h B,¬In s.fr p:=λp ky=>hp p (mem_cons_of_mem _ (show p∈cf h Q from by rw[epg];exact mem_append_right _ (mem_append_right _ ky)));have kin:k∈Q:=by rw[eQ];exact mem_append_right _ mem_cons_self
  have ih:=ae8 hk hv h (s:=s) (t:=k.2) (f:=f) (ad:=ad+1) ho (zB k kin) (hT k kin) hpk (by omega) (by omega);have epk:(dh h k).2.1=pg h k.2:=rfl;have ekk:(dh h k).1=k.1:=rfl;show ag5 th key op s (cS th key op (f+1) s n ad) (h+1) (cu h Q) (n::cf h Q) (3^(h+1)*(19+ovr (od h Q))+fE h Q) (cL th key op (f+1) s n ad) (cE' th key op (f+1) s n ad)
  have ed:yF th key op (f+1) s.m s.fu s.fr s.fs s.gn n ad=if cE' th key op f s (pg h k.2) (ad+1)≠0 then
   ((cS th key op f s (pg h k.2) (ad+1)).m,(cS th key op f s (pg h k.2) (ad+1)).fu,(cS th key op f s (pg h k.2) (ad+1)).fr,(cS th key op f s (pg h k.2) (ad+1)).fs,(cS th key op f s (pg h k.2) (ad+1)).gn,[],cE' th key op f s (pg h k.2) (ad+1))
   else iM (lvT (cS th key op f s (pg h k.2) (ad+1)) n).gn (bH th (lvT (cS th key op f s (pg h k.2) (ad+1)) n).m (lvT (cS th key op f s (pg h k.2) (ad+1)) n).fu (lvT (cS th key op f s (pg h k.2) (ad+1)) n).fr (lvT (cS th key op f s (pg h k.2) (ad+1)) n).fs false [] (A.map (dh h)++mi k.1 (cL th key op f s (pg h k.2) (ad+1))++B.map (dh h))):=by
   rw[gN,if_neg (by rw[e1];simp),if_neg (by rw[e2];simp),e4,if_neg cP,e3,ep,egd,etk,edp,epk,ekk];rfl
  generalize cS th key op f s (pg h k.2) (ad+1)=s2 at ih ed;generalize cL th key op f s (pg h k.2) (ad+1)=l2 at ih ed;generalize cE' th key op f s (pg h k.2) (ad+1)=x2 at ih ed;rcases ih with⟨hx,hc,N,V,rest,k0,F,g⟩|⟨hx,N,V,g⟩;rw[if_neg (by rw[hx];simp),g.l,akG,aeC,<-map_append,<-map_append]at ed;have hnN:n ∉ N:=λhh=>hpn (g.qa.sub n hh)
  have l1:tj th s (lvT s2 n) N (V++[n]):=by
   have:=fC g.qa (agY g.qa.ok n) (λp ky=>by rw[mem_singleton.1 ky];exact hnN);rw[append_nil]at this;exact this
  have ho3:=l1.ok;have⟨j1,j2,j3,j4,j5,j6⟩:=akQ (th:=th) (m:=(lvT s2 n).m) (A:=A) (B:=B) (F:=F) (k:=k) (key:=key) (op:=op) (by rw[<-eQ];exact hQb) (by rw[<-eQ];exact jU) (by rw[<-eQ];exact hsp) (by rw[<-eQ];exact hT)
   (λx hx=>g.qa.rep h (zB x (by rw[eQ];exact List.mem_append_left _ hx)) λp ky=>hpA p (mem_flatMap.2 ⟨x,hx,ky⟩))
   (λx hx=>g.qa.rep h (zB x (by rw[eQ];exact mem_append_right _ (mem_cons_of_mem _ hx))) λp ky=>hpB p (mem_flatMap.2 ⟨x,hx,ky⟩)) g.fr g.fc vR vg
  rw[<-eQ]at j3 j4 j5 j6;have ayq:ae ((A++cK k.1 F++B).map (dh h))=(cv (A++cK k.1 F++B)).map (dh h):=kM _;have pgJ:cf h (cv (A++cK k.1 F++B))=cf h A++cf h F++cf h B:=by rw[aaT,te,te,anT]
  have ayr:fE h (cv (A++cK k.1 F++B))=fE h A+fE h F+fE h B:=by rw[aaU,tg,tg,anU]
  have aAq:fE h Q=fE h A+wH h k.2+fE h B:=by rw[eQ,tg,jk];omega
  have ays:∀p∈cf h (cv (A++cK k.1 F++B)),¬In (lvT s2 n).fr p:=λp ky cO=>by
   have⟨i1,i2⟩:=(l1.fr p).1 cO;rw[pgJ]at ky;rcases mem_append.1 ky with ky|ky;rcases mem_append.1 ky with ky|ky;exact hpA p ky i1;rcases mem_append.1 ((g.new.mem_iff).1 ky)with ky|ky;exact i2 ky;exact hpk p ((g.old.mem_iff).2 (mem_append_right _ ky)) i1;exact hpB p ky i1
  have c1:cS th key op (f+1) s n ad=sS th (lvT s2 n) false [] ((A++cK k.1 F++B).map (dh h)):=by unfold cS rp rq rr ta uJ;rw[ed];rfl
  have c2:cL th key op (f+1) s n ad=sL th (lvT s2 n) false [] ((A++cK k.1 F++B).map (dh h)):=by unfold cL vX;rw[ed];rfl
  have c3:cE' th key op (f+1) s n ad=sE th (lvT s2 n) false [] ((A++cK k.1 F++B).map (dh h)):=by unfold cE' uK;rw[ed];rfl
  rw[c1,c2,c3]
  have old:(n::cf h Q).Perm ((V++[n])++(rest++(cf h A++cf h B))):=by
   rw[epg]
   have a1:(cf h A++(oc h k.2++cf h B)).Perm (oc h k.2++(cf h A++cf h B)):=by
    rw[<-append_assoc,<-append_assoc];exact List.Perm.append_right _ List.perm_append_comm
   have a2:(oc h k.2++(cf h A++cf h B)).Perm ((V++rest)++(cf h A++cf h B)):=List.Perm.append_right _ g.old;have a3:=(List.Perm.cons n (a1.trans a2));refine a3.trans ?_;rw[append_assoc,append_assoc V [n],List.singleton_append];exact List.perm_middle.symm
  have ayt:(cf h (cv (A++cK k.1 F++B))).Perm (N++(rest++(cf h A++cf h B))):=by
   rw[pgJ]
   have a1:(cf h A++cf h F++cf h B).Perm (cf h F++(cf h A++cf h B)):=by
    rw[<-append_assoc];exact List.Perm.append_right _ List.perm_append_comm
   refine a1.trans ?_;rw[<-append_assoc N];exact List.Perm.append_right _ g.new
  by_cases hJ:cv (A++cK k.1 F++B)=[]
  have h0:(A++cK k.1 F++B)=[]:=by
   cases hx:A++cK k.1 F++B with
   |nil=>rfl|cons x r=>rw[hx]at hJ;cases hJ
  have⟨a,b,c⟩:=aiV (l:=false) (es:=[]) (bs:=(A++cK k.1 F++B).map (dh h)) ho3 (by rw[h0];rfl);have p0:=ayt;rw[hJ]at p0;refine .inl ⟨a,by rw[j4];exact hc,N++[],(V++[n])++[],rest++(cf h A++cf h B),empty,[],fC l1 c (λp hp=>by cases hp), ?_,b,aiW, ?_, ?_, ?_,zero_le _,λ_=>zero_le _, ?_⟩;rw[append_nil];have:=g.len;omega;rw[<-j3,hJ];rfl;rw[append_nil];exact old;rw[append_nil];exact p0;show 0+(0 - 1)*_<=_;rw[Nat.zero_sub,Nat.zero_mul];exact zero_le _;have z27:=j6 g.two;rcases aiZ ho3 ayq hJ j1 ays j2 (by omega)with⟨a,N2,k2,F2,b,c,d,e,i,i2,i3⟩|⟨a,b⟩;refine .inl ⟨a,by rw[j4];exact hc,N++N2,(V++[n])++[],rest++(cf h A++cf h B),k2,F2,fC l1 b (λp hp=>by cases hp), ?_,d,e,by rw[i,j3],by rw[append_nil];exact old, ?_, ?_,λhn=> ?_, ?_⟩;rw[length_append];have:=g.len;omega;refine i2.trans ?_;refine(List.Perm.append_left N2 ayt).trans ?_;rw[<-append_assoc];exact List.Perm.append_right _ List.perm_append_comm;rcases i3 with⟨_,i3,_⟩|⟨_,i3,_⟩<;>omega;rcases i3 with⟨_,i3,_⟩|⟨i4,i3,_⟩;omega;have:=j5 (g.del hn);omega;have gp:=g.wH;have e3:3^(h+1)=3*3^h:=by rw[Nat.pow_succ,Nat.mul_comm]
  rw[e3,aAq];rcases i3 with⟨_,i4,i5⟩|⟨i6,i4,i5⟩;rw[i5,i4,ayr,e3,Nat.sub_self,Nat.zero_mul,add_zero];refine aoE (opP op) gp g.two ⟨λhl=> ?_,λhl=> ?_⟩;have:=j5 hl;unfold ovr;omega;unfold ovr;omega
  have h2:F.length=2:=by
   rcases lt_or_ge 1 F.length with hl|hl;have:=g.two;omega;have:=j5 hl;omega
  rw[h2]at gp;rw[i5,i4,ayr,e3];exact akR (opP op) gp (by unfold ovr;omega);exact .inr ⟨a,aoC l1 (by have:=g.len;omega) (λp hp=>(old.mem_iff).2 (List.mem_append_left _ hp)) b⟩;rw[if_pos hx]at ed;have c1:cS th key op (f+1) s n ad=s2:=by unfold cS rp rq rr ta uJ;rw[ed]
  have c3:cE' th key op (f+1) s n ad=x2:=by unfold cE' uK;rw[ed]
  rw[c1,c3];refine .inr ⟨hx,N,V,g.qa,by have:=g.len;omega,λp ky=>mem_cons_of_mem _ ?_, ?_⟩;rw[epg];exact mem_append_right _ (List.mem_append_left _ (g.sub p ky));rcases g.how with⟨a,b⟩|a;refine .inl ⟨a, ?_⟩;have sAB:=hsp.1;rw[eQ,List.pairwise_append]at sAB
  have eAk:∀x∈cu h A,slt x.1 key=true:=λx hx=>by
   have⟨y,hy,hxy⟩:=mem_flatMap.1 hx;exact fl (sAB.2.2 y hy k mem_cons_self x hxy) vR
  have eBk:∀x∈cu h B,slt key x.1=true:=λx hx=>by
   have⟨y,hy,hxy⟩:=mem_flatMap.1 hx;exact fl (vg y hy) (hsp.2 y (by rw[eQ];exact mem_append_right _ (mem_cons_of_mem _ hy)) x hxy)
  rw[eQ,kJ,lA,<-append_assoc,ai1 eAk eBk];exact b;exact .inr a
def Holds(th:Th)(m:As)(aa:Int)(h:Nat)(E:List En)(ps:List Int)(po:Nat):Prop:=
 (aa=0/\h=0/\E=[]/\ps=[]/\po=0)\/∃t:TN h,aa=pg h t/\2<=aa/\aa<1024/\rep th m h t/\nM h t/\E=fc h t/\ps=oc h t/\po=wH h t
def tS(th:Th)(key:ByteArray)(op:Option ByteArray)(s:S5)(aa:Int):S5:=
 ⟨zS th key op s.m s.fu aa s.fr s.fs s.gn,zT th key op s.m s.fu aa s.fr s.fs s.gn,zU th key op s.m s.fu aa s.fr s.fs s.gn,aeM th key op s.m s.fu aa s.fr s.fs s.gn,aeN th key op s.m s.fu aa s.fr s.fs s.gn⟩
structure ai4 (th:Th) (key:ByteArray) (op:Option ByteArray) (s t:S5) (h:Nat) (old:List En) (ps:List Int) (po:Nat) (l:List Br) (N V rest:List Int) (k0:ByteArray) (h2:Nat) (F:List (Kd h2)):Prop where
 qa:tj th s t N V
 l:l=mi k0 (F.map (dh h2))
 fr:For th t.m h2 F
 fc:cu h2 F=lQ key op old
 old:ps.Perm (V++rest)
 new:(cf h2 F).Perm (N++rest)
 one:F.length<=1
 wH:fE h2 F<=po+opP op
 hh:h2<=h+1
 len:N.length<=2*h+4
structure av2 (th:Th) (key:ByteArray) (op:Option ByteArray) (s t:S5) (h:Nat) (old:List En) (e:Int) (N V:List Int):Prop where
 qa:tj th s t N V
 len:N.length<=2*h+3
 how:(e=5/\tC key op old=5)\/(e=41/\∀p,In s.fr p->p∈N)\/(e=42/\t.fu=0)
def stC(c:Chg):S5:=⟨c.1,c.2.1,c.2.2.1,c.2.2.2.1,c.2.2.2.2.1⟩
theorem For.okB{th:Th}{m:As}{h:Nat}{F:List (Kd h)}(f:For th m h F):ik (F.map (dh h))=true:=by
 rw[gI];refine⟨λb hb=> ?_, ?_⟩;obtain⟨x,hx,rfl⟩:=mem_map.1 hb;exact⟨f.key x hx,f.pg x hx⟩;rw[List.pairwise_map];refine List.Pairwise.imp_of_mem (λ{a b} ha hb hab=> ?_) f.sep.1;have⟨e,he⟩:=List.exists_mem_of_ne_nil _ (tc h (f.ok a ha));have a1:=hab e he;have a2:=f.sep.2 a ha e he;show slt a.1 b.1=true;rcases jf a.1 e.1 with h1|h1|h1;exact dc h1 a1;rw[h1];exact a1;rw[a2]at h1;cases h1
theorem aoF{th:Th}{key:ByteArray}{op:Option ByteArray}(hk:1<=key.size/\key.size<=24)(hv:∀v,op=some v->v.size<=100){s:S5}{aa:Int}{h:Nat}{E:List En}{ps:List Int}{po:Nat}(ho:okS th s)(H:Holds th s.m aa h E ps po)(hp:∀p∈ps,¬In s.fr p)(hh:h<=15):
 ag5 th key op s (tS th key op s aa) h E ps po (yU th key op s.m s.fu aa s.fr s.fs s.gn) (yV th key op s.m s.fu aa s.fr s.fs s.gn):=by
 rcases H with⟨h1,h2,h3,h4,h5⟩|⟨t,h1,h2,_,h3,h4,h5,h6,h7⟩;subst h2 h3 h4 h5;rcases ai2 key op []with hc|hc
 have e:jL th key op s.m s.fu aa s.fr s.fs s.gn=iM s.gn (bH th s.m s.fu s.fr s.fs true (lQ key op []) []):=by
  unfold jL;rw[if_neg (by rw[h1];simp),if_neg (by rw[hc];simp),aoB hc]
 have c1:tS th key op s aa=sS th s true (lQ key op []) []:=by unfold tS zS zT zU aeM aeN;rw[e];rfl
 have c2:yU th key op s.m s.fu aa s.fr s.fs s.gn=sL th s true (lQ key op []) []:=by unfold yU;rw[e];rfl
 have c3:yV th key op s.m s.fu aa s.fr s.fs s.gn=sE th s true (lQ key op []) []:=by unfold yV;rw[e];rfl
 rw[c1,c2,c3];exact ai3 hk hv rfl (by decide) (iP ho) (List.Perm.refl _) hc
 have e:jL th key op s.m s.fu aa s.fr s.fs s.gn=(s.m,s.fu,s.fr,s.fs,s.gn,[],5):=by
  unfold jL;rw[if_neg (by rw[h1];simp),if_pos (by rw[hc];simp),hc]
 have c1:tS th key op s aa=s:=by unfold tS zS zT zU aeM aeN;rw[e]
 have c3:yV th key op s.m s.fu aa s.fr s.fs s.gn=5:=by unfold yV;rw[e]
 rw[c1,c3];exact .inr ⟨by decide,[],[],iP ho,by simp,λp hp=>(by cases hp),.inl ⟨rfl,hc⟩⟩;subst h5 h6 h7
 have e:jL th key op s.m s.fu aa s.fr s.fs s.gn=yF th key op 17 s.m s.fu s.fr s.fs s.gn (pg h t) 1:=by
  unfold jL;rw[if_pos (by omega),h1]
 have g:=ae8 (op:=op) hk hv h (s:=s) (t:=t) (f:=17) (ad:=1) ho h3 h4 hp (by omega) (by omega);have c1:tS th key op s aa=cS th key op 17 s (pg h t) 1:=by unfold tS zS zT zU aeM aeN;rw[e];rfl
 have c2:yU th key op s.m s.fu aa s.fr s.fs s.gn=cL th key op 17 s (pg h t) 1:=by unfold yU;rw[e];rfl
 have c3:yV th key op s.m s.fu aa s.fr s.fs s.gn=cE' th key op 17 s (pg h t) 1:=by unfold yV;rw[e];rfl
 rw[c1,c2,c3];exact g
theorem arV{th:Th}{key:ByteArray}{op:Option ByteArray}{s:S5}{h:Nat}{E:List En}{ps:List Int}{po:Nat}{c:Chg}(hp:∀p∈ps,¬In s.fr p)(H:ag5 th key op s (stC c) h E ps po c.2.2.2.2.2.1 c.2.2.2.2.2.2):
 ((upT th c).2.2.2.2.2.2=0/\tC key op E=0/\∃N V rest k0 h2 F,ai4 th key op s (stC (upT th c)) h E ps po (upT th c).2.2.2.2.2.1 N V rest k0 h2 F)\/((upT th c).2.2.2.2.2.2≠0/\∃N V,av2 th key op s (stC (upT th c)) h E (upT th c).2.2.2.2.2.2 N V):=by
 rcases H with⟨hx,hc,N,V,rest,k0,F,g⟩|⟨hx,N,V,g⟩;have bB:c.2.2.2.2.2.1.length=F.length:=by rw[g.l,yO,length_map]
 by_cases h2:F.length=2;have hu:upT th c=iM c.2.2.2.2.1 (bH th c.1 c.2.1 c.2.2.1 c.2.2.2.1 false [] c.2.2.2.2.2.1):=if_pos ⟨hx,by rw[bB,h2];decide⟩
 have hb:ae c.2.2.2.2.2.1=F.map (dh h):=by
  rw[g.l,aeC,kM,akH,g.fr.bare]
 have hpF:∀p∈cf h F,¬In (stC c).fr p:=λp ky cO=>by
  have⟨i1,i2⟩:=(g.qa.fr p).1 cO;rcases mem_append.1 ((g.new.mem_iff).1 ky)with ky|ky;exact i2 ky;exact hp p ((g.old.mem_iff).2 (mem_append_right _ ky)) i1
 have bU:od h F<=55:=by
  have e:=agX F
  have e2:iU (F.map (dh h))<=54:=by
   match F,h2,g.fr with
   |[a,b],_,f=>
    have k1:=f.key a mem_cons_self;have k2:=f.key b (mem_cons_of_mem _ mem_cons_self);rw[map_cons,map_cons,dL,dL];show rh (dh h a)+(rh (dh h b)+0)<=54;have e3:rh (dh h a)=3+(a.1.size:Int):=rfl;have e4:rh (dh h b)=3+(b.1.size:Int):=rfl;omega
  omega
 have cP:F≠[]:=λe=>by rw[e]at h2;cases h2
 have hw:=aiZ (s:=stC c) (bs:=c.2.2.2.2.2.1) g.qa.ok hb cP g.fr hpF g.fr.okB (by omega);have c1:stC (upT th c)=sS th (stC c) false [] c.2.2.2.2.2.1:=by rw[hu];rfl
 have c2:(upT th c).2.2.2.2.2.1=sL th (stC c) false [] c.2.2.2.2.2.1:=by rw[hu];rfl
 have c3:(upT th c).2.2.2.2.2.2=sE th (stC c) false [] c.2.2.2.2.2.1:=by rw[hu];rfl
 rw[c1,c2,c3];rcases hw with⟨a,N2,k2,F2,b,cc,d,e,i,i2,i3⟩|⟨a,N2,b1,b2,b3⟩;refine .inl ⟨a,hc,N++N2,V++[],rest,k2,h+1,F2,fC g.qa b (λp hp=>by cases hp),d,e,by rw[i,g.fc],by rw[append_nil];exact g.old, ?_, ?_, ?_,le_refl _,by rw[length_append];have:=g.len;omega⟩;refine i2.trans ?_;refine(List.Perm.append_left N2 g.new).trans ?_;rw[<-append_assoc];exact List.Perm.append_right _ List.perm_append_comm;rcases i3 with⟨_,i3,_⟩|⟨i3,_⟩<;>omega;have gp:=g.wH;rw[h2]at gp;rcases i3 with⟨_,_,i3⟩|⟨i3,_⟩;have o0:ovr (od h F)=0:=by unfold ovr;omega
 rw[i3,o0,Nat.pow_succ];omega;omega;refine .inr ⟨a,N++N2,V++[],fC g.qa b1 (λp hp=>by cases hp),by rw[length_append];have:=g.len;omega,.inr (b3.imp (λx=>⟨x.1,λp ky=> ?_⟩) id)⟩;by_cases hpn:p∈N;exact List.mem_append_left _ hpn;exact mem_append_right _ (x.2 p ((g.qa.fr p).2 ⟨ky,hpn⟩));have hu:upT th c=c:=uO (λa=>h2 (by have:=a.2;rw[bB]at this;have:=g.two;omega));rw[hu];have gp:=g.wH;have g2:=g.two;refine .inl ⟨hx,hc,N,V,rest,k0,h,F,g.qa,g.l,g.fr,g.fc,g.old,g.new,by omega, ?_,by omega,by have:=g.len;omega⟩;have:F.length - 1=0:=by omega
 rw[this,Nat.zero_mul,add_zero]at gp;exact gp;have hu:upT th c=c:=uO (λa=>hx a.1);rw[hu];exact .inr ⟨hx,N,V,g.qa,by have:=g.len;omega,g.how⟩
theorem y4{th:Th}:∀(h:Nat) {s:S5} {t:TN h} {f:Nat} {ad:Int},okS th s->rep th s.m h t->nM h t->2<=pg h t/\pg h t<1024->h<f->ad+(h:Int)<=16->
 zR th s.m f s.fs s.gn (pg h t) ad=0/\∃(h2:Nat) (t2:TN h2) (W:List Int),zQ th s.m f s.fs s.gn (pg h t) ad=pg h2 t2/\(2<=pg h2 t2/\pg h2 t2<1024)/\tj th s ⟨s.m,s.fu,s.fr,yS th s.m f s.fs s.gn (pg h t) ad,yT th s.m f s.fs s.gn (pg h t) ad⟩ [] W/\
  rep th s.m h2 t2/\nM h2 t2/\fc h2 t2=fc h t/\(oc h t).Perm (W++oc h2 t2)/\wH h2 t2<=wH h t/\h2<=h
 |0,s,t,f,ad,ho,hr,ht,hp,hf,hd=>by
  cases f with
  |zero=>omega|succ f=>
   have eG:Rd th s.m (pg 0 t) true t.2 []:=hr;have⟨e1,e2,e3,e4⟩:=eG.nd (ad:=ad) (by omega);have e:qj th s.m (f+1) s.fs s.gn (pg 0 t) ad=(s.fs,s.gn,pg 0 t,0):=by rw[qj,if_neg (by rw[e1];simp),if_pos (.inl e2)]
   refine⟨by unfold zR;rw[e],0,t,[],by unfold zQ;rw[e],hp, ?_,hr,ht,rfl,List.Perm.refl _,le_refl _,le_refl _⟩;unfold yS yT;rw[e];exact iP ho
 |h+1,s,t,f,ad,ho,hr,ht,hp,hf,hd=>by
  cases f with
  |zero=>omega|succ f=>
   have⟨n,Q⟩:=t;have⟨hr1,zB⟩:=(show Rd th s.m n false [] (Q.map (dh h))/\∀k∈Q,rep th s.m h k.2 from hr);have⟨hQ,hQb,jU,bU,hsp,hT⟩:=(show Q≠[]/\cv Q=Q/\ik (Q.map (dh h))=true/\od h Q<=254/\aeB h Q/\∀k∈Q,nM h k.2 from ht);have⟨e1,e2,e3,e4⟩:=hr1.nd (ad:=ad) (by omega);show zR th s.m (f+1) s.fs s.gn n ad=0/\∃(h2:Nat) (t2:TN h2) (W:List Int),zQ th s.m (f+1) s.fs s.gn n ad=pg h2 t2/\(2<=pg h2 t2/\pg h2 t2<1024)/\tj th s ⟨s.m,s.fu,s.fr,yS th s.m (f+1) s.fs s.gn n ad,yT th s.m (f+1) s.fs s.gn n ad⟩ [] W/\
    rep th s.m h2 t2/\nM h2 t2/\fc h2 t2=cu h Q/\(n::cf h Q).Perm (W++oc h2 t2)/\wH h2 t2<=3^(h+1)*(19+ovr (od h Q))+fE h Q/\h2<=h+1
   by_cases h1:Q.length=1
   match Q,h1 with
   |[k],_=>
    have kin:k∈[k]:=mem_cons_self
    have e:qj th s.m (f+1) s.fs s.gn n ad=qj th s.m f (jV s.fs n) (rj s.fs s.gn n) (pg h k.2) (ad+1):=by
     rw[qj,if_neg (by rw[e1];simp),if_neg (by rintro(a|a);rw[e2]at a;cases a;rw[e4]at a;exact a rfl),e4];rfl
    have l1:=agY ho n;have pk:2<=pg h k.2/\pg h k.2<1024:=((gI.1 jU).1 (dh h k) (List.mem_map_of_mem kin)).2;have⟨a,h2,t2,W,b,b2,c,d,d2,d3,d4,d5,d6⟩:=y4 h (s:=lvT s n) (t:=k.2) (f:=f) (ad:=ad+1) l1.ok (zB k kin) (hT k kin) pk (by omega) (by omega);refine⟨by unfold zR at a ⊢;rw[e];exact a,h2,t2,[n]++W,by unfold zQ at b ⊢;rw[e];exact b,b2, ?_,d,d2, ?_, ?_, ?_,by omega⟩;have:=fC l1 c (λp _=>List.not_mem_nil);unfold yS yT at this ⊢;rw[e];exact this;show fc h2 t2=fc h k.2++[];rw[append_nil,d3];show(n::(oc h k.2++[])).Perm (n::(W++oc h2 t2));rw[append_nil];exact d4.cons n;show wH h2 t2<=3^(h+1)*(19+ovr (od h [k]))+fE h [k];have:fE h [k]=wH h k.2:=by rw[jk];rfl
    omega
   have e:qj th s.m (f+1) s.fs s.gn n ad=(s.fs,s.gn,n,0):=by
    rw[qj,if_neg (by rw[e1];simp),if_pos (.inr (by rw[e4,length_map];exact h1))]
   refine⟨by unfold zR;rw[e],h+1,(n,Q),[],by unfold zQ;rw[e];rfl,hp, ?_,hr,ht,rfl,List.Perm.refl _,le_refl _,le_refl _⟩;unfold yS yT;rw[e];exact iP ho
structure Inv (F0:Int->Prop) (fr fs:Ws) (ps:List Int):Prop where
 nd:ps.Nodup
 cov:∀p,F0 p↔In fr p\/In fs p
 dis:∀p,In fr p->¬In fs p
 sub:∀p,In fs p->p∈ps
 top:∀p∈ps,F0 p->In fs p
structure TI (th:Th) (F0:Int->Prop) (m:As) (fu aa:Int) (fr fs gn:Ws) (h:Nat) (E:List En) (ps:List Int) (po:Nat):Prop where
 ok:okS th ⟨m,fu,fr,fs,gn⟩
 gz:gn=Bx.aG
 f0:∀p,F0 p->2<=p/\Ds.wv th p=true
 holds:Holds th m aa h E ps po
 inv:Inv F0 fr fs ps
def Low(th:Th)(fu:Int)(fr:Ws)(m m':As)(b:Nat):Prop:=fu= -1->∃N:List Int,N.length<=b/\(∀p∈N,∀q,In fr q->q<p->q∈N)/\∀p,p ∉ N->Ds.gM th m' p=Ds.gM th m p/\Ds.fJ th m' p=Ds.fJ th m p
structure av3 (th:Th) (key:ByteArray) (op:Option ByteArray) (m:As) (fu:Int) (fr:Ws) (h:Nat) (E:List En) (m':As) (ft e:Int):Prop where
 d:Ds.bm th m' ft
 rd:∀p,¬In fr p->Ds.gM th m' p=Ds.gM th m p/\Ds.fJ th m' p=Ds.fJ th m p
 lo:Low th fu fr m m' 32
 sec:∀x:Int,¬In fr (x / 4)->cp m' x=cp m x
 fu:fu= -1->ft= -1
 how:(e=5/\tC key op E=5)\/(e=41/\∃N:List Int,N.length<=2*h+3/\∀p,In fr p->p∈N)\/(e=42/\ft=0)
structure ae9 (th:Th) (F0:Int->Prop) (key:ByteArray) (op:Option ByteArray) (m:As) (fu:Int) (fr:Ws) (ps:List Int) (E:List En) (po:Nat) (r:Chs) (h':Nat) (ps':List Int) (po':Nat):Prop where
 ti:TI th F0 r.1 r.2.1 r.2.2.1 r.2.2.2.1 r.2.2.2.2.1 r.2.2.2.2.2.1 h' (lQ key op E) ps' po'
 po:po'<=po+opP op
 rd:∀p,¬F0 p->Ds.gM th r.1 p=Ds.gM th m p/\Ds.fJ th r.1 p=Ds.fJ th m p
 lo:Low th fu fr m r.1 32
 fu:fu= -1->r.2.1= -1
 new:∀p∈ps',p∈ps\/In fr p
 sec:∀x:Int,¬F0 (x / 4)->cp r.1 x=cp m x
theorem ayu:∀(h:Nat) {t:TN (h+1)},19*3^(h+1)<=wH (h+1) t:=λh t=>by
 have:3^(h+1)*19<=3^(h+1)*(19+ovr (od h t.2)):=Nat.mul_le_mul_left _ (by omega);rw[anS];omega
theorem Holds.ag6{th:Th}{m:As}{aa:Int}{h:Nat}{E:List En}{ps:List Int}{po:Nat}(H:Holds th m aa h E ps po)(hp:po<19*3^15):h<=14:=by
 rcases H with⟨_,h2,_⟩|⟨t,_,_,_,_,_,_,_,h7⟩;omega;cases h with
 |zero=>omega|succ h=>
  have a:=ayu h (t:=t);rw[<-h7]at a;have b:3^(h+1)<3^15:=by omega
  have:=(Nat.pow_lt_pow_iff_right (show 1<3 by omega)).1 b;omega
theorem TI.free{th:Th}{F0:Int->Prop}{m:As}{fu aa:Int}{fr fs gn:Ws}{h:Nat}{E:List En}{ps:List Int}{po:Nat}(T:TI th F0 m fu aa fr fs gn h E ps po):∀p∈ps,¬In fr p:=λp hp hf=>T.inv.dis p hf (T.inv.top p hp ((T.inv.cov p).2 (.inl hf)))
theorem afa{th:Th}{F0:Int->Prop}{s t u:S5}{N V W rest ps pk ps':List Int}(hf0:∀p,F0 p->2<=p/\Ds.wv th p=true)(hg:∀p,¬In s.gn p)(I:Inv F0 s.fr s.fs ps)(e1:tj th s t N V)(e2:tj th t u [] W)(o:ps.Perm (V++rest))(n:pk.Perm (N++rest))(l:pk.Perm (W++ps')):
 Inv F0 (Bx.bR .or u.fr u.gn) u.fs ps'/\okS th ⟨u.m,u.fu,Bx.bR .or u.fr u.gn,u.fs,Bx.aG⟩:=by
 have ho:=e2.ok;have frI:∀p,In (Bx.bR .or u.fr u.gn) p↔In u.fr p\/In u.gn p:=λp=>axO ho.fr ho.gn;have ufr:∀p,In u.fr p↔In s.fr p/\p ∉ N:=λp=>by rw[e2.fr,e1.fr];exact⟨λx=>x.1,λx=>⟨x,List.not_mem_nil⟩⟩
 have tfs:=e1.fs;have ufs:∀p,In u.fs p↔In t.fs p/\p ∉ W:=λp=>by rw[e2.fs];exact⟨λx=>x.elim id (λy=>by cases y),.inl⟩
 have ugn:∀p,In u.gn p↔(In s.fs p/\p∈V)\/(In t.fs p/\p∈W):=λp=>by
  rw[e2.gn,e1.gn];exact⟨λx=>x.elim (λy=>y.elim (λz=>absurd z (hg p)) .inl) .inr,λx=>x.elim (λy=>.inl (.inr y)) .inr⟩
 have ndo:=(o.nodup_iff).1 I.nd;have⟨nV,nR,dVR⟩:=nodup_append.1 ndo
 have ndn:(N++rest).Nodup:=nodup_append.2 ⟨e1.nd,nR,λa ha b hb hab=>by
  subst hab;have hps:a∈ps:=(o.mem_iff).2 (mem_append_right _ hb);have hfr:=e1.sub a ha;exact I.dis a hfr (I.top a hps ((I.cov a).2 (.inl hfr)))⟩
 have ndl:=(l.nodup_iff).1 ((n.nodup_iff).2 ndn);have⟨nW,nP,dWP⟩:=nodup_append.1 ndl
 have mem:∀p,(p∈N\/p∈rest)↔(p∈W\/p∈ps'):=λp=>by
  rw[<-mem_append,<-mem_append,<-n.mem_iff,l.mem_iff]
 have ayv:∀p,F0 p↔In (Bx.bR .or u.fr u.gn) p\/In u.fs p:=λp=>by
  rw[I.cov,frI,ufr,ugn,ufs,tfs];constructor;rintro(a|a);by_cases hN:p∈N;by_cases hW:p∈W;exact .inl (.inr (.inr ⟨.inr hN,hW⟩));exact .inr ⟨.inr hN,hW⟩;exact .inl (.inl ⟨a,hN⟩);by_cases hV:p∈V;exact .inl (.inr (.inl ⟨a,hV⟩));by_cases hW:p∈W;exact .inl (.inr (.inr ⟨.inl ⟨a,hV⟩,hW⟩));exact .inr ⟨.inl ⟨a,hV⟩,hW⟩;rintro((a|a|⟨a|a,_⟩)|⟨a|a,_⟩);exact .inl a.1;exact .inr a.1;exact .inr a.1;exact .inl (e1.sub p a);exact .inr a.1;exact .inl (e1.sub p a)
 refine⟨⟨nP,ayv,λp hp hq=> ?_,λp hp=> ?_,λp hp hf=> ?_⟩,⟨ho.d,(Bx.iL (.inl rfl) ho.fr ho.gn).1,ho.fs,Bx.eV.1,λp hp=>hf0 p ((ayv p).2 (.inl hp))⟩⟩;rw[frI,ufr,ugn]at hp;rw[ufs,tfs]at hq;have⟨hq,hw⟩:=hq;rcases hp with⟨a,b⟩|⟨a,b⟩|⟨_,b⟩;rcases hq with⟨c,_⟩|c;exact I.dis p a c;exact b c;rcases hq with⟨_,c⟩|c;exact c b;exact I.dis p (e1.sub p c) a;exact hw b;rw[ufs,tfs]at hp;have⟨hp,hw⟩:=hp;have:p∈N\/p∈rest:=hp.elim (λx=>.inr ((mem_append.1 ((o.mem_iff).1 (I.sub p x.1))).resolve_left x.2)) .inl;exact((mem p).1 this).resolve_left hw;rw[ufs,tfs];have hw:p ∉ W:=λhw=>dWP p hw p hp rfl;refine⟨?_,hw⟩;rcases(mem p).2 (.inr hp)with a|a;exact .inr a;exact .inl ⟨I.top p ((o.mem_iff).2 (mem_append_right _ a)) hf,λhv=>dVR p hv p a rfl⟩
theorem ai5{th:Th}{F0:Int->Prop}{m:As}{fu aa:Int}{fr fs gn:Ws}{h:Nat}{E:List En}{ps:List Int}{po:Nat}(T:TI th F0 m fu aa fr fs gn h E ps po):∀p,¬In gn p:=λp=>by rw[T.gz];exact eK
theorem atx{h:Nat}{l:List Br}{k0:ByteArray}{F:List (Kd h)}(e:l=mi k0 (F.map (dh h))):l.length=F.length:=by rw[e,yO,length_map]
theorem arW{th:Th}{F0:Int->Prop}{key:ByteArray}{op:Option ByteArray}{m:As}{fu aa:Int}{fr fs gn:Ws}{h:Nat}{E:List En}{ps:List Int}{po:Nat}(T:TI th F0 m fu aa fr fs gn h E ps po)(hh:h<=14){c:Chg}(hx:c.2.2.2.2.2.2=0){N V rest:List Int}{k0:ByteArray}{h2:Nat}
 (g:ai4 th key op ⟨m,fu,fr,fs,gn⟩ (stC c) h E ps po c.2.2.2.2.2.1 N V rest k0 h2 []):∃r,kz th aa fr fs gn c=r/\r.2.2.2.2.2.2=0/\∃h' ps' po',ae9 th F0 key op m fu fr ps E po r h' ps' po':=by
 have ed2:kz th aa fr fs gn c=(c.1,c.2.1,0,Bx.bR .or c.2.2.1 c.2.2.2.2.1,c.2.2.2.1,Bx.aG,0):=by
  unfold kz pB;rw[if_neg (λa=>by rw[atx g.l]at a;cases a.2),if_neg (by rw[hx];simp)]
 have⟨I,ok⟩:=afa T.f0 (ai5 T) T.inv g.qa (iP g.qa.ok) g.old (g.new) (ps':=[]) (by exact List.Perm.refl _);have hH:Holds th c.1 0 0 (lQ key op E) [] 0:=.inl ⟨rfl,rfl,g.fc.symm,rfl,rfl⟩;have hrd:∀p,¬F0 p->Ds.gM th c.1 p=Ds.gM th m p/\Ds.fJ th c.1 p=Ds.fJ th m p:=λp hp=>g.qa.rd p (λhf=>hp ((T.inv.cov p).2 (.inl hf)));have hT:TI th F0 c.1 c.2.1 0 (Bx.bR .or c.2.2.1 c.2.2.2.2.1) c.2.2.2.1 Bx.aG 0 (lQ key op E) [] 0:=⟨ok,rfl,T.f0,hH,I⟩;exact⟨_,ed2,rfl,0,[],0,hT,zero_le _,hrd,λhf=>⟨N,by have:=g.len;omega,g.qa.lo hf⟩,g.qa.fu,λp hp=>(by cases hp),λx hx=>g.qa.sec x (λhf=>hx ((T.inv.cov _).2 (.inl hf)))⟩
theorem arX{th:Th}{F0:Int->Prop}{key:ByteArray}{op:Option ByteArray}{m:As}{fu aa:Int}{fr fs gn:Ws}{h:Nat}{E:List En}{ps:List Int}{po:Nat}(T:TI th F0 m fu aa fr fs gn h E ps po)(hh:h<=14){c:Chg}(hx:c.2.2.2.2.2.2=0){N V rest:List Int}{k0:ByteArray}{h2:Nat}{k:Kd h2}
 (g:ai4 th key op ⟨m,fu,fr,fs,gn⟩ (stC c) h E ps po c.2.2.2.2.2.1 N V rest k0 h2 [k]):∃r,kz th aa fr fs gn c=r/\r.2.2.2.2.2.2=0/\∃h' ps' po',ae9 th F0 key op m fu fr ps E po r h' ps' po':=by
 have kin:k∈[k]:=mem_cons_self;have ayw:(c.2.2.2.2.2.1.getD 0 dB).2.1=pg h2 k.2:=by rw[g.l];rfl
 have hb2:h2<=15:=by have:=g.hh;omega
 have⟨a,h3,t3,W,b,b2,cc,d1,d2,d3,d4,d5,d6⟩:=y4 h2 (s:=stC c) (t:=k.2) (f:=17) (ad:=1) g.qa.ok (g.fr.rep k kin) (g.fr.ok k kin) (g.fr.pg k kin) (by omega) (by omega)
 have ed2:kz th aa fr fs gn c=(c.1,c.2.1,pg h3 t3,Bx.bR .or c.2.2.1 (yT th c.1 17 c.2.2.2.1 c.2.2.2.2.1 (pg h2 k.2) 1),yS th c.1 17 c.2.2.2.1 c.2.2.2.2.1 (pg h2 k.2) 1,Bx.aG,0):=by
  unfold kz pB;have b':zQ th c.1 17 c.2.2.2.1 c.2.2.2.2.1 (pg h2 k.2) 1=pg h3 t3:=b;have a':zR th c.1 17 c.2.2.2.1 c.2.2.2.2.1 (pg h2 k.2) 1=0:=a;rw[if_pos ⟨hx,atx g.l⟩,ayw,a',b',if_neg (by simp)]
 have hn:(oc h2 k.2).Perm (N++rest):=by
  have:=g.new;rw[kL]at this;exact(append_nil (oc h2 k.2))▸this
 have⟨I,ok⟩:=afa T.f0 (ai5 T) T.inv g.qa cc g.old hn d4
 have hE:fc h3 t3=lQ key op E:=by
  rw[d3,<-g.fc,lA];exact(append_nil _).symm
 have hpo:wH h3 t3<=po+opP op:=by
  have:=g.wH;rw[jk]at this;have e0:fE h2 ([]:List (Kd h2))=0:=rfl;omega
 have hH:Holds th c.1 (pg h3 t3) h3 (lQ key op E) (oc h3 t3) (wH h3 t3):=.inr ⟨t3,rfl,b2.1,b2.2,d1,d2,hE.symm,rfl,rfl⟩;have hrd:∀p,¬F0 p->Ds.gM th c.1 p=Ds.gM th m p/\Ds.fJ th c.1 p=Ds.fJ th m p:=λp hp=>g.qa.rd p (λhf=>hp ((T.inv.cov p).2 (.inl hf)));have hT:TI th F0 c.1 c.2.1 (pg h3 t3) (Bx.bR .or c.2.2.1 (yT th c.1 17 c.2.2.2.1 c.2.2.2.2.1 (pg h2 k.2) 1)) (yS th c.1 17 c.2.2.2.1 c.2.2.2.2.1 (pg h2 k.2) 1) Bx.aG h3 (lQ key op E) (oc h3 t3) (wH h3 t3):=⟨ok,rfl,T.f0,hH,I⟩;exact⟨_,ed2,rfl,h3,oc h3 t3,wH h3 t3,hT,hpo,hrd,λhf=>⟨N,by have:=g.len;omega,g.qa.lo hf⟩,g.qa.fu,λp hp=>(mem_append.1 ((hn.mem_iff).1 ((d4.mem_iff).2 (mem_append_right _ hp)))).elim (λx=>.inr (g.qa.sub p x)) (λx=>.inl ((g.old.mem_iff).2 (mem_append_right _ x))),λx hx=>g.qa.sec x (λhf=>hx ((T.inv.cov _).2 (.inl hf)))⟩
theorem arY{th:Th}{F0:Int->Prop}{key:ByteArray}{op:Option ByteArray}{m:As}{fu aa:Int}{fr fs gn:Ws}{h:Nat}{E:List En}{ps:List Int}{po:Nat}(T:TI th F0 m fu aa fr fs gn h E ps po)(hh:h<=14){c:Chg}(hx:c.2.2.2.2.2.2≠0){N V:List Int}(g:av2 th key op ⟨m,fu,fr,fs,gn⟩ (stC c) h E c.2.2.2.2.2.2 N V):
 ∃m' ft e,e≠0/\kz th aa fr fs gn c=(m',ft,aa,fr,fs,gn,e)/\av3 th key op m fu fr h E m' ft e:=by
 refine⟨c.1,c.2.1,c.2.2.2.2.2.2,hx, ?_,g.qa.ok.d,λp hp=>g.qa.rd p hp,λhf=>⟨N,by have:=g.len;omega,g.qa.lo hf⟩,g.qa.sec,g.qa.fu, ?_⟩;unfold kz pB;rw[if_neg (λa=>hx a.1),if_pos hx];exact g.how.imp id (λx=>x.imp (λy=>⟨y.1,N,g.len,y.2⟩) id)
theorem akS{th:Th}{F0:Int->Prop}{key:ByteArray}{op:Option ByteArray}{m:As}{fu aa:Int}{fr fs gn:Ws}{h:Nat}{E:List En}{ps:List Int}{po:Nat}(T:TI th F0 m fu aa fr fs gn h E ps po)(hh:h<=14){c:Chg}
 (H2:(c.2.2.2.2.2.2=0/\tC key op E=0/\∃N V rest k0 h2 F,ai4 th key op ⟨m,fu,fr,fs,gn⟩ (stC c) h E ps po c.2.2.2.2.2.1 N V rest k0 h2 F)\/(c.2.2.2.2.2.2≠0/\∃N V,av2 th key op ⟨m,fu,fr,fs,gn⟩ (stC c) h E c.2.2.2.2.2.2 N V)):
 ((kz th aa fr fs gn c).2.2.2.2.2.2=0/\tC key op E=0/\∃h' ps' po',ae9 th F0 key op m fu fr ps E po (kz th aa fr fs gn c) h' ps' po')\/
 (∃m' ft e,e≠0/\kz th aa fr fs gn c=(m',ft,aa,fr,fs,gn,e)/\av3 th key op m fu fr h E m' ft e):=by
 rcases H2 with⟨hx,hc,N,V,rest,k0,h2,F,g⟩|⟨hx,N,V,g⟩;left;rcases F with _|⟨k,_|⟨k2,r⟩⟩;have⟨r,e,h1,h2⟩:=arW T hh hx g;rw[e];exact⟨h1,hc,h2⟩;have⟨r,e,h1,h2⟩:=arX T hh hx g;rw[e];exact⟨h1,hc,h2⟩;exact absurd g.one (by simp);exact .inr (arY T hh hx g)
theorem aoG{th:Th}{F0:Int->Prop}{key:ByteArray}{op:Option ByteArray}{m:As}{fu aa:Int}{fr fs gn:Ws}{h:Nat}{E:List En}{ps:List Int}{po:Nat}(T:TI th F0 m fu aa fr fs gn h E ps po)(hk:1<=key.size/\key.size<=24)(hv:∀v,op=some v->v.size<=100)(hh:h<=14):
 ((lP th key op m fu aa fr fs gn).2.2.2.2.2.2=0/\tC key op E=0/\∃h' ps' po',ae9 th F0 key op m fu fr ps E po (lP th key op m fu aa fr fs gn) h' ps' po')\/
 (∃m' ft e,e≠0/\lP th key op m fu aa fr fs gn=(m',ft,aa,fr,fs,gn,e)/\av3 th key op m fu fr h E m' ft e):=
 akS T hh (arV (c:=jL th key op m fu aa fr fs gn) T.free (aoF (s:=⟨m,fu,fr,fs,gn⟩) (key:=key) (op:=op) hk hv T.ok T.holds T.free (by omega)))
def uQ{σ:Type}(on:σ->Int->List En->σ):(h:Nat)->TN h->σ->σ
 |0,t,out=>on out t.1 t.2|h+1,t,out=>t.2.foldl (λo k=>uQ on h k.2 o) (on out t.1 [])
theorem afb{X:List En}{key:ByteArray}(h:∀x∈X,x.1≠key):X.find? (isK key)=none:=by
 rw[List.find?_eq_none];intro x hx;simp[isK,h x hx]
theorem arZ{X Y Z:List En}{key:ByteArray}(h1:∀x∈X,slt x.1 key=true)(h2:∀z∈Z,slt key z.1=true):px (X++Y++Z) key=px Y key/\nA (X++Y++Z) key=nA Y key:=by
 have e1:=afb (X:=X) (key:=key) λx hx e=>by have:=h1 x hx;rw[e,eu]at this;cases this
 have e2:=afb (X:=Z) (key:=key) λx hx e=>by have:=h2 x hx;rw[e,eu]at this;cases this
 have e:(X++Y++Z).find? (isK key)=Y.find? (isK key):=by
  rw[List.find?_append,List.find?_append,e1,e2];cases Y.find? (isK key)<;>rfl
 unfold px nA;rw[e];exact⟨rfl,rfl⟩
theorem afc{th:Th}{m:As}{key:ByteArray}:∀(h:Nat) {t:TN h} {f:Nat} {ad:Int},rep th m h t->nM h t->h<f->ad+(h:Int)<=16->acz th m key f (pg h t) ad=(px (fc h t) key,nA (fc h t) key,0)
 |0,t,f,ad,hr,ht,hf,hd=>by
  cases f with
  |zero=>omega|succ f=>
   have eG:Rd th m (pg 0 t) true t.2 []:=hr;have⟨e1,e2,e3,e4⟩:=eG.nd (ad:=ad) (by omega);rw[acz,if_neg (by rw[e1];simp),if_pos e2,e3];rfl
 |h+1,t,f,ad,hr,ht,hf,hd=>by
  cases f with
  |zero=>omega|succ f=>
   have⟨n,Q⟩:=t;have⟨hr1,zB⟩:=(show Rd th m n false [] (Q.map (dh h))/\∀k∈Q,rep th m h k.2 from hr);have⟨hQ,hQb,jU,bU,hsp,hT⟩:=(show Q≠[]/\cv Q=Q/\ik (Q.map (dh h))=true/\od h Q<=254/\aeB h Q/\∀k∈Q,nM h k.2 from ht);have⟨e1,e2,e3,e4⟩:=hr1.nd (ad:=ad) (by omega);have⟨A,k,B,eQ,ep,vR,vg⟩:=ae7 (key:=key) hQ hQb jU;have cP:Q.map (dh h)≠[]:=by cases Q with|nil=>exact absurd rfl hQ|cons q r=>simp
   have egd:(Q.map (dh h)).getD A.length dB=dh h k:=by rw[eQ];simp[List.getD]
   have kin:k∈Q:=by rw[eQ];exact mem_append_right _ mem_cons_self
   show acz th m key (f+1) n ad=(px (cu h Q) key,nA (cu h Q) key,0);rw[acz,if_neg (by rw[e1];simp),if_neg (by rw[e2];simp),e4,if_neg cP,ep,egd];have ih:=afc (key:=key) h (f:=f) (ad:=ad+1) (zB k kin) (hT k kin) (by omega) (by omega);show acz th m key f (pg h k.2) (ad+1)=_;rw[ih];have sAB:=hsp.1;rw[eQ,List.pairwise_append]at sAB
   have eAk:∀x∈cu h A,slt x.1 key=true:=λx hx=>by
    have⟨y,hy,hxy⟩:=mem_flatMap.1 hx;exact fl (sAB.2.2 y hy k mem_cons_self x hxy) vR
   have eBk:∀x∈cu h B,slt key x.1=true:=λx hx=>by
    have⟨y,hy,hxy⟩:=mem_flatMap.1 hx;exact fl (vg y hy) (hsp.2 y (by rw[eQ];exact mem_append_right _ (mem_cons_of_mem _ hy)) x hxy)
   have e:cu h Q=cu h A++fc h k.2++cu h B:=by rw[eQ,kJ,lA,append_assoc]
   have⟨f1,f2⟩:=arZ (Y:=fc h k.2) eAk eBk;rw[e,f1,f2]
theorem ar0{th:Th}{m:As}{aa:Int}{key:ByteArray}{h:Nat}{E:List En}{ps:List Int}{po:Nat}(H:Holds th m aa h E ps po)(hh:h<=15):gtT th m aa key=if iQ key none=false then(empty,false,1)else(px E key,nA E key,0):=by
 unfold gtT;split;rfl;rcases H with⟨h1,_,h3,_⟩|⟨t,h1,h2,_,h3,h4,h5,_⟩;rw[if_pos h1,h3];rfl;rw[if_neg (by omega),h1,afc h h3 h4 (by omega) (by omega),h5]
theorem afd{σ:Type}{g:Ws->σ->Int->Ws×σ×Int}{h:Nat}{step:TN h->σ->σ}:∀(ks:List (Kd h)) {met:Ws} {out:σ},Bx.okW met->
 (∀k∈ks,∀(met:Ws) (out:σ),Bx.okW met->(∀p∈oc h k.2,¬In met p)->∃uR,g met out (pg h k.2)=(uR,step k.2 out,0)/\Bx.okW uR/\∀p,In uR p↔In met p\/p∈oc h k.2)->
 (∀p∈cf h ks,¬In met p)->(cf h ks).Nodup->∃uR,tq g (ks.map (dh h)) met out=(uR,ks.foldl (λo k=>step k.2 o) out,0)/\Bx.okW uR/\∀p,In uR p↔In met p\/p∈cf h ks
 |[],met,out,hw,hg,hm,hn=>⟨met,rfl,hw,λp=>⟨.inl,λx=>x.elim id (λy=>by cases y)⟩⟩
 |k::r,met,out,hw,hg,hm,hn=>by
  rw[kL]at hm hn;have⟨n1,n2,n3⟩:=nodup_append.1 hn;have⟨m1,e1,w1,i1⟩:=hg k mem_cons_self met out hw (λp hp=>hm p (List.mem_append_left _ hp))
  have⟨m2,e2,w2,i2⟩:=afd r (met:=m1) (out:=step k.2 out) w1 (λk' hk'=>hg k' (mem_cons_of_mem _ hk')) (λp hp cO=>by
   rcases(i1 p).1 cO with a|a;exact hm p (mem_append_right _ hp) a;exact n3 p a p hp rfl) n2
  refine⟨m2, ?_,w2,λp=> ?_⟩;rw[map_cons,tq];show(if(g met out (pg h k.2)).2.2≠0 then _ else _)=_;rw[e1,if_neg (by simp)];show tq g (r.map (dh h)) (g met out (pg h k.2)).1 (g met out (pg h k.2)).2.1=_;rw[e1];exact e2;rw[i2,i1,kL,mem_append,or_assoc]
theorem akT{h:Nat}{ks:List (Kd h)}(hn:(cf h ks).Nodup){k:Kd h}(hk:k∈ks):(oc h k.2).Nodup:=by
 induction ks with
 |nil=>cases hk
 |cons a r ih=>
  rw[kL]at hn;have⟨n1,n2,_⟩:=nodup_append.1 hn;rcases mem_cons.1 hk with rfl|hk;exact n1;exact ih n2 hk
theorem y5{σ:Type}{on:σ->Int->List En->σ}{th:Th}{m:As}:∀(h:Nat) {t:TN h} {f:Nat} {ad:Int} {met:Ws} {out:σ},rep th m h t->nM h t->(2<=pg h t/\pg h t<1024)->h<f->ad+(h:Int)<=16->Bx.okW met->(∀p∈oc h t,¬In met p)->(oc h t).Nodup->
 ∃uR,eb on th m f ad met out (pg h t)=(uR,uQ on h t out,0)/\Bx.okW uR/\∀p,In uR p↔In met p\/p∈oc h t
 |0,t,f,ad,met,out,hr,ht,hp,hf,hd,hw,hm,hn=>by
  cases f with
  |zero=>omega|succ f=>
   have eG:Rd th m (pg 0 t) true t.2 []:=hr;have⟨e1,e2,e3,e4⟩:=eG.nd (ad:=ad) (by omega);have hnm:¬Bx.mV met (pg 0 t)=true:=hm _ (ru 0 t);refine⟨Bx.dk met (pg 0 t), ?_,(Bx.gH hw _).1,λp=> ?_⟩;rw[eb,if_neg (by rw[e1];simp),if_neg hnm,e4,e3];rfl;rw[p8 hw (by omega)];show _↔In met p\/p∈[t.1];rw[mem_singleton];rfl
 |h+1,t,f,ad,met,out,hr,ht,hp,hf,hd,hw,hm,hn=>by
  cases f with
  |zero=>omega|succ f=>
   have⟨n,Q⟩:=t;have⟨hr1,zB⟩:=(show Rd th m n false [] (Q.map (dh h))/\∀k∈Q,rep th m h k.2 from hr);have⟨hQ,hQb,jU,bU,hsp,hT⟩:=(show Q≠[]/\cv Q=Q/\ik (Q.map (dh h))=true/\od h Q<=254/\aeB h Q/\∀k∈Q,nM h k.2 from ht);have⟨e1,e2,e3,e4⟩:=hr1.nd (ad:=ad) (by omega);have hp:2<=n/\n<1024:=hp;have hm:∀p∈n::cf h Q,¬In met p:=hm;have hn:(n::cf h Q).Nodup:=hn;have⟨hn1,tA⟩:=List.nodup_cons.1 hn;have hnm:¬Bx.mV met n=true:=hm n mem_cons_self;have iw:=λp=>p8 (k:=p) hw (n:=n) (by omega);have⟨m2,ee,w2,i2⟩:=afd (g:=eb on th m f (ad+1)) (step:=uQ on h) Q (met:=Bx.dk met n) (out:=on out n []) (Bx.gH hw n).1
    (λk hk met out hw hm=>by
      have hkn:(oc h k.2).Nodup:=by
       exact akT tA hk
      exact y5 h (zB k hk) (hT k hk) ((gI.1 jU).1 (dh h k) (List.mem_map_of_mem hk)).2 (by omega) (by omega) hw hm hkn)
    (λp ky cO=>by
      rcases(iw p).1 cO with a|a;exact hm p (mem_cons_of_mem _ ky) a;exact hn1 (by rw[<-a];exact ky)) tA
   refine⟨m2, ?_,w2,λp=> ?_⟩;show eb on th m (f+1) ad met out n=_;rw[eb,if_neg (by rw[e1];simp),if_neg hnm,e4,e3];exact ee;rw[i2,iw];show _↔In met p\/p∈n::cf h Q;rw[mem_cons,or_assoc]
theorem aoH(ao:ByteArray):∀(h:Nat) (t:TN h) (out:List En),uQ (tu ao) h t out=out++(fc h t).filter (geE ao)
 |0,t,out=>rfl|h+1,t,out=>by
  have⟨n,Q⟩:=t;show Q.foldl (λo k=>uQ (tu ao) h k.2 o) (out++[])=out++(cu h Q).filter (geE ao);rw[append_nil];clear n
  induction Q generalizing out with
  |nil=>simp[cu]|cons k r ih=>
   rw[List.foldl_cons,ih,aoH ao h,lA,List.filter_append,append_assoc]
theorem ai6{h:Nat}(H:∀(t:TN h) (out:Ws),Bx.okW out->nM h t->(2<=pg h t/\pg h t<1024)->Bx.okW (uQ qk h t out)/\∀p,In (uQ qk h t out) p↔In out p\/p∈oc h t):
 ∀(ks:List (Kd h)) (out:Ws),Bx.okW out->(∀k∈ks,nM h k.2/\(2<=pg h k.2/\pg h k.2<1024))->Bx.okW (ks.foldl (λo k=>uQ qk h k.2 o) out)/\∀p,In (ks.foldl (λo k=>uQ qk h k.2 o) out) p↔In out p\/p∈cf h ks
 |[],out,hw,_=>⟨hw,λp=>⟨.inl,λx=>x.elim id (λy=>by cases y)⟩⟩
 |k::r,out,hw,hk=>by
  have⟨a,b⟩:=hk k mem_cons_self;have⟨w1,i1⟩:=H k.2 out hw a b;have⟨w2,i2⟩:=ai6 H r _ w1 (λk' hk'=>hk k' (mem_cons_of_mem _ hk'));refine⟨w2,λp=> ?_⟩;rw[List.foldl_cons,i2,i1,kL,mem_append,or_assoc]
theorem av4(h:Nat):∀(t:TN h) (out:Ws),Bx.okW out->nM h t->(2<=pg h t/\pg h t<1024)->Bx.okW (uQ qk h t out)/\∀p,In (uQ qk h t out) p↔In out p\/p∈oc h t:=by
 induction h with
 |zero=>
  intro t out hw ht hp;have hp:2<=t.1/\t.1<1024:=hp;refine⟨(Bx.gH hw _).1,λp=> ?_⟩;show In (Bx.dk out t.1) p↔_;rw[p8 hw (by omega)];show _↔In out p\/p∈[t.1];rw[mem_singleton]
 |succ h ih=>
  intro t out hw ht hp;have⟨n,Q⟩:=t;have hp:2<=n/\n<1024:=hp;have⟨hQ,hQb,jU,bU,hsp,hT⟩:=(show Q≠[]/\cv Q=Q/\ik (Q.map (dh h))=true/\od h Q<=254/\aeB h Q/\∀k∈Q,nM h k.2 from ht);have hpk:∀k∈Q,2<=pg h k.2/\pg h k.2<1024:=λk hk=>((gI.1 jU).1 (dh h k) (List.mem_map_of_mem hk)).2;have⟨w,i⟩:=ai6 ih Q (Bx.dk out n) (Bx.gH hw n).1 (λk hk=>⟨hT k hk,hpk k hk⟩);have e:uQ qk (h+1) ((n,Q):TN (h+1)) out=Q.foldl (λo k=>uQ qk h k.2 o) (Bx.dk out n):=rfl;have e2:oc (h+1) ((n,Q):TN (h+1))=n::cf h Q:=rfl;rw[e,e2];refine⟨w,λp=> ?_⟩;rw[i,p8 hw (by omega),mem_cons,or_assoc]
theorem aa2{th:Th}{m:As}{aa:Int}{h:Nat}{E:List En}{ps:List Int}{po:Nat}(H:Holds th m aa h E ps po)(hn:ps.Nodup)(hh:h<=15)(ao:ByteArray):vZ th m aa ao=0/\m8 th m aa ao=E.filter (geE ao):=by
 have key:wkT (tu ao) th m aa []=(E.filter (geE ao),0):=by
  unfold wkT;rcases H with⟨h1,_,h3,_⟩|⟨t,h1,h2,h22,h3,h4,h5,h6,_⟩;rw[if_pos h1,h3];rfl;subst h5 h6;have⟨uR,e,_⟩:=y5 (on:=tu ao) h (f:=17) (ad:=1) (met:=Bx.aG) (out:=[]) h3 h4 (by omega) (by omega) (by omega) Bx.eV.1 (λp _=>eK) hn;rw[if_neg (by omega),h1,e,aoH];rfl
 have e1:vZ th m aa ao=0:=by unfold vZ;rw[key]
 refine⟨e1, ?_⟩;unfold m8;rw[if_neg (by rw[e1];simp)];unfold lsT;rw[key]
theorem nE{th:Th}{m:As}{aa:Int}{h:Nat}{E:List En}{ps:List Int}{po:Nat}(H:Holds th m aa h E ps po)(hn:ps.Nodup)(hh:h<=15):zm th m aa=0/\Bx.okW (dR th m aa)/\∀p,In (dR th m aa) p↔p∈ps:=by
 have key:(wkT qk th m aa Bx.aG).2=0/\Bx.okW (wkT qk th m aa Bx.aG).1/\∀p,In (wkT qk th m aa Bx.aG).1 p↔p∈ps:=by
  unfold wkT;rcases H with⟨h1,_,_,h4,_⟩|⟨t,h1,h2,h22,h3,h4,h5,h6,_⟩;rw[if_pos h1,h4];exact⟨rfl,Bx.eV.1,λp=>⟨λx=>absurd x eK,λx=>by cases x⟩⟩;subst h5 h6;have⟨uR,e,_⟩:=y5 (on:=qk) h (f:=17) (ad:=1) (met:=Bx.aG) (out:=Bx.aG) h3 h4 (by omega) (by omega) (by omega) Bx.eV.1 (λp _=>eK) hn;have⟨w,i⟩:=av4 h t Bx.aG Bx.eV.1 h4 (by omega);rw[if_neg (by omega),h1,e];exact⟨rfl,w,λp=>by rw[i];exact⟨λx=>x.elim (λy=>absurd y eK) id,.inr⟩⟩
 have e1:zm th m aa=0:=key.1;refine⟨e1, ?_⟩;unfold dR;rw[if_neg (by rw[e1];simp)];exact key.2
theorem uS{α:Type}[DecidableEq α]:∀{l m:List α},l.Nodup->(∀x∈l,x∈m)->l.length<=m.length
 |[],m,_,_=>zero_le _|a::l,m,hn,hs=>by
  have⟨h1,h2⟩:=List.nodup_cons.1 hn;have ha:=hs a mem_cons_self;have:=uS (l:=l) (m:=m.erase a) h2 λx hx=>(List.mem_erase_of_ne (λe=>h1 (by rw[<-e];exact hx))).2 (hs x (mem_cons_of_mem _ hx));rw[List.length_erase_of_mem ha]at this;have:=List.length_pos_of_mem ha;rw[length_cons];omega
theorem afe{ws:Ws}{k:Nat}:k∈Bx.agO ws↔k<1024/\Bx.bit ws k=true:=by
 unfold Bx.agO Bx.fr;rw[List.mem_filter,mem_range]
theorem ag7(ws:Ws):(Bx.agO ws).Nodup:=List.Pairwise.filter _ List.nodup_range
theorem wM{ws:Ws}(hw:Bx.okW ws){N:List Int}(h:∀p,In ws p->p∈N):im ws<=N.length:=by
 unfold im;rw[<-length_map (f:=λ(k:Nat)=>(k:Int))];refine uS ?_ λx hx=> ?_;unfold List.Nodup;rw[List.pairwise_map];exact(ag7 ws).imp λh e=>h (by omega);obtain⟨k,hk,rfl⟩:=mem_map.1 hx;have⟨a,b⟩:=afe.1 hk;exact h _ ((eJ hw).2 ⟨⟨by omega,by omega⟩,by rw[toNat_natCast];exact b⟩)
theorem ar1{ws:Ws}(hw:Bx.okW ws){N:List Int}(hn:N.Nodup)(h:∀p∈N,In ws p):N.length<=im ws:=by
 unfold im;rw[<-length_map (f:=λ(k:Nat)=>(k:Int))];refine uS hn λx hx=> ?_;have⟨a,b⟩:=(eJ hw).1 (h x hx);exact mem_map.2 ⟨x.toNat,afe.2 ⟨by omega,b⟩,by omega⟩
theorem akU{a b c:Ws}(ha:Bx.okW a)(hb:Bx.okW b)(hc:Bx.okW c)(h:∀p,In c p↔In a p\/In b p)(hd:∀p,In a p->¬In b p):im c=im a+im b:=by
 have bits:∀k,k<1024->Bx.bit c k=(Bx.bit a k||Bx.bit b k)/\¬(Bx.bit a k=true/\Bx.bit b k=true):=λk hk=>by
  have hr:(0:Int)<=(k:Int)/\(k:Int)<1024:=⟨by omega,by omega⟩
  have e:∀{ws:Ws},Bx.okW ws->(In ws (k:Int)↔Bx.bit ws k=true):=λhw=>by
   rw[eJ hw,toNat_natCast];exact⟨λx=>x.2,λx=>⟨hr,x⟩⟩
  have h1:=h (k:Int);have h2:=hd (k:Int);rw[e ha,e hb]at h1;rw[e hc]at h1;rw[e ha,e hb]at h2;refine⟨?_,λx=>h2 x.1 x.2⟩;cases e1:Bx.bit a k<;>cases e2:Bx.bit b k<;>cases e3:Bx.bit c k<;>simp[e1,e2,e3]at h1 ⊢
 have key:∀m,m<=1024->(Bx.fr (Bx.bit c) m).length=(Bx.fr (Bx.bit a) m).length+(Bx.fr (Bx.bit b) m).length:=by
  intro m
  induction m with
  |zero=>intro _;rfl
  |succ m ih=>
   intro hm;have⟨b1,b2⟩:=bits m (by omega);have:=ih (by omega);rw[Bx.sZ,Bx.sZ,Bx.sZ,length_append,length_append,length_append,b1];cases e1:Bx.bit a m<;>cases e2:Bx.bit b m<;>simp[e1,e2]at b2 ⊢ <;>omega
 exact key 1024 (le_refl _)
theorem acE{ws:Ws}(hw:Bx.okW ws):Bx.lN ws=(im ws:Int):=Bx.aqS hw.1
theorem TI.cnt{th:Th}{F0:Int->Prop}{m:As}{fu aa:Int}{fr fs gn:Ws}{h:Nat}{E:List En}{ps:List Int}{po:Nat}(T:TI th F0 m fu aa fr fs gn h E ps po){f0:Ws}(hw:Bx.okW f0)(hf:∀p,In f0 p↔F0 p):im f0=im fr+im fs/\im fs<=ps.length:=
 ⟨akU T.ok.fr T.ok.fs hw (λp=>by rw[hf,T.inv.cov]) T.inv.dis,wM T.ok.fs T.inv.sub⟩
theorem ag8{E:List En}{key v:ByteArray}:(bN E key v).length<=E.length+1:=by rw[aci];split<;>omega
theorem ag9{E:List En}{key:ByteArray}{op:Option ByteArray}:(lQ key op E).length<=E.length+(match op with|some _=>1|none=>0):=by
 cases op with
 |some v=>exact ag8|none=>exact List.length_filter_le _ _
structure aAr (th:Th) (key:ByteArray) (op:Option ByteArray) (m:As) (fu:Int) (fr:Ws) (h:Nat) (E:List En) (m':As) (ft e:Int):Prop where
 d:Ds.bm th m' ft
 rd:∀p,¬In fr p->Ds.gM th m' p=Ds.gM th m p/\Ds.fJ th m' p=Ds.fJ th m p
 lo:Low th fu fr m m' 32
 sec:∀x:Int,¬In fr (x / 4)->cp m' x=cp m x
 fu:fu= -1->ft= -1
 how:(iQ key op=false/\e=1)\/(iQ key op=true/\((e=5/\tC key op E=5)\/(e=41/\im fr<=2*h+3)\/(e=42/\ft=0)))
theorem aoI{key:ByteArray}{op:Option ByteArray}:iQ key op=true↔(1<=key.size/\key.size<=24)/\∀v,op=some v->v.size<=100:=by
 cases op with
 |none=>
  simp only[iQ,and_eq_true,decide_eq_true_eq];exact⟨λh=>⟨h,λv e=>by cases e⟩,λh=>h.1⟩
 |some v=>
  simp only[iQ,and_eq_true,decide_eq_true_eq];exact⟨λh=>⟨h.1,λw e=>by cases e;exact h.2⟩,λh=>⟨h.1,h.2 v rfl⟩⟩
theorem ar2{th:Th}{F0:Int->Prop}{key:ByteArray}{op:Option ByteArray}{m:As}{fu aa:Int}{fr fs gn:Ws}{h:Nat}{E:List En}{ps:List Int}{po:Nat}(T:TI th F0 m fu aa fr fs gn h E ps po)(hh:h<=14):
 ((opT th key op m fu aa fr fs gn).2.2.2.2.2.2=0/\iQ key op=true/\tC key op E=0/\∃h' ps' po',ae9 th F0 key op m fu fr ps E po (opT th key op m fu aa fr fs gn) h' ps' po')\/
 (∃m' ft e,e≠0/\opT th key op m fu aa fr fs gn=(m',ft,aa,fr,fs,gn,e)/\aAr th key op m fu fr h E m' ft e):=by
 by_cases hk:iQ key op=true;rw[acy hk];have⟨k1,k2⟩:=aoI.1 hk;rcases aoG (key:=key) (op:=op) T k1 k2 hh with⟨a,b,c⟩|⟨m',ft,e,a,b,c⟩;exact .inl ⟨a,hk,b,c⟩;refine .inr ⟨m',ft,e,a,b,c.d,c.rd,c.lo,c.sec,c.fu,.inr ⟨hk, ?_⟩⟩;rcases c.how with x|⟨x,N,y,z⟩|x;exact .inl x;exact .inr (.inl ⟨x,le_trans (wM T.ok.fr z) y⟩);exact .inr (.inr x);have hk:iQ key op=false:=by simpa using hk
 exact .inr ⟨m,fu,1,by decide,ag1 hk,T.ok.d,λp _=>⟨rfl,rfl⟩,λ_=>⟨[],zero_le _,λp hp=>(by cases hp),λp _=>⟨rfl,rfl⟩⟩,λ_ _=>rfl,id,.inl ⟨hk,rfl⟩⟩
theorem aff{th:Th}{m m':As}:∀(h:Nat) {t:TN h},rep th m h t->(∀p∈oc h t,Ds.gM th m' p=Ds.gM th m p/\Ds.fJ th m' p=Ds.fJ th m p)->rep th m' h t
 |0,t,hr,hp=>Rd.same hr (hp _ (ru 0 t))|h+1,t,hr,hp=>⟨Rd.same hr.1 (hp _ (ru (h+1) t)),λk hk=>aff h (hr.2 k hk) λp ky=>hp p (mem_cons_of_mem _ (mem_flatMap.2 ⟨k,hk,ky⟩))⟩
theorem Holds.same{th:Th}{m m':As}{aa:Int}{h:Nat}{E:List En}{ps:List Int}{po:Nat}(H:Holds th m aa h E ps po)(hp:∀p∈ps,Ds.gM th m' p=Ds.gM th m p/\Ds.fJ th m' p=Ds.fJ th m p):Holds th m' aa h E ps po:=by
 rcases H with H|⟨t,h1,h2,h22,h3,h4,h5,h6,h7⟩;exact .inl H;subst h6;exact .inr ⟨t,h1,h2,h22,aff h h3 hp,h4,h5,rfl,h7⟩
theorem TI.keep{th:Th}{F0:Int->Prop}{m m':As}{fu ft aa:Int}{fr fs gn:Ws}{h:Nat}{E:List En}{ps:List Int}{po:Nat}(T:TI th F0 m fu aa fr fs gn h E ps po)(hd:Ds.bm th m' ft)(hr:∀p,¬In fr p->Ds.gM th m' p=Ds.gM th m p/\Ds.fJ th m' p=Ds.fJ th m p):
 TI th F0 m' ft aa fr fs gn h E ps po:=⟨⟨hd,T.ok.fr,T.ok.fs,T.ok.gn,T.ok.pg⟩,T.gz,T.f0,T.holds.same λp hp=>hr p (T.free p hp),T.inv⟩
theorem aoJ{th:Th}{free:Ws}(hw:Bx.okW free):Bx.okW (opF th free):=(Bx.iL (.inr (.inl rfl)) hw (Bx.iL (.inr (.inr rfl)) (Bx.bV _).1 (Bx.bV _).1).1).1
theorem aoK{th:Th}{free:Ws}(hw:Bx.okW free){p:Int}:In (opF th free) p↔In free p/\2<=p/\p<Ds.eF th:=by
 unfold opF;rw[anH hw (Bx.iL (.inr (.inr rfl)) (Bx.bV _).1 (Bx.bV _).1).1,s9 (Bx.bV _).1 (Bx.bV _).1,mY,mY];constructor;rintro⟨a,⟨b,c⟩,d⟩;exact⟨a,by omega,c⟩;rintro⟨a,b,c⟩;have:=mX hw a;exact⟨a,⟨by omega,c⟩,by omega⟩
theorem TI.start{th:Th}{m:As}{fu:Int}{free:Ws}(hd:Ds.bm th m fu)(hw:Bx.okW free):TI th (In (opF th free)) m fu 0 (opF th free) Bx.aG Bx.aG 0 [] [] 0:=by
 have f0:∀p,In (opF th free) p->2<=p/\Ds.wv th p=true:=λp hp=>by
  have⟨_,a,b⟩:=(aoK hw).1 hp;exact⟨a,Ds.gk.2 ⟨by omega,b⟩⟩
 exact⟨⟨hd,aoJ hw,Bx.eV.1,Bx.eV.1,f0⟩,rfl,f0,.inl ⟨rfl,rfl,rfl,rfl,rfl⟩,⟨List.nodup_nil,λp=>⟨.inl,λx=>x.elim id (λy=>absurd y eK)⟩,λp _=>eK,λp hp=>absurd hp eK,λp hp=>by cases hp⟩⟩
theorem ar3(e:En):geE empty e=true:=by unfold geE;rw[ib];rfl
theorem filter_all(l:List En):l.filter (geE empty)=l:=List.filter_eq_self.2 λe _=>ar3 e
theorem TI.small{th:Th}{F0:Int->Prop}{m:As}{fu aa:Int}{fr fs gn:Ws}{h:Nat}{E:List En}{ps:List Int}{po:Nat}(T:TI th F0 m fu aa fr fs gn h E ps po)(hp:po<=100000):h<=14:=T.holds.ag6 (by have:19*3^15=272629233:=rfl;omega)
def nQ(th:Th)(P:Ws):Ws:=opF th (Bx.bR .andNot (Bx.bR .andNot (Bx.bk (Ds.eF th)) (Bx.bk 2)) P)
structure nF (th:Th) (m:As) (pg:Int):Prop where
 rg:0<=pg/\pg<=65536
 e:zm th m pg=0
 w:Bx.okW (dR th m pg)
 i:∀p,In (dR th m pg) p->2<=p/\p<Ds.eF th
abbrev XA:Type:=Th×As×Int×Int×Bool×Int×Int×Ws
abbrev sA0:Spec XA:=⟨λ_=>[.ptr 0 0],λ(th,m,fu,wh,on,ep,pg,br)=>hS0 th m fu wh on ep pg br,λ(th,m,fu,_,_,_,pg,_)=>[Ds.bm th m fu,nF th m pg],
 λ(th,m,fu,wh,on,ep,pg,_)=>[fy 1 wh on ep pg (dR th m pg) (.ptr 4 0),Ds.jI 2 3 fu,.vec (.au Ds.cS th) Ds.eS,.map Ds.kS m,fL 1 pg (nQ th (dR th m pg)) Bx.aG Bx.aG],λ_=>.s (.bool true)⟩
abbrev XA1:Type:=Th×As×Int×Int×Bool×Int×Int×Ws×Int×Ws×Ws×Ws
abbrev sA1:Spec XA1:=⟨λ_=>[.ptr 0 0],λ(th,m,fu,wh,on,ep,pg,br,aa,fr,fs,gn)=>jM th m fu wh on ep pg br aa fr fs gn,λ(th,m,fu,_,_,_,pg,_)=>[Ds.bm th m fu,nF th m pg],
 λ(th,m,fu,wh,on,ep,pg,_,aa,fr,fs,gn)=>[fy 1 wh on ep pg (dR th m pg) (.ptr 5 0),Ds.jI 3 4 fu,fL 1 aa fr fs gn,.vec (.au Ds.cS th) Ds.eS,.map Ds.kS m,fL 1 pg (nQ th (dR th m pg)) Bx.aG Bx.aG],λ_=>.s (.bool true)⟩
theorem afg{ws:Ws}(hw:Bx.okW ws)(h:∀p,¬In ws p):Bx.lN ws=0:=by
 rw[acE hw];have:=wM hw (N:=[]) λp hp=>absurd hp (h p);simp only[length_nil]at this;omega
theorem ayx{th:Th}{m:As}{fu wh:Int}{on:Bool}{ep pg:Int}{br P f:Ws}(e:P=dR th m pg)(e2:f=nQ th P):
 sA0.dN (th,m,fu,wh,on,ep,pg,br)=[fy 1 wh on ep pg P (.ptr 4 0),Ds.jI 2 3 fu,.vec (.au Ds.cS th) Ds.eS,.map Ds.kS m,fL 1 pg f Bx.aG Bx.aG]:=by
 subst e e2;rfl
theorem ayy{th:Th}{m:As}{fu wh:Int}{on:Bool}{ep pg:Int}{br P f:Ws}{aa:Int}{fr fs gn:Ws}(e:P=dR th m pg)(e2:f=nQ th P):
 sA1.dN (th,m,fu,wh,on,ep,pg,br,aa,fr,fs,gn)=[fy 1 wh on ep pg P (.ptr 5 0),Ds.jI 3 4 fu,fL 1 aa fr fs gn,.vec (.au Ds.cS th) Ds.eS,.map Ds.kS m,fL 1 pg f Bx.aG Bx.aG]:=by
 subst e e2;rfl
theorem afh:aos.Ok P Bx.bO:=aK.Ok.cons (Ds.adW.sum Ds.sG) (aK.Ok.cons Bx.sW.sum (aK.Ok.cons Bx.wC.sum (aK.Ok.cons Bx.aiw.sum (aK.Ok.cons (arP.sum mOp) (aK.Ok.cons (ae5.sum mT) (aK.Ok.cons Bx.anx.sum aK.Ok.nil))))))
theorem aa3{th:Th}{m:As}{pg:Int}(R:nF th m pg):Bx.okW (Bx.bR .and (dR th m pg) (Bx.bk 2))/\Bx.lN (Bx.bR .and (dR th m pg) (Bx.bk 2))=0/\Bx.okW (Bx.bR .andNot (dR th m pg) (Bx.bk (Ds.eF th)))/\Bx.lN (Bx.bR .andNot (dR th m pg) (Bx.bk (Ds.eF th)))=0:=by
 have a:=(Bx.iL (.inr (.inl rfl)) R.w (Bx.bV 2).1).1;have b:=(Bx.iL (.inr (.inr rfl)) R.w (Bx.bV (Ds.eF th)).1).1;refine⟨a,afg a λp hp=> ?_,b,afg b λp hp=> ?_⟩;rw[anH R.w (Bx.bV 2).1,mY]at hp;have:=R.i p hp.1;omega;rw[s9 R.w (Bx.bV _).1,mY]at hp;have:=R.i p hp.1;have:=mX R.w hp.1;omega
theorem av5:fI P Bx.bO 24 sA0:=by
 refine fS func24 ?_;rintro⟨th,m,fu,wh,on,ep,pg,br⟩ ⟨(hd:Ds.bm th m fu),(R:nF th m pg),_⟩ X hX hz;have⟨r1,r2,r3,r4⟩:=aa3 R;refine Ds.cF hz hX (by intro y hy;cases hy) afh func24 (aAj th m fu wh on ep pg br) ⟨rfl,rfl,hd,rfl,rfl,hd,rfl,rfl,hd,R.rg,λh=> ?_,λ_=>⟨r1,λh=> ?_,λ_=>⟨r3,λh=> ?_,λ_=>⟨rfl,rfl,hd, ?_⟩⟩⟩⟩;rw[R.e]at h;cases h;rw[r2]at h;cases h;rw[r4]at h;cases h;have f:=ayx (th:=th) (m:=m) (fu:=fu) (wh:=wh) (on:=on) (ep:=ep) (pg:=pg) (br:=br) rfl rfl;unfold nQ at f;exact bD 4 rfl (le_refl _) rfl f
theorem aoL:fI P Bx.bO 24 sA1:=by
 refine fS func24 ?_;rintro⟨th,m,fu,wh,on,ep,pg,br,aa,fr,fs,gn⟩ ⟨(hd:Ds.bm th m fu),(R:nF th m pg),_⟩ X hX hz;have⟨r1,r2,r3,r4⟩:=aa3 R;refine Ds.cF hz hX (by intro y hy;cases hy) afh func24 (aAk th m fu wh on ep pg br aa fr fs gn) ⟨rfl,rfl,hd,rfl,rfl,hd,rfl,rfl,hd,R.rg,λh=> ?_,λ_=>⟨r1,λh=> ?_,λ_=>⟨r3,λh=> ?_,λ_=>⟨rfl,rfl,hd, ?_⟩⟩⟩⟩;rw[R.e]at h;cases h;rw[r2]at h;cases h;rw[r4]at h;cases h;have f:=ayy (th:=th) (m:=m) (fu:=fu) (wh:=wh) (on:=on) (ep:=ep) (pg:=pg) (br:=br) (aa:=aa) (fr:=fr) (fs:=fs) (gn:=gn) rfl rfl;unfold nQ at f;exact bD 5 rfl (le_refl _) rfl f
abbrev marks:List (CL cMk):=[(true,(1:Int),(0:Int),()),(false,(0:Int),(0:Int),())]
def fo1(th:Th)(m:As)(fu:Int)(x:CL cMk)(k:Int):As×Int×Int:=(Ds.ku th m fu k (mkO x) (mkE x) (mkP x),Ds.pV th fu k (mkO x) (mkE x) (mkP x),Ds.zG th fu k (mkO x) (mkE x) (mkP x))
def fo2(th:Th)(a:As×Int×Int):Th×As×Int×Int:=if a.2.2≠0 then(th,a.1,a.2.1,a.2.2)else(Ds.lM th a.1 a.2.1,Ds.oa a.1 a.2.1,Ds.dC a.2.1,Ds.zD a.2.1)
def fo3(th:Th)(a:As×Int×Int)(x:CL cMk):Th×As×Int×Int:=if a.2.2≠0 then(th,a.1,a.2.1,a.2.2)else fo2 th (fo1 th a.1 a.2.1 x 1)
def tD(th:Th)(m:As)(fu:Int)(l:List (CL cMk)):Th×As×Int×Int:=if Ds.eF th<3 then(th,m,fu,1)else fo3 th (fo1 th m fu (el l 0) 0) (el l 1)
abbrev XFo:Type:=Th×As×Int×List (CL cMk)
abbrev sFo:Spec XFo:=⟨λ_=>[.ptr 0 0],λ(th,m,fu,_)=>Ds.hD th m fu,λ(th,m,fu,l)=>[Ds.bm th m fu,l=marks],λ(th,m,fu,l)=>Ds.hD (tD th m fu l).1 (tD th m fu l).2.1 (tD th m fu l).2.2.1,λ(th,m,fu,l)=>aM (tD th m fu l).2.2.2⟩
def mFo:List AV->RM (XFo×List Nat)
 |[d]=>(Ds.sG [d]).bind λ((th,m,fu),σ)=>.ret ((th,m,fu,marks),σ)|_=>.fail ""
theorem ai7{th:Th}{m:As}{fu:Int}{l:List (CL cMk)}{c:Th×As×Int×Int}(e:tD th m fu l=c):sFo.dN (th,m,fu,l)=Ds.hD c.1 c.2.1 c.2.2.1/\sFo.out (th,m,fu,l)=aM c.2.2.2:=by
 subst e;exact⟨rfl,rfl⟩
theorem akV{Z:bh}:fI P Z 20 sFo:=by
 refine fS func20 ?_;rintro⟨th,m,fu,l⟩ ⟨(hd:Ds.bm th m fu),(hl:l=marks),_⟩ X hX hz;have gx:∀x∈arR,(sFo.heap (th,m,fu,l)).length≤x.2.m:=by intro y hy;simp[arR]at hy;rcases hy with rfl|rfl<;>exact le_refl _
 have T:aou.Ok P Z:=aK.Ok.cons (Ds.adW.sum Ds.sG) (aK.Ok.cons (Ds.asR.sum mGs) (aK.Ok.cons (Ds.adT.sum Ds.sG) aK.Ok.nil));have bB:l.length=2:=by rw[hl];rfl
 by_cases h3:Ds.eF th<3;obtain⟨f1,f2⟩:=ai7 (m:=m) (fu:=fu) (l:=l) (c:=(th,m,fu,1)) (by unfold tD;rw[if_pos h3]);refine Ds.cF hz hX gx T func20 (ayl th m fu) ⟨rfl,rfl,hd,fun _=>bD 3 rfl (le_refl _) f2 f1,fun h=>absurd h3 (of_decide_eq_false h)⟩;have e0:tD th m fu l=fo3 th (fo1 th m fu (el l 0) 0) (el l 1):=by unfold tD;rw[if_neg h3]
 have last:∀{m1:As} {f1:Int},Ds.bm th m1 f1→tD th m fu l=fo2 th (fo1 th m1 f1 (el l 1) 1)→Safe P 20 X (dO sFo (th,m,fu,l)) (cFo th m1 f1 1 1 (mkO (el l 1)) (mkE (el l 1)) (mkP (el l 1)) l):=by
  intro m1 f1 hd1 e;have hd2:=Ds.adV (k:=1) (on:=mkO (el l 1)) (ep:=mkE (el l 1)) (pg:=mkP (el l 1)) hd1;refine Ds.cF hz hX gx T func20 (aym th m1 f1 1 1 (mkO (el l 1)) (mkE (el l 1)) (mkP (el l 1)) l) ⟨rfl,rfl,hd1,rA (by omega) (by omega),fun h=> ?_,fun h=>⟨rA (by omega) (by omega),fun h=>absurd (of_decide_eq_true h) (by omega),fun _=>⟨rfl,rfl,hd2, ?_⟩⟩⟩;obtain⟨g1,g2⟩:=ai7 (e.trans (if_pos (bne_iff_ne.1 h)));exact bD 3 rfl (le_refl _) g2 g1;obtain⟨g1,g2⟩:=ai7 (e.trans (if_neg (fun x=>Bool.false_ne_true (h.symm.trans (bne_iff_ne.2 x)))));exact bD 3 rfl (le_refl _) g2 g1
 have first:Safe P 20 X (dO sFo (th,m,fu,l)) (cFo th m fu 0 0 (mkO (el l 0)) (mkE (el l 0)) (mkP (el l 0)) l):=by
  have hd2:=Ds.adV (k:=0) (on:=mkO (el l 0)) (ep:=mkE (el l 0)) (pg:=mkP (el l 0)) hd;refine Ds.cF hz hX gx T func20 (aym th m fu 0 0 (mkO (el l 0)) (mkE (el l 0)) (mkP (el l 0)) l) ⟨rfl,rfl,hd,rA (by omega) (by omega),fun h=> ?_,fun h=>⟨rA (by omega) (by omega),fun _=>⟨by omega,by omega,last hd2 (e0.trans (if_neg (fun x=>Bool.false_ne_true (h.symm.trans (bne_iff_ne.2 x)))))⟩,fun h=>absurd (of_decide_eq_false h) (by omega)⟩⟩;obtain⟨g1,g2⟩:=ai7 (e0.trans (if_pos (bne_iff_ne.1 h)));exact bD 3 rfl (le_refl _) g2 g1
 refine Ds.cF hz hX gx T func20 (ayl th m fu) ⟨rfl,rfl,hd,fun h=>absurd (of_decide_eq_true h) h3,fun _=>⟨fun _=>⟨by omega,by omega, ?_⟩,fun h=>(by cases h)⟩⟩;subst hl;exact first
abbrev ayz:=bY sA0 (λa=>match a with
 |[.ptr p 0]=>.look p λo=>match o with
  |some (.aq [.ptr d 0,wh,.s on,ep,pg,.ah .u64 16 br,_] _)=>(Ds.sG [.ptr d 0]).bind λ((th,m,fu),σ)=>match wh.cC,(AV.s on).fM,ep.cC,pg.cC with
   |some (_,_,wh),some (_,on),some (_,_,ep),some (_,_,pg)=>.ret ((th,m,fu,wh,on,ep,pg,br),p::σ)|_,_,_,_=>.fail ""
  |_=>.fail ""
 |_=>.fail "")
def ai8:aK:=[(22,ae6),(23,ayk),(24,ayz)]
def aoM:List (Nat×Norm):=[(fA+7,⟨[],[],3,[]⟩),(abE+9002,⟨[],[0,4,5,18,22,23],3,[]⟩),(13,⟨[],[0,4],3,[]⟩)]
def cSo(th:Th)(m:As)(fu i wh:Int)(on:Bool)(ep pg:Int)(br:Ws):bP:=⟨sl 72 [(0,.ptr 0 0),(4,.ptr 3 0),(5,aM i),(18,aM i),(22,.ptr 0 0),(23,aM i)],Ds.hD th m fu++[fy 0 wh on ep pg br (.s .jv)],sj f10 9 2,⟨none,false,0,[],9⟩⟩
def qH(th:Th)(m:As)(fu wh:Int)(on:Bool)(ep pg:Int)(br:Ws):bP:=⟨sl 72 [(0,.ptr 0 0),(4,.ptr 3 0)],Ds.hD th m fu++[fy 0 wh on ep pg br (.s .jv)],hr f10 13,{}⟩
theorem aAs(th:Th)(m:As)(fu:Int):run P ai8.sum f10 aoM (start f10 [.ptr 0 0] (Ds.hD th m fu))=
 Tree.ab (bp (some [AV.ptr 0 0])) (.ab (bp (some (Ds.hD th m fu))) (.ab (Ds.bm th m fu) (.ite (decide (Ds.eF th<3)) (.ret (Ds.hD th m fu) (.bq [.s .jv,.s (.aR .i64 43)])) (.at (cSo th m fu 0 0 false 0 0 (replicate 16 0)))))):=by kernel_rfl
theorem aAt(th:Th)(m:As)(fu i wh:Int)(on:Bool)(ep pg:Int)(br:Ws):run P ai8.sum f10 aoM (cSo th m fu i wh on ep pg br)=
 Tree.ab (bp (some [AV.ptr 0 0,aM i])) (.ab (bp (some (Ds.hD th m fu))) (.ab (Ds.bm th m fu) (.ab (aA i) (.ite (Ds.mN th i==0) (.ite (Ds.iS th m i) (.ite (!on) (.ab (aA (i+1)) (.ite (decide (i+1<2)) (.at (cSo th m fu (i+1) i (Ds.iS th m i) (Ds.ga th m i) (Ds.mO th m i) br)) (.at (qH th m fu i (Ds.iS th m i) (Ds.ga th m i) (Ds.mO th m i) br)))) (.ite (decide (Ds.ga th m i>ep)) (.ab (aA (i+1)) (.ite (decide (i+1<2)) (.at (cSo th m fu (i+1) i (Ds.iS th m i) (Ds.ga th m i) (Ds.mO th m i) br)) (.at (qH th m fu i (Ds.iS th m i) (Ds.ga th m i) (Ds.mO th m i) br)))) (.ab (aA (i+1)) (.ite (decide (i+1<2)) (.at (cSo th m fu (i+1) wh on ep pg br)) (.at (qH th m fu wh on ep pg br)))))) (.ab (aA (i+1)) (.ite (decide (i+1<2)) (.at (cSo th m fu (i+1) wh on ep pg br)) (.at (qH th m fu wh on ep pg br))))) (.ab (aA (i+1)) (.ite (decide (i+1<2)) (.at (cSo th m fu (i+1) wh on ep pg br)) (.at (qH th m fu wh on ep pg br)))))))):=by kernel_rfl
theorem av6(th:Th)(m:As)(fu wh:Int)(on:Bool)(ep pg:Int)(br:Ws):run P ai8.sum f10 aoM (qH th m fu wh on ep pg br)=
 Tree.ite (!on) (.ret (Ds.hD th m fu++[fy 0 wh on ep pg br (.s .jv)]) (.bq [.s .jv,.s (.aR .i64 43)])) (.ab (bp (some [AV.ptr 0 0])) (.ab (bp (some (hS0 th m fu wh on ep pg br))) (.ab (Ds.bm th m fu) (.ab (nF th m pg) (.ite false (.ret (Ds.hD th m fu++[fy 0 wh on ep pg (dR th m pg) (.ptr 4 0),fL 0 pg (nQ th (dR th m pg)) Bx.aG Bx.aG]) (.bq [.s .jv,.s (.aR .i64 43)])) (.ret (Ds.hD th m fu++[fy 0 wh on ep pg (dR th m pg) (.ptr 4 0),fL 0 pg (nQ th (dR th m pg)) Bx.aG Bx.aG]) (.bq [.ptr 3 0,.s (.aR .i64 0)]))))))):=by kernel_rfl
abbrev Mk:Type:=Int×Bool×Int×Int
def mk1(th:Th)(m:As)(s:Mk)(k:Int):Mk:=if Ds.mN th k=0/\Ds.iS th m k=true/\(s.2.1=false\/Ds.ga th m k>s.2.2.1)then(k,true,Ds.ga th m k,Ds.mO th m k)else s
def dG(th:Th)(m:As):Mk:=mk1 th m (mk1 th m (0,false,0,0) 0) 1
abbrev X3:Type:=Th×As×Int
abbrev uT:Spec X3:=⟨λ_=>[.ptr 0 0],λ(th,m,fu)=>Ds.hD th m fu,λ(th,m,fu)=>[Ds.bm th m fu,3<=Ds.eF th,(dG th m).2.1=true,nF th m (dG th m).2.2.2],
 λ(th,m,fu)=>Ds.hD th m fu++[fy 0 (dG th m).1 true (dG th m).2.2.1 (dG th m).2.2.2 (dR th m (dG th m).2.2.2) (.ptr 4 0),fL 0 (dG th m).2.2.2 (nQ th (dR th m (dG th m).2.2.2)) Bx.aG Bx.aG],λ_=>.bq [.ptr 3 0,aM 0]⟩
theorem y6:ai8.Ok P Bx.bO:=aK.Ok.cons (Ds.adW.sum Ds.sG) (aK.Ok.cons (Ds.go_ok.sum Ds.mRd) (aK.Ok.cons (av5.sum _) aK.Ok.nil))
theorem nf0{b:Bool}(h:(!b)=true):b=false:=by cases b<;>simp_all
theorem aha:∀x∈aoM,3<=x.2.m:=by intro y hy;simp[aoM]at hy;rcases hy with rfl|rfl|rfl<;>exact le_refl _
theorem qb{th:Th}{m:As}{s:Mk}{k:Int}(h1:Ds.mN th k=0)(h2:Ds.iS th m k=true)(h3:s.2.1=false\/Ds.ga th m k>s.2.2.1):mk1 th m s k=(k,true,Ds.ga th m k,Ds.mO th m k):=if_pos ⟨h1,h2,h3⟩
theorem y7{th:Th}{m:As}{s:Mk}{k:Int}(h:¬(Ds.mN th k=0/\Ds.iS th m k=true/\(s.2.1=false\/Ds.ga th m k>s.2.2.1))):mk1 th m s k=s:=if_neg h
theorem av7{th:Th}{m:As}{fu:Int}{a:Mk}(e:a=dG th m):
 uT.dN (th,m,fu)=Ds.hD th m fu++[fy 0 a.1 true a.2.2.1 a.2.2.2 (dR th m a.2.2.2) (.ptr 4 0),fL 0 a.2.2.2 (nQ th (dR th m a.2.2.2)) Bx.aG Bx.aG]:=by subst e;rfl
theorem y8:fI P Bx.bO 10 uT:=by
 refine fS func10 ?_;rintro⟨th,m,fu⟩ ⟨(hd:Ds.bm th m fu),(hp:3<=Ds.eF th),(h1:(dG th m).2.1=true),(R:nF th m (dG th m).2.2.2),_⟩ X hX hz
 have fin:Safe P 10 X (dO uT (th,m,fu)) (qH th m fu (dG th m).1 (dG th m).2.1 (dG th m).2.2.1 (dG th m).2.2.2 Bx.aG):=by
  have f:=av7 (fu:=fu) (rfl:dG th m=dG th m);generalize dG th m=a at h1 R f;have⟨wh,on,ep,pg⟩:=a;have h1:on=true:=h1;subst h1;refine Ds.cF hz hX aha y6 func10 (av6 th m fu wh true ep pg Bx.aG) ⟨λh=>(by cases h),λ_=>⟨rfl,rfl,hd,R,λh=>(by cases h),λ_=> ?_⟩⟩;exact bD 3 rfl (le_refl _) rfl f
 have step:∀(i:Int) (s:Mk),i=0\/i=1->(i=0->Safe P 10 X (dO uT (th,m,fu)) (cSo th m fu 1 (mk1 th m s i).1 (mk1 th m s i).2.1 (mk1 th m s i).2.2.1 (mk1 th m s i).2.2.2 Bx.aG))->(i=1->Safe P 10 X (dO uT (th,m,fu)) (qH th m fu (mk1 th m s i).1 (mk1 th m s i).2.1 (mk1 th m s i).2.2.1 (mk1 th m s i).2.2.2 Bx.aG))->
  Safe P 10 X (dO uT (th,m,fu)) (cSo th m fu i s.1 s.2.1 s.2.2.1 s.2.2.2 Bx.aG):=by
  rintro i ⟨wh,on,ep,pg⟩ hi H0 H1;have hI:aA i:=rA (by omega) (by omega);have hI1:aA (i+1):=rA (by omega) (by omega)
  have keep:mk1 th m (wh,on,ep,pg) i=(wh,on,ep,pg)->(decide (i+1<2)=true->Safe P 10 X (dO uT (th,m,fu)) (cSo th m fu (i+1) wh on ep pg Bx.aG))/\(decide (i+1<2)=false->Safe P 10 X (dO uT (th,m,fu)) (qH th m fu wh on ep pg Bx.aG)):=λe=>by
   rw[e]at H0 H1;refine⟨λh=> ?_,λh=> ?_⟩;have:i=0:=by have:=of_decide_eq_true h;omega
   subst this;exact H0 rfl;have:i=1:=by have:=of_decide_eq_false h;omega
   subst this;exact H1 rfl
  have take:mk1 th m (wh,on,ep,pg) i=(i,true,Ds.ga th m i,Ds.mO th m i)->Ds.iS th m i=true->(decide (i+1<2)=true->Safe P 10 X (dO uT (th,m,fu)) (cSo th m fu (i+1) i (Ds.iS th m i) (Ds.ga th m i) (Ds.mO th m i) Bx.aG))/\(decide (i+1<2)=false->Safe P 10 X (dO uT (th,m,fu)) (qH th m fu i (Ds.iS th m i) (Ds.ga th m i) (Ds.mO th m i) Bx.aG)):=λe e2=>by
   rw[e]at H0 H1;rw[e2];refine⟨λh=> ?_,λh=> ?_⟩;have:i=0:=by have:=of_decide_eq_true h;omega
   subst this;exact H0 rfl;have:i=1:=by have:=of_decide_eq_false h;omega
   subst this;exact H1 rfl
  refine Ds.cF hz hX aha y6 func10 (aAt th m fu i wh on ep pg Bx.aG) ⟨rfl,rfl,hd,hI,λa=>⟨λb=>⟨λc=>⟨hI1,take (qb (beq_iff_eq.1 a) b (.inl (nf0 c))) b⟩,λc=>⟨λd=>⟨hI1,take (qb (beq_iff_eq.1 a) b (.inr (of_decide_eq_true d))) b⟩,λd=>⟨hI1,keep (y7 ?_)⟩⟩⟩,λb=>⟨hI1,keep (y7 ?_)⟩⟩,λa=>⟨hI1,keep (y7 ?_)⟩⟩;rintro⟨_,_,x|x⟩;have x:on=false:=x;rw[x]at c;cases c;exact of_decide_eq_false d x;rintro⟨_,x,_⟩;rw[x]at b;cases b;rintro⟨x,_⟩;exact beq_eq_false_iff_ne.1 a x
 refine Ds.cF hz hX aha y6 func10 (aAs th m fu) ⟨rfl,rfl,hd,λh=>absurd (of_decide_eq_true h) (by omega),λ_=> ?_⟩;exact step 0 (0,false,0,0) (.inl rfl) (λ_=>step 1 _ (.inr rfl) (λh=>by omega) (λ_=>fin)) (λh=>by omega)
def mSt:List AV->RM (XA1×List Nat)
 |[.ptr p 0]=>.look p λo=>match o with
  |some (.aq [.ptr d 0,wh,on,ep,pg,.ah .u64 16 br,.ptr t 0] _)=>.look t λo=>match o with
   |some (.aq [.ptr _ 0,aa,.ah .u64 16 fr,.ah .u64 16 fs,.ah .u64 16 gn] _)=>(Ds.sG [.ptr d 0]).bind λ((th,m,fu),σ)=>match wh.cC,on.fM,ep.cC,pg.cC,aa.cC,σ with
    |some (_,_,wh),some (_,on),some (_,_,ep),some (_,_,pg),some (_,_,aa),d::σ=>.ret ((th,m,fu,wh,on,ep,pg,br,aa,fr,fs,gn),p::d::t::σ)|_,_,_,_,_,_=>.fail ""
   |_=>.fail ""
  |_=>.fail ""
 |_=>.fail ""
abbrev XSK:Type:=XA1×ByteArray
abbrev XSV:Type:=XA1×ByteArray×ByteArray
def mSK:List AV->RM (XSK×List Nat)
 |[s,.s (.str k)]=>(mSt [s]).bind λ(X,σ)=>.ret ((X,k),σ)|_=>.fail ""
def mSV:List AV->RM (XSV×List Nat)
 |[s,.s (.str k),.s (.str v)]=>(mSt [s]).bind λ(X,σ)=>.ret ((X,k,v),σ)|_=>.fail ""
abbrev hX:XA1->List ak:=λ(th,m,fu,wh,on,ep,pg,br,aa,fr,fs,gn)=>jM th m fu wh on ep pg br aa fr fs gn
abbrev av9:Spec XSK:=⟨λ(_,k)=>[.ptr 0 0,.s (.str k)],λ(x,_)=>hX x,λ((th,m,fu,_,_,_,_,_,aa,_),_)=>[Ds.bm th m fu,0<=aa/\aa<=65536],λ(x,_)=>hX x,
 λ((th,m,_,_,_,_,_,_,aa,_),k)=>.bq [.s (.str (gtV th m aa k)),.s (.bool (gtB th m aa k)),aM (gtE th m aa k)]⟩
abbrev ayA:Spec XSK:=⟨λ(_,k)=>[.ptr 0 0,.s (.str k)],λ(x,_)=>hX x,λ((th,m,fu,_,_,_,_,_,aa,_),_)=>[Ds.bm th m fu,0<=aa/\aa<=65536],
 λ((th,m,fu,wh,on,ep,pg,br,aa,fr,fs,gn),k)=>jM th m fu wh on ep pg br aa fr fs gn++[.vec (.au cE (m8 th m aa k)) Lf.eE],λ((th,m,_,_,_,_,_,_,aa,_),k)=>.bq [.vec 5,aM (vZ th m aa k)]⟩
abbrev aAu:Spec XSV:=⟨λ(_,k,v)=>[.ptr 0 0,.s (.str k),.s (.str v)],λ(x,_)=>hX x,λ((th,m,fu,_,_,_,_,_,aa,fr,_),_)=>[Ds.bm th m fu,Bx.okW fr,0<=aa/\aa<=65536],
 λ((th,m,fu,wh,on,ep,pg,br,aa,fr,fs,gn),k,v)=>jM th (op0 th k (some v) m fu aa fr fs gn) (op1 th k (some v) m fu aa fr fs gn) wh on ep pg br (vN th k (some v) m fu aa fr fs gn) (op2 th k (some v) m fu aa fr fs gn) (op3 th k (some v) m fu aa fr fs gn) (op4 th k (some v) m fu aa fr fs gn),
 λ((th,m,fu,_,_,_,_,_,aa,fr,fs,gn),k,v)=>aM (opE th k (some v) m fu aa fr fs gn)⟩
abbrev aAv:Spec XSK:=⟨λ(_,k)=>[.ptr 0 0,.s (.str k)],λ(x,_)=>hX x,λ((th,m,fu,_,_,_,_,_,aa,fr,_),_)=>[Ds.bm th m fu,Bx.okW fr,0<=aa/\aa<=65536],
 λ((th,m,fu,wh,on,ep,pg,br,aa,fr,fs,gn),k)=>jM th (op0 th k none m fu aa fr fs gn) (op1 th k none m fu aa fr fs gn) wh on ep pg br (vN th k none m fu aa fr fs gn) (op2 th k none m fu aa fr fs gn) (op3 th k none m fu aa fr fs gn) (op4 th k none m fu aa fr fs gn),
 λ((th,m,fu,_,_,_,_,_,aa,fr,fs,gn),k)=>aM (opE th k none m fu aa fr fs gn)⟩
abbrev awa:Spec XA1:=⟨λ_=>[.ptr 0 0],hX,λ_=>[],hX,λ(_,_,_,_,_,ep,_)=>aM ep⟩
def jN(th:Th)(m:As)(br:Ws)(aa:Int):Ws:=Bx.bR .andNot (Bx.bR .andNot (Bx.bR .andNot (Bx.bk (Ds.eF th)) (Bx.bk 2)) br) (dR th m aa)
abbrev awb:Spec XA1:=⟨λ_=>[.ptr 0 0],hX,λ(th,m,fu,_,_,_,_,br,aa,_)=>[Ds.bm th m fu,0<=aa/\aa<=65536,zm th m aa=0,Bx.okW (jN th m br aa)],hX,λ(th,m,_,_,_,_,_,br,aa,_)=>aM (Bx.lN (jN th m br aa))⟩
def mPt:List AV->RM (XK×List Nat)
 |[t,.s (.str key),.s (.str val)]=>(mT [t]).bind λ(X,σ)=>.ret ((X,key,val),σ)|_=>.fail ""
def ahb:aK:=[(39,bY aod mGt),(47,bY sLs mGt),(33,bY aob mPt),(48,bY aoc mGt),(29,atv),(22,ae6),(30,avZ),(31,aor),(32,ayj)]
theorem aAw(th:Th)(m:As)(fu wh:Int)(on:Bool)(ep pg:Int)(br:Ws)(aa:Int)(fr fs gn:Ws)(k:ByteArray):run P ahb.sum f17 [] (start f17 [.ptr 0 0,.s (.str k)] (jM th m fu wh on ep pg br aa fr fs gn))=
 Tree.ab (bp (some [AV.ptr 0 0,.s (.str k)])) (.ab (bp (some (hT th m fu aa fr fs gn))) (.ab (Ds.bm th m fu) (.ab ((0:Int)<=aa/\aa<=65536) (.ret (jM th m fu wh on ep pg br aa fr fs gn) (.bq [.s (.str (gtV th m aa k)),.s (.bool (gtB th m aa k)),aM (gtE th m aa k)]))))):=by kernel_rfl
theorem aAx(th:Th)(m:As)(fu wh:Int)(on:Bool)(ep pg:Int)(br:Ws)(aa:Int)(fr fs gn:Ws)(k:ByteArray):run P ahb.sum f25 [] (start f25 [.ptr 0 0,.s (.str k)] (jM th m fu wh on ep pg br aa fr fs gn))=
 Tree.ab (bp (some [AV.ptr 0 0,.s (.str k)])) (.ab (bp (some (hT th m fu aa fr fs gn))) (.ab (Ds.bm th m fu) (.ab ((0:Int)<=aa/\aa<=65536) (.ret (jM th m fu wh on ep pg br aa fr fs gn++[.vec (.au cE (m8 th m aa k)) 76]) (.bq [.vec 5,aM (vZ th m aa k)]))))):=by kernel_rfl
theorem aAy(th:Th)(m:As)(fu wh:Int)(on:Bool)(ep pg:Int)(br:Ws)(aa:Int)(fr fs gn:Ws)(k v:ByteArray):run P ahb.sum f15 [] (start f15 [.ptr 0 0,.s (.str k),.s (.str v)] (jM th m fu wh on ep pg br aa fr fs gn))=
 Tree.ab (bp (some [AV.ptr 0 0,.s (.str k),.s (.str v)])) (.ab (bp (some (hT th m fu aa fr fs gn))) (.ab (Ds.bm th m fu) (.ab (Bx.okW fr) (.ab ((0:Int)<=aa/\aa<=65536) (.ret (jM th (op0 th k (some v) m fu aa fr fs gn) (op1 th k (some v) m fu aa fr fs gn) wh on ep pg br (vN th k (some v) m fu aa fr fs gn) (op2 th k (some v) m fu aa fr fs gn) (op3 th k (some v) m fu aa fr fs gn) (op4 th k (some v) m fu aa fr fs gn)) (aM (opE th k (some v) m fu aa fr fs gn))))))):=by kernel_rfl
theorem aAz(th:Th)(m:As)(fu wh:Int)(on:Bool)(ep pg:Int)(br:Ws)(aa:Int)(fr fs gn:Ws)(k:ByteArray):run P ahb.sum f27 [] (start f27 [.ptr 0 0,.s (.str k)] (jM th m fu wh on ep pg br aa fr fs gn))=
 Tree.ab (bp (some [AV.ptr 0 0,.s (.str k)])) (.ab (bp (some (hT th m fu aa fr fs gn))) (.ab (Ds.bm th m fu) (.ab (Bx.okW fr) (.ab ((0:Int)<=aa/\aa<=65536) (.ret (jM th (op0 th k none m fu aa fr fs gn) (op1 th k none m fu aa fr fs gn) wh on ep pg br (vN th k none m fu aa fr fs gn) (op2 th k none m fu aa fr fs gn) (op3 th k none m fu aa fr fs gn) (op4 th k none m fu aa fr fs gn)) (aM (opE th k none m fu aa fr fs gn))))))):=by kernel_rfl
theorem aAA(th:Th)(m:As)(fu wh:Int)(on:Bool)(ep pg:Int)(br:Ws)(aa:Int)(fr fs gn:Ws):run P ahb.sum f13 [] (start f13 [.ptr 0 0] (jM th m fu wh on ep pg br aa fr fs gn))=
 Tree.ret (jM th m fu wh on ep pg br aa fr fs gn) (aM ep):=by kernel_rfl
theorem aAB(th:Th)(m:As)(fu wh:Int)(on:Bool)(ep pg:Int)(br:Ws)(aa:Int)(fr fs gn:Ws):run P ahb.sum f14 [] (start f14 [.ptr 0 0] (jM th m fu wh on ep pg br aa fr fs gn))=
 Tree.ab (bp (some [AV.ptr 0 0])) (.ab (bp (some (hT th m fu aa fr fs gn))) (.ab (Ds.bm th m fu) (.ab ((0:Int)<=aa/\aa<=65536) (.ite (zm th m aa !=0) (.ret (jM th m fu wh on ep pg br aa fr fs gn++[.aq [.ah .u64 16 (dR th m aa)] 67]) (.s (.aR .i64 0))) (.ab (bp (some [AV.ptr 0 0])) (.ab (bp (some (Ds.hD th m fu))) (.ab (Ds.bm th m fu) (.ab (Bx.okW (Bx.bR BinOp.andNot (Bx.bR BinOp.andNot (Bx.bR BinOp.andNot (Bx.bk (Ds.eF th)) (Bx.bk 2)) br) (dR th m aa))) (.ret (jM th m fu wh on ep pg br aa fr fs gn++[.aq [.ah .u64 16 (dR th m aa)] 67]) (aM (Bx.lN (Bx.bR BinOp.andNot (Bx.bR BinOp.andNot (Bx.bR BinOp.andNot (Bx.bk (Ds.eF th)) (Bx.bk 2)) br) (dR th m aa))))))))))))):=by kernel_rfl
end Ts
namespace Go.Sx
open Go
def y9(s:Nat->List AV->RM bQ):Nat->List AV->RM bQ:=λbase args=>(s base args).bind λq=>sq (q.up.map (·.1)) λos=>.ret ⟨(some os=some (q.up.map (·.2)))::q.ab,[],q.new,q.r⟩
section
variable{ρ:Nat->Value}{H:aS}{G:Nat->Prop}{w:World}{P:Program}{Z:bh}
theorem za:∀{up:List (Nat×ak)} {j:Nat} {o:ak},cw up j=some o->∃k:Nat,up[k]? =some (j,o)
 |[],j,o,h=>by simp[cw]at h
 |(i,x)::r,j,o,h=>by
  unfold cw at h;split at h;rename_i y hy;cases h;have⟨k,hk⟩:=za hy;exact⟨k+1,by simpa using hk⟩;split at h;rename_i e;cases h;exact⟨0,by rw[e];rfl⟩;cases h
theorem afi{f:FuncId}{s:Nat->List AV->RM bQ}(h:re P Z f s):re P Z f (y9 s):=by
 intro base args H q hq hn ρ G w vs dA hz hs hd;unfold y9 at hq;have⟨q0,h1,h2⟩:=RM.pT hq;have⟨os,h3,h4,h5⟩:=nv h2;simp only[RM.eval,Option.some.injEq]at h3;subst h3;have⟨hos,hn0⟩:=hn
 have same:cY H q0.up base q0.new=cY H [] base q0.new:=by
  funext j;unfold cY;cases hu:cw q0.up j with
  |none=>rfl|some o=>
   have⟨k,hk⟩:=za hu;have⟨g1,g2⟩:=h5 k j (by rw[getElem?_map,hk];rfl);have g3:H j=some o:=by rw[g1,hos,getElem?_map,hk];rfl
   have g4:¬(base<=j/\j<base+q0.new.length):=λhr=>by
    have:=dA (j - base) (by show j - base<q0.new.length;omega);rw[show base+(j - base)=j by omega,g3]at this;cases this
   show some o=if base<=j/\j<base+q0.new.length then _ else H j
   rw[if_neg g4,g3]
 have:=h base args H q0 h1 hn0 ρ G w vs dA hz hs hd;rw[same]at this;exact this
end
end Go.Sx
namespace Ts
open Go Go.Sx Go.Proofs Lf
abbrev eMk:TypeId:=64
abbrev ePS:TypeId:=26
abbrev hC(mo:Bool)(me mp other:Int):XA1->List ak:=λ(th,m,fu,wh,on,ep,pg,br,aa,fr,fs,gn)=>
 [.aq [.s (.bool mo),aM me,aM mp] eMk,.aq [.ptr 3 0] ePS,.aq [aM other] 3,fy 4 wh on ep pg br (.ptr 5 0),Ds.jI 6 7 fu,fL 4 aa fr fs gn,.vec (.au Ds.cS th) Ds.eS,.map Ds.kS m]
abbrev XC1:Type:=Bool×Bool×Int×Int×Int×XA1
abbrev sC1:Spec XC1:=⟨λ(b,_)=>[.s (.bool b),.ptr 0 0,.ptr 1 0,.ptr 2 0],λ(_,mo,me,mp,other,x)=>hC mo me mp other x,λ_=>[],λ(b,mo,me,mp,other,x)=>hC mo me mp other x++[.aq [.s (.bool b)] 4],λ_=>.fn 36 [.ptr 8 0,.ptr 0 0,.ptr 1 0,.ptr 2 0]⟩
def mC1:List AV->RM (XC1×List Nat)
 |[b,.ptr m 0,.ptr s 0,.ptr o 0]=>.look m λx=>match x with
  |some (.aq [mo,me,mp] _)=>.look s λx=>match x with
   |some (.aq [.ptr st 0] _)=>.look o λx=>match x with
    |some (.aq [ot] _)=>(mSt [.ptr st 0]).bind λ(X,σ)=>match b.fM,mo.fM,me.cC,mp.cC,ot.cC with
     |some (_,b),some (_,mo),some (_,_,me),some (_,_,mp),some (_,_,ot)=>.ret ((b,mo,me,mp,ot,X),m::s::o::σ)|_,_,_,_,_=>.fail ""
    |_=>.fail ""
   |_=>.fail ""
  |_=>.fail ""
 |_=>.fail ""
def mA1:List AV->RM (XA1×List Nat):=mSt
def tv:aK:=[(34,bY sRt mT),(35,y9 (bY sC1 mC1)),(38,aot),(37,atw),(24,bY sA1 mA1)]
def zW:List (Nat×Norm):=[(fA+8,⟨[],[],5,[]⟩),(abE+10001,⟨[],[1,3,4,56,57,60],5,[]⟩),(15,⟨[],[1,3,4],5,[]⟩),(6,⟨[],[1,3,4],5,[]⟩)]
def awc(th:Th)(m:As)(fu wh:Int)(on:Bool)(ep pg:Int)(br:Ws)(aa:Int)(fr fs gn:Ws)(mo:Bool)(me mp other:Int):bP:=⟨sl 78 [(1,.ptr 5 0),(3,.ptr 6 0),(4,.ptr 7 0)],jM th m fu wh on ep pg br aa fr fs gn++[.aq [.ptr 0 0] ePS,.aq [.s (.bool mo),aM me,aM mp] eMk,.aq [aM other] 3],hr f16 6,{}⟩
theorem aAC(b mo:Bool)(me mp other:Int)(th:Th)(m:As)(fu wh:Int)(on:Bool)(ep pg:Int)(br:Ws)(aa:Int)(fr fs gn:Ws):run P (aK.sum []) f35 [] (start f35 [.s (.bool b),.ptr 0 0,.ptr 1 0,.ptr 2 0] (hC mo me mp other (th,m,fu,wh,on,ep,pg,br,aa,fr,fs,gn)))=
 Tree.ret [.aq [.s (.bool mo),.s (.int .i64 me),.s (.int .i64 mp)] 64,.aq [.ptr 3 0] 26,.aq [.s (.int .i64 other)] 3,fy 4 wh on ep pg br (.ptr 5 0),Ds.jI 6 7 fu,fL 4 aa fr fs gn,.vec (.au Ds.cS th) Ds.eS,.map Ds.kS m,.aq [.s (.bool b)] 4] (.fn 36 [.ptr 8 0,.ptr 0 0,.ptr 1 0,.ptr 2 0]):=by kernel_rfl
theorem aAD(th:Th)(m:As)(fu wh:Int)(on:Bool)(ep pg:Int)(br:Ws)(aa:Int)(fr fs gn:Ws):run P tv.sum f16 zW (start f16 [.ptr 0 0] (jM th m fu wh on ep pg br aa fr fs gn)) (inl:=[36])=
 Tree.ite (decide (ep>=1099511627776)) (.ret (jM th m fu wh on ep pg br aa fr fs gn++[.aq [.ptr 0 0] 26]) (.s (.aR .i64 40))) (.ab (aA (ep+1)) (.ab (bp (some [AV.ptr 0 0])) (.ab (bp (some (hT th m fu aa fr fs gn))) (.ab (aA ((1:Int) - wh)) (.at (awc th m fu wh on ep pg br aa fr fs gn false (ep+1) aa ((1:Int) - wh))))))):=by kernel_rfl
theorem ayB(th:Th)(m:As)(fu wh:Int)(on:Bool)(ep pg:Int)(br:Ws)(aa:Int)(fr fs gn:Ws)(mo:Bool)(me mp other:Int):run P tv.sum f16 zW (awc th m fu wh on ep pg br aa fr fs gn mo me mp other) (inl:=[36])=
 Tree.ab (bp (some (ak.aq [.s (.bool mo),aM me,aM mp] (64:Nat)::ak.aq [.ptr 0 0] (26:Nat)::ak.aq [aM other] (3:Nat)::jM th m fu wh on ep pg br aa fr fs gn))) (.ab (bp (some [AV.s (.bool false),.ptr 0 0,.ptr 1 0,.ptr 2 0])) (.ab (bp (some [ak.aq [.s (.bool mo),aM me,aM mp] 64,.aq [.ptr 3 0] 26,.aq [aM other] 3,fy 4 wh on ep pg br (.ptr 5 0),Ds.jI 6 7 fu,fL 4 aa fr fs gn,.vec (.au Ds.cS th) Ds.eS,.map Ds.kS m])) (.ab (bp (some (ak.aq [.s (.bool mo),aM me,aM mp] (64:Nat)::ak.aq [.ptr 0 0] (26:Nat)::ak.aq [aM other] (3:Nat)::jM th m fu wh on ep pg br aa fr fs gn))) (.ab (bp (some [AV.s (.bool true),.ptr 0 0,.ptr 1 0,.ptr 2 0])) (.ab (bp (some [ak.aq [.s (.bool mo),aM me,aM mp] 64,.aq [.ptr 3 0] 26,.aq [aM other] 3,fy 4 wh on ep pg br (.ptr 5 0),Ds.jI 6 7 fu,fL 4 aa fr fs gn,.vec (.au Ds.cS th) Ds.eS,.map Ds.kS m])) (.ab ((0:Int)<=0) (.ab ((0:Int)<(↑(5:Nat):Int)) (.at (.mk (sl 78 [(1,.ptr 5 0),(3,.ptr 6 0),(4,.ptr 7 0),(56,.agg [.z6 38 [.ptr 1 0],.fn 36 [.ptr 8 0,.ptr 6 0,.ptr 5 0,.ptr 7 0],.z6 38 [.ptr 1 0],.fn 36 [.ptr 9 0,.ptr 6 0,.ptr 5 0,.ptr 7 0],.z6 38 [.ptr 1 0]]),(57,aM 0),(60,.z6 38 [.ptr 1 0])]) (jM th m fu wh on ep pg br aa fr fs gn++[.aq [.ptr 0 0] 26,.aq [.s (.bool mo),aM me,aM mp] 64,.aq [aM other] 3,.aq [.s (.bool false)] 4,.aq [.s (.bool true)] 4]) (sj f16 10 1) (.mk none false 0 [] 10)))))))))):=by kernel_rfl
abbrev fFl:AV:=.z6 38 [.ptr 1 0]
abbrev fTl(i:Nat):AV:=.fn 36 [.ptr i 0,.ptr 6 0,.ptr 5 0,.ptr 7 0]
abbrev hCo(th:Th)(m:As)(fu wh:Int)(on:Bool)(ep pg:Int)(br:Ws)(aa:Int)(fr fs gn:Ws)(mo:Bool)(me mp other:Int):List ak:=jM th m fu wh on ep pg br aa fr fs gn++[.aq [.ptr 0 0] ePS,.aq [.s (.bool mo),aM me,aM mp] eMk,.aq [aM other] 3]
def aty(th:Th)(m:As)(fu wh:Int)(on:Bool)(ep pg:Int)(br:Ws)(aa:Int)(fr fs gn:Ws)(mo:Bool)(me mp other:Int):bP:=⟨sl 78 [(1,.ptr 5 0),(3,.ptr 6 0),(4,.ptr 7 0),(56,.agg [fFl,fTl 8,fFl,fTl 9,fFl]),(57,aM 0),(60,fFl)],hCo th m fu wh on ep pg br aa fr fs gn mo me mp other++[.aq [.s (.bool false)] 4,.aq [.s (.bool true)] 4],sj f16 10 1,⟨none,false,0,[],10⟩⟩
def aoN(th:Th)(m:As)(fu wh:Int)(on:Bool)(ep pg:Int)(br:Ws)(aa:Int)(fr fs gn:Ws)(mo:Bool)(me mp other:Int):bP:=⟨sl 78 [(1,.ptr 5 0),(3,.ptr 6 0),(4,.ptr 7 0),(56,.agg [fFl,fTl 8,fFl,fTl 9,fFl]),(57,aM 1),(60,fTl 8)],hCo th m fu wh on ep pg br aa fr fs gn mo me mp other++[.aq [.s (.bool false)] 4,.aq [.s (.bool true)] 4],sj f16 10 1,⟨none,false,0,[],10⟩⟩
def aoO(th:Th)(m:As)(fu wh:Int)(on:Bool)(ep pg:Int)(br:Ws)(aa:Int)(fr fs gn:Ws)(mo:Bool)(me mp other:Int):bP:=⟨sl 78 [(1,.ptr 5 0),(3,.ptr 6 0),(4,.ptr 7 0),(56,.agg [fFl,fTl 8,fFl,fTl 9,fFl]),(57,aM 2),(60,fFl)],hCo th m fu wh on ep pg br aa fr fs gn mo me mp other++[.aq [.s (.bool false)] 4,.aq [.s (.bool true)] 4],sj f16 10 1,⟨none,false,0,[],10⟩⟩
def aoP(th:Th)(m:As)(fu wh:Int)(on:Bool)(ep pg:Int)(br:Ws)(aa:Int)(fr fs gn:Ws)(mo:Bool)(me mp other:Int):bP:=⟨sl 78 [(1,.ptr 5 0),(3,.ptr 6 0),(4,.ptr 7 0),(56,.agg [fFl,fTl 8,fFl,fTl 9,fFl]),(57,aM 3),(60,fTl 9)],hCo th m fu wh on ep pg br aa fr fs gn mo me mp other++[.aq [.s (.bool false)] 4,.aq [.s (.bool true)] 4],sj f16 10 1,⟨none,false,0,[],10⟩⟩
def aoQ(th:Th)(m:As)(fu wh:Int)(on:Bool)(ep pg:Int)(br:Ws)(aa:Int)(fr fs gn:Ws)(mo:Bool)(me mp other:Int):bP:=⟨sl 78 [(1,.ptr 5 0),(3,.ptr 6 0),(4,.ptr 7 0),(56,.agg [fFl,fTl 8,fFl,fTl 9,fFl]),(57,aM 4),(60,fFl)],hCo th m fu wh on ep pg br aa fr fs gn mo me mp other++[.aq [.s (.bool false)] 4,.aq [.s (.bool true)] 4],sj f16 10 1,⟨none,false,0,[],10⟩⟩
def zb(th:Th)(m:As)(fu wh:Int)(on:Bool)(ep pg:Int)(br:Ws)(aa:Int)(fr fs gn:Ws)(mo:Bool)(me mp other:Int):bP:=⟨sl 78 [(1,.ptr 5 0),(3,.ptr 6 0),(4,.ptr 7 0)],hCo th m fu wh on ep pg br aa fr fs gn mo me mp other,hr f16 15,{}⟩
theorem aAE(th:Th)(m:As)(fu wh:Int)(on:Bool)(ep pg:Int)(br:Ws)(aa:Int)(fr fs gn:Ws)(mo:Bool)(me mp other:Int):run P tv.sum f16 zW (aty th m fu wh on ep pg br aa fr fs gn mo me mp other) (inl:=[36])=
 Tree.ab (bp (some [AV.ptr 0 0])) (.ab (bp (some (Ds.hD th m fu))) (.ab (Ds.bm th m fu) (.ite (Ds.zD fu !=0) (.ab (bp (some [AV.ptr 0 0])) (.ab (bp (some (jM (Ds.lM th m fu) (Ds.oa m fu) (Ds.dC fu) wh on ep pg br aa fr fs gn))) (.ab (Ds.bm (Ds.lM th m fu) (Ds.oa m fu) (Ds.dC fu)) (.ab (nF (Ds.lM th m fu) (Ds.oa m fu) pg) (.ret [fy 1 wh on ep pg (dR (Ds.lM th m fu) (Ds.oa m fu) pg) (.ptr 10 0),Ds.jI 3 4 (Ds.dC fu),fL 1 aa fr fs gn,.vec (.au Ds.cS (Ds.lM th m fu)) Ds.eS,.map Ds.kS (Ds.oa m fu),.aq [.ptr 0 0] 26,.aq [.s (.bool mo),aM me,aM mp] 64,.aq [aM other] 3,.aq [.s (.bool false)] 4,.aq [.s (.bool true)] 4,fL 1 pg (nQ (Ds.lM th m fu) (dR (Ds.lM th m fu) (Ds.oa m fu) pg)) Bx.aG Bx.aG] (aM (Ds.zD fu))))))) (.ab (aA ((0:Int)+1)) (.ite true (.ab ((0:Int)<=1) (.ab ((1:Int)<(↑(5:Nat):Int)) (.at (aoN (Ds.lM th m fu) (Ds.oa m fu) (Ds.dC fu) wh on ep pg br aa fr fs gn mo me mp other)))) (.at (zb (Ds.lM th m fu) (Ds.oa m fu) (Ds.dC fu) wh on ep pg br aa fr fs gn mo me mp other))))))):=by kernel_rfl
theorem aAF(th:Th)(m:As)(fu wh:Int)(on:Bool)(ep pg:Int)(br:Ws)(aa:Int)(fr fs gn:Ws)(mo:Bool)(me mp other:Int):run P tv.sum f16 zW (aoN th m fu wh on ep pg br aa fr fs gn mo me mp other) (inl:=[36])=
 Tree.ab (bp (some [AV.ptr 0 0,aM other,.agg [.s (.bool false),aM me,aM mp]])) (.ab (bp (some (Ds.hD th m fu))) (.ab (Ds.bm th m fu) (.ab (aA other) (.ite (Ds.zG th fu other false me mp !=0) (.ab (bp (some [AV.ptr 0 0])) (.ab (bp (some (jM th (Ds.ku th m fu other false me mp) (Ds.pV th fu other false me mp) wh on ep pg br aa fr fs gn))) (.ab (Ds.bm th (Ds.ku th m fu other false me mp) (Ds.pV th fu other false me mp)) (.ab (nF th (Ds.ku th m fu other false me mp) pg) (.ret [fy 1 wh on ep pg (dR th (Ds.ku th m fu other false me mp) pg) (.ptr 10 0),Ds.jI 3 4 (Ds.pV th fu other false me mp),fL 1 aa fr fs gn,.vec (.au Ds.cS th) Ds.eS,.map Ds.kS (Ds.ku th m fu other false me mp),.aq [.ptr 0 0] 26,.aq [.s (.bool false),aM me,aM mp] 64,.aq [aM other] 3,.aq [.s (.bool false)] 4,.aq [.s (.bool true)] 4,fL 1 pg (nQ th (dR th (Ds.ku th m fu other false me mp) pg)) Bx.aG Bx.aG] (aM (Ds.zG th fu other false me mp))))))) (.ab (aA ((1:Int)+1)) (.ite true (.ab ((0:Int)<=2) (.ab ((2:Int)<(↑(5:Nat):Int)) (.at (aoO th (Ds.ku th m fu other false me mp) (Ds.pV th fu other false me mp) wh on ep pg br aa fr fs gn false me mp other)))) (.at (zb th (Ds.ku th m fu other false me mp) (Ds.pV th fu other false me mp) wh on ep pg br aa fr fs gn false me mp other)))))))):=by kernel_rfl
theorem aAG(th:Th)(m:As)(fu wh:Int)(on:Bool)(ep pg:Int)(br:Ws)(aa:Int)(fr fs gn:Ws)(mo:Bool)(me mp other:Int):run P tv.sum f16 zW (aoO th m fu wh on ep pg br aa fr fs gn mo me mp other) (inl:=[36])=
 Tree.ab (bp (some [AV.ptr 0 0])) (.ab (bp (some (Ds.hD th m fu))) (.ab (Ds.bm th m fu) (.ite (Ds.zD fu !=0) (.ab (bp (some [AV.ptr 0 0])) (.ab (bp (some (jM (Ds.lM th m fu) (Ds.oa m fu) (Ds.dC fu) wh on ep pg br aa fr fs gn))) (.ab (Ds.bm (Ds.lM th m fu) (Ds.oa m fu) (Ds.dC fu)) (.ab (nF (Ds.lM th m fu) (Ds.oa m fu) pg) (.ret [fy 1 wh on ep pg (dR (Ds.lM th m fu) (Ds.oa m fu) pg) (.ptr 10 0),Ds.jI 3 4 (Ds.dC fu),fL 1 aa fr fs gn,.vec (.au Ds.cS (Ds.lM th m fu)) Ds.eS,.map Ds.kS (Ds.oa m fu),.aq [.ptr 0 0] 26,.aq [.s (.bool mo),aM me,aM mp] 64,.aq [aM other] 3,.aq [.s (.bool false)] 4,.aq [.s (.bool true)] 4,fL 1 pg (nQ (Ds.lM th m fu) (dR (Ds.lM th m fu) (Ds.oa m fu) pg)) Bx.aG Bx.aG] (aM (Ds.zD fu))))))) (.ab (aA ((2:Int)+1)) (.ite true (.ab ((0:Int)<=3) (.ab ((3:Int)<(↑(5:Nat):Int)) (.at (aoP (Ds.lM th m fu) (Ds.oa m fu) (Ds.dC fu) wh on ep pg br aa fr fs gn mo me mp other)))) (.at (zb (Ds.lM th m fu) (Ds.oa m fu) (Ds.dC fu) wh on ep pg br aa fr fs gn mo me mp other))))))):=by kernel_rfl
theorem aAH(th:Th)(m:As)(fu wh:Int)(on:Bool)(ep pg:Int)(br:Ws)(aa:Int)(fr fs gn:Ws)(mo:Bool)(me mp other:Int):run P tv.sum f16 zW (aoP th m fu wh on ep pg br aa fr fs gn mo me mp other) (inl:=[36])=
 Tree.ab (bp (some [AV.ptr 0 0,aM other,.agg [.s (.bool true),aM me,aM mp]])) (.ab (bp (some (Ds.hD th m fu))) (.ab (Ds.bm th m fu) (.ab (aA other) (.ite (Ds.zG th fu other true me mp !=0) (.ab (bp (some [AV.ptr 0 0])) (.ab (bp (some (jM th (Ds.ku th m fu other true me mp) (Ds.pV th fu other true me mp) wh on ep pg br aa fr fs gn))) (.ab (Ds.bm th (Ds.ku th m fu other true me mp) (Ds.pV th fu other true me mp)) (.ab (nF th (Ds.ku th m fu other true me mp) pg) (.ret [fy 1 wh on ep pg (dR th (Ds.ku th m fu other true me mp) pg) (.ptr 10 0),Ds.jI 3 4 (Ds.pV th fu other true me mp),fL 1 aa fr fs gn,.vec (.au Ds.cS th) Ds.eS,.map Ds.kS (Ds.ku th m fu other true me mp),.aq [.ptr 0 0] 26,.aq [.s (.bool true),aM me,aM mp] 64,.aq [aM other] 3,.aq [.s (.bool false)] 4,.aq [.s (.bool true)] 4,fL 1 pg (nQ th (dR th (Ds.ku th m fu other true me mp) pg)) Bx.aG Bx.aG] (aM (Ds.zG th fu other true me mp))))))) (.ab (aA ((3:Int)+1)) (.ite true (.ab ((0:Int)<=4) (.ab ((4:Int)<(↑(5:Nat):Int)) (.at (aoQ th (Ds.ku th m fu other true me mp) (Ds.pV th fu other true me mp) wh on ep pg br aa fr fs gn true me mp other)))) (.at (zb th (Ds.ku th m fu other true me mp) (Ds.pV th fu other true me mp) wh on ep pg br aa fr fs gn true me mp other)))))))):=by kernel_rfl
theorem aAI(th:Th)(m:As)(fu wh:Int)(on:Bool)(ep pg:Int)(br:Ws)(aa:Int)(fr fs gn:Ws)(mo:Bool)(me mp other:Int):run P tv.sum f16 zW (aoQ th m fu wh on ep pg br aa fr fs gn mo me mp other) (inl:=[36])=
 Tree.ab (bp (some [AV.ptr 0 0])) (.ab (bp (some (Ds.hD th m fu))) (.ab (Ds.bm th m fu) (.ite (Ds.zD fu !=0) (.ab (bp (some [AV.ptr 0 0])) (.ab (bp (some (jM (Ds.lM th m fu) (Ds.oa m fu) (Ds.dC fu) wh on ep pg br aa fr fs gn))) (.ab (Ds.bm (Ds.lM th m fu) (Ds.oa m fu) (Ds.dC fu)) (.ab (nF (Ds.lM th m fu) (Ds.oa m fu) pg) (.ret [fy 1 wh on ep pg (dR (Ds.lM th m fu) (Ds.oa m fu) pg) (.ptr 10 0),Ds.jI 3 4 (Ds.dC fu),fL 1 aa fr fs gn,.vec (.au Ds.cS (Ds.lM th m fu)) Ds.eS,.map Ds.kS (Ds.oa m fu),.aq [.ptr 0 0] 26,.aq [.s (.bool mo),aM me,aM mp] 64,.aq [aM other] 3,.aq [.s (.bool false)] 4,.aq [.s (.bool true)] 4,fL 1 pg (nQ (Ds.lM th m fu) (dR (Ds.lM th m fu) (Ds.oa m fu) pg)) Bx.aG Bx.aG] (aM (Ds.zD fu))))))) (.ab (aA ((4:Int)+1)) (.ite false (.stuck ("store.go:121" ++ " " ++ "index: no cell")) (.at (zb (Ds.lM th m fu) (Ds.oa m fu) (Ds.dC fu) wh on ep pg br aa fr fs gn mo me mp other))))))):=by kernel_rfl
theorem ayC(th:Th)(m:As)(fu wh:Int)(on:Bool)(ep pg:Int)(br:Ws)(aa:Int)(fr fs gn:Ws)(mo:Bool)(me mp other:Int):run P tv.sum f16 zW (zb th m fu wh on ep pg br aa fr fs gn mo me mp other) (inl:=[36])=
 Tree.ab (bp (some [AV.ptr 0 0])) (.ab (bp (some (jM th m fu other mo me mp br aa fr fs gn))) (.ab (Ds.bm th m fu) (.ab (nF th m mp) (.ret [fy 1 other mo me mp (dR th m mp) (.ptr 8 0),Ds.jI 3 4 fu,fL 1 aa fr fs gn,.vec (.au Ds.cS th) Ds.eS,.map Ds.kS m,.aq [.ptr 0 0] 26,.aq [.s (.bool mo),aM me,aM mp] 64,.aq [aM other] 3,fL 1 mp (nQ th (dR th m mp)) Bx.aG Bx.aG] (.s (.aR .i64 0)))))):=by kernel_rfl
abbrev D3:Type:=Th×As×Int
def cA(s:D3):D3:=(Ds.lM s.1 s.2.1 s.2.2,Ds.oa s.2.1 s.2.2,Ds.dC s.2.2)
def cB(s:D3)(k:Int)(b:Bool)(me mp:Int):D3:=(s.1,Ds.ku s.1 s.2.1 s.2.2 k b me mp,Ds.pV s.1 s.2.2 k b me mp)
theorem aa4{s:D3}(h:Ds.bm s.1 s.2.1 s.2.2):Ds.bm (cA s).1 (cA s).2.1 (cA s).2.2:=Ds.asO h
theorem ai9{s:D3}{k:Int}{b:Bool}{me mp:Int}(h:Ds.bm s.1 s.2.1 s.2.2):Ds.bm (cB s k b me mp).1 (cB s k b me mp).2.1 (cB s k b me mp).2.2:=Ds.adV h
theorem ayD{Z:bh}:fI P Z 35 sC1:=by
 refine fS func35 ?_;rintro⟨b,mo,me,mp,other,th,m,fu,wh,on,ep,pg,br,aa,fr,fs,gn⟩ _ X hX hz;exact Ds.cF hz hX (by intro y hy;cases hy) aK.Ok.nil func35 (aAC b mo me mp other th m fu wh on ep pg br aa fr fs gn) (bD 8 rfl (le_refl _) rfl rfl)
theorem jO:tv.Ok P Bx.bO:=aK.Ok.cons (arQ.sum mT) (aK.Ok.cons (afi (ayD.sum mC1)) (aK.Ok.cons (Ds.adT.sum Ds.sG) (aK.Ok.cons (Ds.asR.sum mGs) (aK.Ok.cons (aoL.sum mA1) aK.Ok.nil))))
theorem pD:∀x∈zW,5<=x.2.m:=by intro y hy;simp[zW]at hy;rcases hy with rfl|rfl|rfl|rfl<;>exact le_refl _
theorem qc:ahb.Ok P Bx.bO:=aK.Ok.cons (avV.sum mGt) (aK.Ok.cons (arO.sum mGt) (aK.Ok.cons (aeX.sum mPt) (aK.Ok.cons (aeY.sum mGt) (aK.Ok.cons (ae5.sum mT) (aK.Ok.cons (Ds.adW.sum Ds.sG) (aK.Ok.cons Bx.sW.sum (aK.Ok.cons Bx.wC.sum (aK.Ok.cons Bx.anx.sum aK.Ok.nil))))))))
theorem aja:fI P Bx.bO 17 av9:=by
 refine fS func17 ?_;rintro⟨⟨th,m,fu,wh,on,ep,pg,br,aa,fr,fs,gn⟩,k⟩ ⟨(hd:Ds.bm th m fu),(hr:0<=aa/\aa<=65536),_⟩ X hX hz;exact Ds.cF hz hX (by intro y hy;cases hy) qc func17 (aAw th m fu wh on ep pg br aa fr fs gn k) ⟨rfl,rfl,hd,hr,bD 5 rfl (le_refl _) rfl rfl⟩
theorem aoR:fI P Bx.bO 25 ayA:=by
 refine fS func25 ?_;rintro⟨⟨th,m,fu,wh,on,ep,pg,br,aa,fr,fs,gn⟩,k⟩ ⟨(hd:Ds.bm th m fu),(hr:0<=aa/\aa<=65536),_⟩ X hX hz;exact Ds.cF hz hX (by intro y hy;cases hy) qc func25 (aAx th m fu wh on ep pg br aa fr fs gn k) ⟨rfl,rfl,hd,hr,bD 5 rfl (le_refl _) rfl rfl⟩
theorem ar4:fI P Bx.bO 15 aAu:=by
 refine fS func15 ?_;rintro⟨⟨th,m,fu,wh,on,ep,pg,br,aa,fr,fs,gn⟩,k,v⟩ ⟨(hd:Ds.bm th m fu),(hf:Bx.okW fr),(hr:0<=aa/\aa<=65536),_⟩ X hX hz;exact Ds.cF hz hX (by intro y hy;cases hy) qc func15 (aAy th m fu wh on ep pg br aa fr fs gn k v) ⟨rfl,rfl,hd,hf,hr,bD 5 rfl (le_refl _) rfl rfl⟩
theorem ar5:fI P Bx.bO 27 aAv:=by
 refine fS func27 ?_;rintro⟨⟨th,m,fu,wh,on,ep,pg,br,aa,fr,fs,gn⟩,k⟩ ⟨(hd:Ds.bm th m fu),(hf:Bx.okW fr),(hr:0<=aa/\aa<=65536),_⟩ X hX hz;exact Ds.cF hz hX (by intro y hy;cases hy) qc func27 (aAz th m fu wh on ep pg br aa fr fs gn k) ⟨rfl,rfl,hd,hf,hr,bD 5 rfl (le_refl _) rfl rfl⟩
theorem aa5:fI P Bx.bO 13 awa:=by
 refine fS func13 ?_;rintro⟨th,m,fu,wh,on,ep,pg,br,aa,fr,fs,gn⟩ _ X hX hz;exact Ds.cF hz hX (by intro y hy;cases hy) qc func13 (aAA th m fu wh on ep pg br aa fr fs gn) (bD 5 rfl (le_refl _) rfl rfl)
theorem afj:fI P Bx.bO 14 awb:=by
 refine fS func14 ?_;rintro⟨th,m,fu,wh,on,ep,pg,br,aa,fr,fs,gn⟩ ⟨(hd:Ds.bm th m fu),(hr:0<=aa/\aa<=65536),(h0:zm th m aa=0),(hw:Bx.okW (jN th m br aa)),_⟩ X hX hz;refine Ds.cF hz hX (by intro y hy;cases hy) qc func14 (aAB th m fu wh on ep pg br aa fr fs gn) ⟨rfl,rfl,hd,hr,λh=> ?_,λ_=>⟨rfl,rfl,hd,hw, ?_⟩⟩;rw[h0]at h;cases h;exact bD 5 rfl (le_refl _) rfl rfl
def ayE:aK:=[(24,bY sA1 mA1)]
theorem aAJ(th:Th)(m:As)(fu wh:Int)(on:Bool)(ep pg:Int)(br:Ws)(aa:Int)(fr fs gn:Ws):run P ayE.sum f18 [] (start f18 [.ptr 0 0] (jM th m fu wh on ep pg br aa fr fs gn))=
 Tree.ab (bp (some [AV.ptr 0 0])) (.ab (bp (some (jM th m fu wh on ep pg br aa fr fs gn))) (.ab (Ds.bm th m fu) (.ab (nF th m pg) (.ret [fy 1 wh on ep pg (dR th m pg) (.ptr 5 0),Ds.jI 3 4 fu,fL 1 aa fr fs gn,.vec (.au Ds.cS th) Ds.eS,.map Ds.kS m,fL 1 pg (nQ th (dR th m pg)) Bx.aG Bx.aG] (.s (.aR .i64 0)))))):=by kernel_rfl
section
variable{th:Th}{F0:Int->Prop}{m:As}{fu aa:Int}{fr fs gn:Ws}{h:Nat}{E:List En}{ps:List Int}{po:Nat}
theorem Holds.zero(H:Holds th m aa h E ps po):(aa=0↔E=[])/\(E=[]->ps=[]):=by
 rcases H with⟨a,_,e,p,_⟩|⟨t,_,h2,_,_,h4,h5,_⟩;exact⟨⟨λ_=>e,λ_=>a⟩,λ_=>p⟩;have:=tc h h4;rw[<-h5]at this;exact⟨⟨λx=>by omega,λx=>absurd x this⟩,λx=>absurd x this⟩
end
abbrev thB:Th:=th0 1000
theorem pgB:Ds.eF thB=250:=by
 unfold Ds.eF;rw[show thB.length=1000 from List.length_replicate ..];rfl
theorem TI.none{th:Th}{f0:Ws}{m:As}{fu aa:Int}{fr fs gn:Ws}{h:Nat}{ps:List Int}{po:Nat}(hw:Bx.okW f0)(T:TI th (In f0) m fu aa fr fs gn h [] ps po):aa=0/\ps=[]/\fs=Bx.aG/\im fr=im f0:=by
 have⟨a,b⟩:=T.holds.zero;have hps:=b rfl;subst hps;have hfs:fs=Bx.aG:=agU T.ok.fs Bx.eV.1 λk=>⟨λx=>(by have:=T.inv.sub k x;cases this),λx=>absurd x eK⟩;have⟨c1,c2⟩:=T.cnt hw λp=>Iff.rfl;exact⟨a.2 rfl,rfl,hfs,by simp only[length_nil]at c2;omega⟩
section
variable{th:Th}{F0:Int->Prop}{m:As}{fu aa:Int}{fr fs gn:Ws}{h:Nat}{E:List En}{ps:List Int}{po:Nat}
end
structure Sd where
 th:Th
 m:As
 fu:Int
 wh:Int
 ep:Int
 pg:Int
 br:Ws
 aa:Int
 fr:Ws
 fs:Ws
 gn:Ws
structure ze (th:Th) (m:As) (wh ep pg:Int):Prop where
 k:wh=0\/wh=1
 n:3<=Ds.eF th
 on:Ds.iS th m wh=true
 e:Ds.ga th m wh=ep
 p:Ds.mO th m wh=pg
 ot:Ds.iS th m (1 - wh)=true->Ds.ga th m (1 - wh)<ep
abbrev Fr(s:Sd):Int->Prop:=In (nQ s.th s.br)
structure SI (s:Sd) (E K:List En) (n h:Nat) (ps:List Int) (po h0:Nat) (jP:List Int) (kc:Nat):Prop where
 mr:ze s.th s.m s.wh s.ep s.pg
 t:TI s.th (Fr s) s.m s.fu s.aa s.fr s.fs s.gn h E ps po
 k:Holds s.th s.m s.pg h0 K jP kc
 nd:jP.Nodup
 w:Bx.okW s.br
 wi:∀p,In s.br p↔p∈jP
 rg0:∀p∈jP,2<=p/\p<Ds.eF s.th
 rg:∀p∈ps,2<=p/\p<Ds.eF s.th
 q:∀x:Int,¬Fr s (x / 4)->cp s.m x=none
 b:po<=81*n/\kc<=81*n/\E.length<=n/\K.length<=n
 e0:0<=s.ep
def St(s:Sd)(E K:List En)(n:Nat):Prop:=∃h ps po h0 jP kc,SI s E K n h ps po h0 jP kc
def cM(s:Sd)(key:ByteArray)(op:Option ByteArray):Sd:=
 ⟨s.th,op0 s.th key op s.m s.fu s.aa s.fr s.fs s.gn,op1 s.th key op s.m s.fu s.aa s.fr s.fs s.gn,s.wh,s.ep,s.pg,s.br,vN s.th key op s.m s.fu s.aa s.fr s.fs s.gn,op2 s.th key op s.m s.fu s.aa s.fr s.fs s.gn,op3 s.th key op s.m s.fu s.aa s.fr s.fs s.gn,op4 s.th key op s.m s.fu s.aa s.fr s.fs s.gn⟩
def lR(s:Sd)(key:ByteArray)(op:Option ByteArray):Int:=opE s.th key op s.m s.fu s.aa s.fr s.fs s.gn
def l6(s:Sd)(wh ep pg:Int):Sd:=⟨s.th,s.m,s.fu,wh,ep,pg,dR s.th s.m pg,pg,nQ s.th (dR s.th s.m pg),Bx.aG,Bx.aG⟩
theorem ajb{th:Th}{W:Ws}(hw:Bx.okW W):Bx.okW (Bx.bR .andNot (Bx.bR .andNot (Bx.bk (Ds.eF th)) (Bx.bk 2)) W):=
 (Bx.iL (.inr (.inr rfl)) (Bx.iL (.inr (.inr rfl)) (Bx.bV _).1 (Bx.bV 2).1).1 hw).1
theorem awd{th:Th}{W:Ws}(hw:Bx.okW W):Bx.okW (nQ th W):=aoJ (ajb hw)
theorem ajc{th:Th}{W:Ws}(hw:Bx.okW W){p:Int}:In (Bx.bR .andNot (Bx.bR .andNot (Bx.bk (Ds.eF th)) (Bx.bk 2)) W) p↔(2<=p/\p<Ds.eF th/\p<1024)/\¬In W p:=by
 have w2:=(Bx.iL (.inr (.inr rfl)) (Bx.bV (Ds.eF th)).1 (Bx.bV 2).1).1;rw[s9 w2 hw,s9 (Bx.bV _).1 (Bx.bV _).1,mY,mY];constructor;rintro⟨⟨⟨a,b⟩,c⟩,d⟩;exact⟨by omega,d⟩;rintro⟨a,d⟩;exact⟨⟨⟨by omega,by omega⟩,by omega⟩,d⟩
theorem pE{th:Th}{W:Ws}(hw:Bx.okW W){p:Int}:In (nQ th W) p↔(2<=p/\p<Ds.eF th/\p<1024)/\¬In W p:=by
 unfold nQ;rw[aoK (ajb hw),ajc hw];exact⟨λx=>x.1,λx=>⟨x,by omega,by omega⟩⟩
theorem ar6{th:Th}{m:As}{fu:Int}(hd:Ds.bm th m fu):Ds.eF th<=1024:=by
 have:=hd.t.1;have:=Ds.ph th;omega
theorem ajd{th:Th}{m:As}{fu aa:Int}{h:Nat}{E:List En}{ps:List Int}{po:Nat}{W:Ws}(hd:Ds.bm th m fu)(H:Holds th m aa h E ps po)(nd:ps.Nodup)(hw:Bx.okW W)(hi:∀p,In W p↔p∈ps):
 TI th (In (nQ th W)) m fu aa (nQ th W) Bx.aG Bx.aG h E ps po:=by
 have f0:∀p,In (nQ th W) p->2<=p/\Ds.wv th p=true:=λp hp=>by
  have⟨a,_⟩:=(pE hw).1 hp;exact⟨a.1,Ds.gk.2 ⟨by omega,a.2.1⟩⟩
 exact⟨⟨hd,awd hw,Bx.eV.1,Bx.eV.1,f0⟩,rfl,f0,H,⟨nd,λp=>⟨.inl,λx=>x.elim id (λy=>absurd y eK)⟩,λp _=>eK,λp hp=>absurd hp eK,λp hp hf=>absurd ((hi p).2 hp) ((pE hw).1 hf).2⟩⟩
theorem acF{th:Th}{m m':As}{x:Int}(h:cp m' x=cp m x):Ds.cG th m' x=Ds.cG th m x:=by
 unfold Ds.cG Ds.lg;rw[h]
theorem tw{th dU:Th}(h:dU.length=th.length)(k:Int):Ds.mN dU k=Ds.mN th k:=by unfold Ds.mN Ds.eF;rw[h]
theorem wN{th dU:Th}{m m':As}{k:Int}(hl:dU.length=th.length)(h:Ds.cG dU m' (k*4)=Ds.cG th m (k*4)):Ds.iS dU m' k=Ds.iS th m k/\Ds.ga dU m' k=Ds.ga th m k/\Ds.mO dU m' k=Ds.mO th m k:=by
 have c:=tw hl k;unfold Ds.iS Ds.ga Ds.mO;rw[c,h];exact⟨rfl,rfl,rfl⟩
theorem gO{th dU:Th}(h:dU.length=th.length):Ds.eF dU=Ds.eF th:=by unfold Ds.eF;rw[h]
theorem ze.same{th dU:Th}{m m':As}{wh ep pg:Int}(M:ze th m wh ep pg)(hl:dU.length=th.length)(h0:Ds.cG dU m' 0=Ds.cG th m 0)(h4:Ds.cG dU m' 4=Ds.cG th m 4):ze dU m' wh ep pg:=by
 have s0:=wN (k:=0) hl h0;have s1:=wN (k:=1) hl h4;have⟨k,n,a,b,c,d⟩:=M;refine⟨k,by rw[gO hl];exact n, ?_, ?_, ?_, ?_⟩;rcases k with rfl|rfl;rw[s0.1];exact a;rw[s1.1];exact a;rcases k with rfl|rfl;rw[s0.2.1];exact b;rw[s1.2.1];exact b;rcases k with rfl|rfl;rw[s0.2.2];exact c;rw[s1.2.2];exact c;rcases k with rfl|rfl;show Ds.iS dU m' 1=true->Ds.ga dU m' 1<ep;rw[s1.1,s1.2.1];exact d;show Ds.iS dU m' 0=true->Ds.ga dU m' 0<ep;rw[s0.1,s0.2.1];exact d
theorem ze.dG{th:Th}{m:As}{wh ep pg:Int}(M:ze th m wh ep pg):Ts.dG th m=(wh,true,ep,pg):=by
 have⟨k,n,a,b,c,d⟩:=M;have r0:Ds.mN th 0=0:=Ds.lj.2 ⟨by omega,by omega,by omega⟩;have r1:Ds.mN th 1=0:=Ds.lj.2 ⟨by omega,by omega,by omega⟩;unfold Ts.dG;rcases k with rfl|rfl;rw[qb (s:=(0,false,0,0)) r0 a (.inl rfl),y7,a.symm.trans a,b,c];rintro⟨_,x,y|y⟩;cases y;have:=d x;have y:Ds.ga th m 1>Ds.ga th m 0:=y;have e:Ds.ga th m (1 - 0)=Ds.ga th m 1:=rfl;omega;by_cases h0:Ds.iS th m 0=true;rw[qb (s:=(0,false,0,0)) r0 h0 (.inl rfl),qb r1 a (.inr ?_),b,c];have:=d h0;show Ds.ga th m 1>Ds.ga th m 0;have e:Ds.ga th m (1 - 1)=Ds.ga th m 0:=rfl;omega;rw[y7 (s:=(0,false,0,0)) (λx=>h0 x.2.1),qb r1 a (.inl rfl),b,c]
theorem aa6{th dU:Th}{m m':As}:∀(h:Nat) {t:TN h},rep th m h t->(∀p∈oc h t,Ds.gM dU m' p=Ds.gM th m p/\Ds.fJ dU m' p=Ds.fJ th m p)->rep dU m' h t
 |0,t,hr,hp=>by
  have⟨a,b,c,d,e⟩:=(show Rd th m t.1 true t.2 []from hr);have⟨x,y⟩:=hp _ (ru 0 t);have x:Ds.gM dU m' t.1=Ds.gM th m t.1:=x;have y:Ds.fJ dU m' t.1=Ds.fJ th m t.1:=y;exact⟨by rw[x];exact a,by rw[y];exact b,by rw[y];exact c,by rw[y];exact d,by rw[y];exact e⟩
 |h+1,t,hr,hp=>by
  have⟨⟨a,b,c,d,e⟩,r⟩:=(show Rd th m t.1 false [] (t.2.map (dh h))/\∀k∈t.2,rep th m h k.2 from hr);have⟨x,y⟩:=hp _ (ru (h+1) t);have x:Ds.gM dU m' t.1=Ds.gM th m t.1:=x;have y:Ds.fJ dU m' t.1=Ds.fJ th m t.1:=y;exact⟨⟨by rw[x];exact a,by rw[y];exact b,by rw[y];exact c,by rw[y];exact d,by rw[y];exact e⟩,λk hk=>aa6 h (r k hk) λp ky=>hp p (mem_cons_of_mem _ (mem_flatMap.2 ⟨k,hk,ky⟩))⟩
theorem Holds.alike{th dU:Th}{m m':As}{aa:Int}{h:Nat}{E:List En}{ps:List Int}{po:Nat}(H:Holds th m aa h E ps po)(hp:∀p∈ps,Ds.gM dU m' p=Ds.gM th m p/\Ds.fJ dU m' p=Ds.fJ th m p):Holds dU m' aa h E ps po:=by
 rcases H with H|⟨t,h1,h2,h22,h3,h4,h5,h6,h7⟩;exact .inl H;subst h6;exact .inr ⟨t,h1,h2,h22,aa6 h h3 hp,h4,h5,rfl,h7⟩
theorem qd{th dU:Th}{m m':As}{p:Int}(hl:dU.length=th.length)(h:∀x:Int,x / 4=p->Ds.cG dU m' x=Ds.cG th m x):Ds.gM dU m' p=Ds.gM th m p/\Ds.fJ dU m' p=Ds.fJ th m p:=
 Ds.adZ hl λi hi=>(h _ (by omega)).symm
section
variable{s:Sd}{E K:List En}{n h:Nat}{ps:List Int}{po h0:Nat}{jP:List Int}{kc:Nat}
theorem SI.out(S:SI s E K n h ps po h0 jP kc){p:Int}(hp:p∈jP):¬Fr s p:=λx=>((pE S.w).1 x).2 ((S.wi p).2 hp)
theorem SI.low(S:SI s E K n h ps po h0 jP kc){p:Int}(hp:p<2):¬Fr s p:=λx=>by
 have:=((pE S.w).1 x).1;omega
theorem SI.small(S:SI s E K n h ps po h0 jP kc)(hn:n<=1000):h<=14/\h0<=14:=by
 have⟨b1,b2,_⟩:=S.b;refine⟨S.t.small (by omega),S.k.ag6 ?_⟩;have:19*3^15=272629233:=rfl;omega
theorem SI.ayF(S:SI s E K n h ps po h0 jP kc){m':As}(hs:∀x:Int,¬Fr s (x / 4)->cp m' x=cp s.m x):
 ze s.th m' s.wh s.ep s.pg/\Holds s.th m' s.pg h0 K jP kc/\∀x:Int,¬Fr s (x / 4)->cp m' x=none:=
 ⟨S.mr.same rfl (acF (hs 0 (S.low (by decide)))) (acF (hs 4 (S.low (by decide)))),S.k.alike λp hp=>qd rfl λx hx=>acF (hs x (by rw[hx];exact S.out hp)),λx hx=>(hs x hx).trans (S.q x hx)⟩
theorem ar7(key:ByteArray)(op:Option ByteArray)(E:List En):(lQ key op E).length<=E.length+1:=by
 refine le_trans ag9 ?_;split<;>omega
theorem ar8(op:Option ByteArray):opP op<=81:=by
 cases op with
 |none=>exact zero_le _|some v=>exact le_refl _
theorem SI.op(S:SI s E K n h ps po h0 jP kc)(hn:n<=1000)(key:ByteArray)(op:Option ByteArray):
 (s.fu= -1->(cM s key op).fu= -1)/\((lR s key op=0/\∃h' ps' po',SI (cM s key op) (lQ key op E) K (n+1) h' ps' po' h0 jP kc)\/(lR s key op≠0/\SI (cM s key op) E K (n+1) h ps po h0 jP kc)):=by
 have⟨b1,b2,b3,b4⟩:=S.b;rcases ar2 (key:=key) (op:=op) S.t (S.small hn).1 with⟨a,b,c,h',ps',po',G⟩|⟨m',ft,e,a,b,c⟩;have⟨p1,p2,p3⟩:=S.ayF G.sec;have:=G.po;have:=ar8 op;refine⟨G.fu,.inl ⟨a,h',ps',po',p1,G.ti,p2,S.nd,S.w,S.wi,S.rg0,λp hp=> ?_,p3,⟨by omega,by omega,le_trans (ar7 key op E) (by omega),by omega⟩,S.e0⟩⟩;rcases G.new p hp with x|x;exact S.rg p x;have y:Fr s p:=(S.t.inv.cov p).2 (.inl x);have:=((pE S.w).1 y).1;show 2<=p/\p<Ds.eF s.th;omega;have sec:∀x:Int,¬Fr s (x / 4)->cp m' x=cp s.m x:=λx hx=>c.sec x λy=>hx ((S.t.inv.cov _).2 (.inl y));have⟨p1,p2,p3⟩:=S.ayF sec
 have e1:cM s key op=⟨s.th,m',ft,s.wh,s.ep,s.pg,s.br,s.aa,s.fr,s.fs,s.gn⟩:=by
  unfold cM op0 op1 vN op2 op3 op4;rw[b]
 have e2:lR s key op=e:=by unfold lR opE;rw[b]
 rw[e1,e2];exact⟨c.fu,.inr ⟨a,p1,S.t.keep c.d c.rd,p2,S.nd,S.w,S.wi,S.rg0,S.rg,p3,⟨by omega,by omega,by omega,by omega⟩,S.e0⟩⟩
theorem SI.more(S:SI s E K n h ps po h0 jP kc){n':Nat}(hn:n<=n'):SI s E K n' h ps po h0 jP kc:=by
 have⟨b1,b2,b3,b4⟩:=S.b;exact⟨S.mr,S.t,S.k,S.nd,S.w,S.wi,S.rg0,S.rg,S.q,⟨by omega,by omega,by omega,by omega⟩,S.e0⟩
theorem SI.list(S:SI s E K n h ps po h0 jP kc)(hn:n<=1000):vZ s.th s.m s.aa empty=0/\m8 s.th s.m s.aa empty=E:=by
 have⟨a,b⟩:=aa2 S.t.holds S.t.inv.nd (by have:=(S.small hn).1;omega) empty;exact⟨a,by rw[b,filter_all]⟩
theorem SI.free(S:SI s E K n h ps po h0 jP kc)(hn:n<=1000):zm s.th s.m s.aa=0/\Bx.okW (jN s.th s.m s.br s.aa)/\jN s.th s.m s.br s.aa=s.fr:=by
 have⟨a,b,c⟩:=nE S.t.holds S.t.inv.nd (by have:=(S.small hn).1;omega);have w:=(Bx.iL (.inr (.inr rfl)) (ajb (th:=s.th) S.w) b).1;refine⟨a,w,agU w S.t.ok.fr λp=> ?_⟩;unfold jN;rw[s9 (ajb S.w) b,ajc S.w,c];have f:=pE (th:=s.th) S.w (p:=p);constructor;rintro⟨x,y⟩;exact((S.t.inv.cov p).1 (f.2 x)).resolve_right λz=>y (S.t.inv.sub p z);intro x;exact⟨f.1 ((S.t.inv.cov p).2 (.inl x)),λy=>S.t.free p y x⟩
theorem SI.aa(S:SI s E K n h ps po h0 jP kc)(hn:n<=1000):nF s.th s.m s.pg/\dR s.th s.m s.pg=s.br:=by
 have⟨a,b,c⟩:=nE S.k S.nd (by have:=(S.small hn).2;omega);have e:dR s.th s.m s.pg=s.br:=agU b S.w λp=>(c p).trans (S.wi p).symm;refine⟨⟨?_,a,b,λp hp=>S.rg0 p ((c p).1 hp)⟩,e⟩;rcases S.k with⟨h1,_⟩|⟨t,_,h2,h3,_⟩<;>omega
theorem SI.back(S:SI s E K n h ps po h0 jP kc)(hn:n<=1000):SI (l6 s s.wh s.ep s.pg) K K n h0 jP kc h0 jP kc:=by
 have⟨R,e⟩:=S.aa hn;have⟨b1,b2,b3,b4⟩:=S.b;unfold l6;rw[e];exact⟨S.mr,ajd S.t.ok.d S.k S.nd S.w S.wi,S.k,S.nd,S.w,S.wi,S.rg0,S.rg0,S.q,⟨b2,b2,b4,b4⟩,S.e0⟩
end
def ar9(s:D3):D3×Int:=(cA s,Ds.zD s.2.2)
def asa(s:D3)(k me mp:Int):D3×Int:=if Ds.zG s.1 s.2.2 k true me mp≠0 then(cB s k true me mp,Ds.zG s.1 s.2.2 k true me mp)else ar9 (cB s k true me mp)
def asb(s:D3)(k me mp:Int):D3×Int:=if Ds.zD s.2.2≠0 then(cA s,Ds.zD s.2.2)else asa (cA s) k me mp
def asc(s:D3)(k me mp:Int):D3×Int:=if Ds.zG s.1 s.2.2 k false me mp≠0 then(cB s k false me mp,Ds.zG s.1 s.2.2 k false me mp)else asb (cB s k false me mp) k me mp
def coR(s:D3)(k me mp:Int):D3×Int:=if Ds.zD s.2.2≠0 then(cA s,Ds.zD s.2.2)else asc (cA s) k me mp
def v7(x:Int)(s:ByteArray):As:=mm [] x (bw s)
abbrev tx(s:D3):Prop:=Ds.bm s.1 s.2.1 s.2.2
structure ayG (s D:D3) (k me mp:Int):Prop where
 d:tx D
 len:D.1.length=s.1.length
 m:D.2.1=[]
 rd:∀x,Ds.cG D.1 D.2.1 x=if x=k*4 then Ds.pe true me mp else Ds.cG s.1 s.2.1 x
 fu:s.2.2= -1->D.2.2= -1
structure aoS (s D:D3) (k me mp:Int):Prop where
 d:tx D
 len:D.1.length=s.1.length
 fu:D.2.2=0
 ft:s.2.2≠ -1
 how:(D.1=s.1/\D.2.1=s.2.1)\/∃b:Bool,(∀x,Ds.cG D.1 [] x=if b=true/\x=k*4 then Ds.pe false me mp else Ds.cG s.1 s.2.1 x)/\(D.2.1=[]\/D.2.1=v7 (k*4) (Ds.pe b me mp))
theorem afk{y x:Int}(s:ByteArray)(h:x≠y):cp (v7 y s) x=none:=by
 have e:=Ds.sH (m:=([]:As)) (by simp) (n:=y) (x:=x) (v:=bw s);rw[if_neg h]at e;exact e
theorem aje(th:Th)(m:As)(fu:Int):(Ds.lM th m fu).length=th.length:=by
 unfold Ds.lM;split;rfl;exact Ds.js _ _
theorem ahc(s:D3):(cA s).1.length=s.1.length:=aje _ _ _
theorem aoT(s:D3)(x:Int):Ds.cG (cA s).1 (cA s).2.1 x=Ds.cG s.1 s.2.1 x:=Ds.asP
theorem awe{s:D3}(h:s.2.2≠0):(cA s).2.1=[]:=if_neg h
theorem aoU{th:Th}{fu k ep pg:Int}{on:Bool}(hk:Ds.mN th k=0)(h:Ds.vU ep pg):Ds.zG th fu k on ep pg=if fu=0 then 42 else 0:=by
 have⟨h0,h1,h2,h3⟩:=h;have hc:Ds.srC th k ep pg=0:=by unfold Ds.srC;rw[hk,if_pos rfl,if_neg (by omega)]
 unfold Ds.zG Ds.pb;rw[hc,if_pos rfl,if_pos (Ds.uy hk),if_pos (Ds.mP _ _ _)]
theorem ajf{s:D3}{k ep pg:Int}{on:Bool}(hk:Ds.mN s.1 k=0)(h:Ds.vU ep pg)(hf:s.2.2=0):cB s k on ep pg=s:=by
 have⟨h0,h1,h2,h3⟩:=h;have⟨th,m,fu⟩:=s;have hf:fu=0:=hf;subst hf;have hk:Ds.mN th k=0:=hk;have hc:Ds.srC th k ep pg=0:=by unfold Ds.srC;rw[hk,if_pos rfl,if_neg (by omega)]
 have e:Ds.pb th 0 (k*4) (Ds.pe on ep pg)=42:=by unfold Ds.pb;rw[if_pos (Ds.uy hk),if_pos (Ds.mP _ _ _),if_pos rfl]
 unfold cB Ds.ku Ds.pV;rw[hc,if_pos rfl,if_pos rfl];unfold Ds.uq Ds.ur Ds.dC;rw[e,if_neg (by decide),if_pos rfl];split<;>rfl
theorem acG{s:D3}(hf:s.2.2=0):cA s=s:=by
 have⟨th,m,fu⟩:=s;have hf:fu=0:=hf;subst hf;rfl
theorem aoV{s:D3}{k ep pg:Int}{on:Bool}(hk:Ds.mN s.1 k=0)(h:Ds.vU ep pg)(hf:s.2.2≠0):(cB s k on ep pg).2.1=mm s.2.1 (k*4) (bw (Ds.pe on ep pg))/\(cB s k on ep pg).2.2=Ds.dC s.2.2:=by
 have⟨h0,h1,h2,h3⟩:=h;have hc:Ds.srC s.1 k ep pg=0:=by unfold Ds.srC;rw[hk,if_pos rfl,if_neg (by omega)]
 have hw:Ds.pb s.1 s.2.2 (k*4) (Ds.pe on ep pg)=0:=Ds.pd.2 ⟨Ds.uy hk,Ds.mP _ _ _,hf⟩;unfold cB Ds.ku Ds.pV;rw[hc,if_pos rfl,if_pos rfl];refine⟨?_, ?_⟩;show Ds.uq _ _ _ _ _=_;unfold Ds.uq;rw[if_pos hw];show Ds.ur _ _ _ _=_;unfold Ds.ur;rw[if_pos ⟨Ds.uy hk,Ds.mP _ _ _⟩]
theorem ahd(fu:Int):Ds.zD fu=if fu=0 then 42 else 0:=rfl
theorem nG{f:Int}(h:f= -1):Ds.dC f= -1:=by subst h;rfl
theorem ajg{s:D3}{k me mp:Int}(hd:tx s)(hk:Ds.mN s.1 k=0)(hm:Ds.vU me mp):
 ((coR s k me mp).2=0/\ayG s (coR s k me mp).1 k me mp)\/((coR s k me mp).2=42/\aoS s (coR s k me mp).1 k me mp):=by
 have no:∀{f:Int},s.2.2= -1->f=0->(f= -1)->False:=λ_ a b=>by omega
 unfold coR;rw[ahd];by_cases f0:s.2.2=0;rw[if_pos f0,if_pos (by decide),acG f0];exact .inr ⟨rfl,hd,rfl,f0,by omega,.inl ⟨rfl,rfl⟩⟩;rw[if_neg f0,if_neg (by decide)];have d1:=aa4 hd;have l1:=ahc s;have r1:=aoT s;have m1:=awe f0;have u1:s.2.2= -1->(cA s).2.2= -1:=λh=>nG h;generalize cA s=s1 at d1 l1 r1 m1 u1;have vR:Ds.mN s1.1 k=0:=by rw[tw l1];exact hk
 have v1:∀x,Ds.cG s1.1 [] x=if false=true/\x=k*4 then Ds.pe false me mp else Ds.cG s.1 s.2.1 x:=λx=>by
  rw[if_neg (λh=>by cases h.1),<-r1,m1]
 unfold asc;rw[aoU vR hm];by_cases f1:s1.2.2=0;rw[if_pos f1,if_pos (by decide),ajf vR hm f1];exact .inr ⟨rfl,d1,l1,f1,λh=>by have:=u1 h;omega,.inr ⟨false,v1,.inl m1⟩⟩;rw[if_neg f1,if_neg (by decide)];have d2:=ai9 (k:=k) (b:=false) (me:=me) (mp:=mp) d1;have⟨_,_,r2⟩:=Ds.ab5 (on:=false) d1 f1 vR hm;have⟨m2,u2⟩:=aoV (on:=false) vR hm f1;have e2:(cB s1 k false me mp).1=s1.1:=rfl;have r2:∀x,Ds.cG (cB s1 k false me mp).1 (cB s1 k false me mp).2.1 x=if x=k*4 then Ds.pe false me mp else Ds.cG s1.1 s1.2.1 x:=r2
 generalize cB s1 k false me mp=s2 at d2 r2 m2 u2 e2;have vg:Ds.mN s2.1 k=0:=by rw[e2];exact vR
 have l2:s2.1.length=s.1.length:=by rw[e2];exact l1
 unfold asb;rw[ahd];by_cases f2:s2.2.2=0;rw[if_pos f2,if_pos (by decide),acG f2];exact .inr ⟨rfl,d2,l2,f2,λh=>by rw[nG (u1 h)]at u2;omega,.inr ⟨false,by rw[e2];exact v1,.inr (m2.trans (by rw[m1];rfl))⟩⟩;rw[if_neg f2,if_neg (by decide)];have d3:=aa4 d2;have l3:=(ahc s2).trans l2;have r3:=aoT s2;have m3:=awe f2;have u3:s.2.2= -1->(cA s2).2.2= -1:=λh=>nG (by rw[u2];exact nG (u1 h));generalize cA s2=s3 at d3 l3 r3 m3 u3;have hk3:Ds.mN s3.1 k=0:=by rw[tw l3];exact hk
 have v3:∀x,Ds.cG s3.1 [] x=if true=true/\x=k*4 then Ds.pe false me mp else Ds.cG s.1 s.2.1 x:=λx=>by
  rw[<-m3,r3,r2,r1];by_cases hx:x=k*4;rw[if_pos hx,if_pos ⟨rfl,hx⟩];rw[if_neg hx,if_neg λh=>hx h.2]
 unfold asa;rw[aoU hk3 hm];by_cases f3:s3.2.2=0;rw[if_pos f3,if_pos (by decide),ajf hk3 hm f3];exact .inr ⟨rfl,d3,l3,f3,λh=>by have:=u3 h;omega,.inr ⟨true,v3,.inl m3⟩⟩;rw[if_neg f3,if_neg (by decide)];have d4:=ai9 (k:=k) (b:=true) (me:=me) (mp:=mp) d3;have⟨_,_,r4⟩:=Ds.ab5 (on:=true) d3 f3 hk3 hm;have⟨m4,u4⟩:=aoV (on:=true) hk3 hm f3;have e4:(cB s3 k true me mp).1=s3.1:=rfl;have r4:∀x,Ds.cG (cB s3 k true me mp).1 (cB s3 k true me mp).2.1 x=if x=k*4 then Ds.pe true me mp else Ds.cG s3.1 s3.2.1 x:=r4
 generalize cB s3 k true me mp=s4 at d4 r4 m4 u4 e4;have l4:s4.1.length=s.1.length:=by rw[e4];exact l3
 unfold ar9;rw[ahd];by_cases f4:s4.2.2=0;rw[if_pos f4,acG f4];exact .inr ⟨rfl,d4,l4,f4,λh=>by rw[nG (u3 h)]at u4;omega,.inr ⟨true,by rw[e4];exact v3,.inr (m4.trans (by rw[m3];rfl))⟩⟩;rw[if_neg f4];refine .inl ⟨rfl,aa4 d4,(ahc s4).trans l4,awe f4,λx=> ?_,λh=>nG (by rw[u4];exact nG (u3 h))⟩;rw[aoT,r4];by_cases hx:x=k*4;rw[if_pos hx,if_pos hx];rw[if_neg hx,if_neg hx,m3,v3,if_neg (λh=>hx h.2)]
theorem ze.ayH{th dU:Th}{m m':As}{wh ep pg aa:Int}(M:ze th m wh ep pg)(hl:dU.length=th.length)(he:0<=ep/\ep<1099511627776)(hr:0<=aa/\aa<1024)
 (rd:∀x,Ds.cG dU m' x=if x=(1 - wh)*4 then Ds.pe true (ep+1) aa else Ds.cG th m x):ze dU m' (1 - wh) (ep+1) aa:=by
 have⟨k,n,a,b,c,d⟩:=M;have n':3<=Ds.eF dU:=by rw[gO hl];exact n
 have r0:Ds.mN dU (1 - wh)=0:=Ds.lj.2 ⟨by omega,by omega,by omega⟩;have ok:Ds.vU (ep+1) aa:=⟨by omega,by omega,hr.1,hr.2⟩;have e:=rd ((1 - wh)*4);rw[if_pos rfl]at e;have⟨x1,x2,x3⟩:=Ds.amL r0 e;have⟨y1,y2,y3⟩:=Ds.adY (on:=true) ok;have o:=rd (wh*4);rw[if_neg (by omega)]at o;have⟨z1,z2,z3⟩:=wN hl o;refine⟨by omega,n',by rw[x1];exact y1,by rw[x2];exact y2,by rw[x3];exact y3, ?_⟩;rw[show 1 - (1 - wh)=wh by omega];intro _;rw[z2,b];omega
theorem SI.make{s:Sd}{wh ep pg:Int}{K:List En}{n h:Nat}{ps:List Int}{po:Nat}(M:ze s.th s.m wh ep pg)(hd:Ds.bm s.th s.m s.fu)(H:Holds s.th s.m pg h K ps po)(nd:ps.Nodup)(rg:∀p∈ps,2<=p/\p<Ds.eF s.th)(q:s.m=[])(hp:po<=81*n)(hK:K.length<=n)(hn:n<=1000)(he:0<=ep):
 SI (l6 s wh ep pg) K K n h ps po h ps po:=by
 have:19*3^15=272629233:=rfl;have hh:=H.ag6 (by omega);have⟨a,b,c⟩:=nE H nd (by omega);refine⟨M,ajd hd H nd b c,H,nd,b,c,rg,rg,λx _=> ?_,⟨hp,hp,hK,hK⟩,he⟩;show cp s.m x=none;rw[q];rfl
section
variable{s:Sd}{E K:List En}{n h:Nat}{ps:List Int}{po h0:Nat}{jP:List Int}{kc:Nat}
theorem SI.rt(S:SI s E K n h ps po h0 jP kc):0<=s.aa/\s.aa<1024:=by
 rcases S.t.holds with⟨h1,_⟩|⟨t,_,h2,h3,_⟩<;>omega
theorem SI.key(S:SI s E K n h ps po h0 jP kc):Ds.mN s.th (1 - s.wh)=0:=by
 have:=S.mr.k;have:=S.mr.n;exact Ds.lj.2 ⟨by omega,by omega,by omega⟩
theorem SI.uU(S:SI s E K n h ps po h0 jP kc)(hn:n<=1000)(he:s.ep<1099511627776){D:D3}(C:ayG (s.th,s.m,s.fu) D (1 - s.wh) (s.ep+1) s.aa){t:Sd}(e1:t.th=D.1)(e2:t.m=D.2.1)(e3:t.fu=D.2.2):
 SI (l6 t (1 - s.wh) (s.ep+1) s.aa) E E n h ps po h ps po:=by
 have⟨b1,b2,b3,b4⟩:=S.b;have hl:t.th.length=s.th.length:=by rw[e1];exact C.len
 have rd:∀x,Ds.cG t.th t.m x=if x=(1 - s.wh)*4 then Ds.pe true (s.ep+1) s.aa else Ds.cG s.th s.m x:=λx=>by rw[e1,e2];exact C.rd x
 have hw:=S.mr.k;refine SI.make (S.mr.ayH hl ⟨S.e0,he⟩ S.rt rd) (by rw[e1,e2,e3];exact C.d) (S.t.holds.alike λp hp=>qd hl λx hx=> ?_) S.t.inv.nd (λp hp=>by rw[gO hl];exact S.rg p hp) (e2.trans C.m) b1 b3 hn (by have:=S.e0;omega);have:=S.rg p hp;rw[rd,if_neg (by omega)]
theorem aoS.seen{s D:D3}{k me mp:Int}(C:aoS s D k me mp){x:Int}(hx:x≠k*4):Ds.cG D.1 D.2.1 x=Ds.cG s.1 s.2.1 x:=by
 rcases C.how with⟨a,b⟩|⟨b,a,c|c⟩;rw[a,b];rw[c,a,if_neg λh=>hx h.2];rw[c];have e:cp (v7 (k*4) (Ds.pe b me mp)) x=cp [] x:=afk _ hx;rw[acF e,a,if_neg λh=>hx h.2]
theorem SI.aAK(S:SI s E K n h ps po h0 jP kc){D:D3}(C:aoS (s.th,s.m,s.fu) D (1 - s.wh) (s.ep+1) s.aa):Holds D.1 D.2.1 s.pg h0 K jP kc/\Holds D.1 D.2.1 s.aa h E ps po:=by
 have hw:=S.mr.k;refine⟨S.k.alike λp hp=>qd C.len λx hx=>C.seen ?_,S.t.holds.alike λp hp=>qd C.len λx hx=>C.seen ?_⟩;have:=S.rg0 p hp;omega;have:=S.rg p hp;omega
theorem asd{th:Th}{m:As}{pg:Int}{h:Nat}{K:List En}{ps:List Int}{po:Nat}(H:Holds th m pg h K ps po)(nd:ps.Nodup)(rg:∀p∈ps,2<=p/\p<Ds.eF th)(hh:h<=15):nF th m pg:=by
 have⟨a,b,c⟩:=nE H nd hh;refine⟨?_,a,b,λp hp=>rg p ((c p).1 hp)⟩;rcases H with⟨h1,_⟩|⟨t,_,h2,h3,_⟩<;>omega
end
def jQ:Tree->Tree
 |.ab p t=>.ab p (jQ t)|.ite b t e=>.ite b (jQ t) (jQ e)|.both p q t e=>.both p q (jQ t) (jQ e)|.ret _ v=>.ret [] v|.at c=>.at c|.stuck w=>.stuck w
abbrev wO(s:Sd):List ak:=jM s.th s.m s.fu s.wh true s.ep s.pg s.br s.aa s.fr s.fs s.gn
def coX(s:Sd):D3×Int:=coR (s.th,s.m,s.fu) (1 - s.wh) (s.ep+1) s.aa
def coT(s:Sd):Sd:=⟨(coX s).1.1,(coX s).1.2.1,(coX s).1.2.2,s.wh,s.ep,s.pg,s.br,s.aa,s.fr,s.fs,s.gn⟩
def ml(s:Sd):Sd:=if(coX s).2=0 then l6 (coT s) (1 - s.wh) (s.ep+1) s.aa else l6 (coT s) s.wh s.ep s.pg
def coE(s:Sd):Int:=(coX s).2
abbrev hAt(s t:Sd):List ak:=[fy 1 t.wh true t.ep t.pg t.br (.ptr 5 0),Ds.jI 3 4 t.fu,fL 1 s.aa s.fr s.fs s.gn,.vec (.au Ds.cS t.th) Ds.eS,.map Ds.kS t.m,fL 1 t.aa t.fr t.fs t.gn]
abbrev ql:Spec Sd:=⟨λ_=>[.ptr 0 0],wO,λs=>[Ds.bm s.th s.m s.fu,0<=s.ep/\s.ep<1099511627776,s.wh=0\/s.wh=1,nF (ml s).th (ml s).m (ml s).pg],λs=>hAt s (ml s),λs=>aM (coE s)⟩
abbrev awf:Spec Sd:=⟨λ_=>[.ptr 0 0],wO,λs=>[Ds.bm s.th s.m s.fu,nF s.th s.m s.pg],λs=>hAt s (l6 s s.wh s.ep s.pg),λ_=>aM 0⟩
abbrev awg:Spec (Sd×ByteArray×ByteArray):=⟨λ(_,k,v)=>[.ptr 0 0,.s (.str k),.s (.str v)],λ(s,_)=>wO s,λ(s,_)=>[Ds.bm s.th s.m s.fu,Bx.okW s.fr,0<=s.aa/\s.aa<=65536],λ(s,k,v)=>wO (cM s k (some v)),λ(s,k,v)=>aM (lR s k (some v))⟩
abbrev ayI:Spec (Sd×ByteArray):=⟨λ(_,k)=>[.ptr 0 0,.s (.str k)],λ(s,_)=>wO s,λ(s,_)=>[Ds.bm s.th s.m s.fu,Bx.okW s.fr,0<=s.aa/\s.aa<=65536],λ(s,k)=>wO (cM s k none),λ(s,k)=>aM (lR s k none)⟩
def mSs:List AV->RM (Sd×List Nat):=λa=>(mSt a).bind λ((th,m,fu,wh,_,ep,pg,br,aa,fr,fs,gn),σ)=>.ret (⟨th,m,fu,wh,ep,pg,br,aa,fr,fs,gn⟩,σ)
def ayJ:List AV->RM ((Sd×ByteArray×ByteArray)×List Nat)
 |[s,.s (.str k),.s (.str v)]=>(mSs [s]).bind λ(X,σ)=>.ret ((X,k,v),σ)|_=>.fail ""
def ayK:List AV->RM ((Sd×ByteArray)×List Nat)
 |[s,.s (.str k)]=>(mSs [s]).bind λ(X,σ)=>.ret ((X,k),σ)|_=>.fail ""
theorem jl{K K':List ak->AV->Prop}{C:bP->Prop}(hK:∀L L' r,K' L r->K L' r):∀t:Tree,(jQ t).Holds K' C->t.Holds K C
 |.ab p t,h=>⟨h.1,jl hK t h.2⟩|.ite b t e,h=>⟨λx=>jl hK t (h.1 x),λx=>jl hK e (h.2 x)⟩|.both p q t e,h=>⟨λx=>jl hK t (h.1 x),λx=>jl hK e (h.2 x)⟩|.ret H v,h=>hK _ _ _ h|.at c,h=>h|.stuck w,h=>h
abbrev K8:List ak->AV->Prop:=Ends [dg] (true,())
def K9(_:List ak)(r:AV):Prop:=r=.s (.bool true)\/r=.s (.aI true)
theorem eb8{L:List ak}:K9 L (.s (.bool true)):=.inl rfl
theorem ayL{L:List ak}:K9 L (.s (.aI true)):=.inr rfl
theorem goB{X:Ctx}{t:aK}{f:FuncId}{fn:Func}{ns:List (Nat×Norm)}{c:bP}{tr:Tree}{inl:List FuncId}(hz:dZ Bx.bO X)(hX:∀id,X.H id=none)(hT:t.Ok P Bx.bO)(hf:P.funcs[f]? =some fn)
 (e:jQ (run P t.sum fn ns c inl)=tr) (h:tr.Holds K9 (Safe P f X K8)):Safe P f X K8 c:=Ds.go hz hX hT hf rfl (jl (K':=K9) (λL L' r x=>by
   rcases(show r=.s (.bool true)\/r=.s (.aI true)from x)with rfl|rfl;exact amj;exact apV) _ (by rw[e];exact h))
theorem ajh:fI P Bx.bO 15 awg:=λx=>ar4 ((x.1.th,x.1.m,x.1.fu,x.1.wh,true,x.1.ep,x.1.pg,x.1.br,x.1.aa,x.1.fr,x.1.fs,x.1.gn),x.2.1,x.2.2)
theorem ase:fI P Bx.bO 27 ayI:=λx=>ar5 ((x.1.th,x.1.m,x.1.fu,x.1.wh,true,x.1.ep,x.1.pg,x.1.br,x.1.aa,x.1.fr,x.1.fs,x.1.gn),x.2)
theorem aoW{s:Sd}{D:D3}{e:Int}(c:coX s=(D,e)){r:Int}(hr:r=if e=0 then s.aa else s.pg){wh ep:Int}(hw:wh=if e=0 then 1 - s.wh else s.wh)(he:ep=if e=0 then s.ep+1 else s.ep):
 ql.dN s=[fy 1 wh true ep r (dR D.1 D.2.1 r) (.ptr 5 0),Ds.jI 3 4 D.2.2,fL 1 s.aa s.fr s.fs s.gn,.vec (.au Ds.cS D.1) Ds.eS,.map Ds.kS D.2.1,fL 1 r (nQ D.1 (dR D.1 D.2.1 r)) Bx.aG Bx.aG]/\ql.out s=aM e:=by
 subst hr hw he;show hAt s (ml s)=_/\aM (coE s)=_;unfold coE ml coT;rw[c];refine⟨?_,rfl⟩;by_cases h:e=0;rw[if_pos h,if_pos h,if_pos h,if_pos h];rfl;rw[if_neg h,if_neg h,if_neg h,if_neg h];rfl
theorem aji{s:Sd}{D:D3}{e:Int}(c:coX s=(D,e))(R:nF (ml s).th (ml s).m (ml s).pg):nF D.1 D.2.1 (if e=0 then s.aa else s.pg):=by
 unfold ml coT at R;rw[c]at R;by_cases h:e=0;rw[if_pos h]at R ⊢;exact R;rw[if_neg h]at R ⊢;exact R
theorem zf:fI P Bx.bO 16 ql:=by
 refine fS func16 ?_;rintro⟨th,m,fu,wh,ep,pg,br,aa,fr,fs,gn⟩ ⟨(hd:Ds.bm th m fu),(hep:0<=ep/\ep<1099511627776),(hw:wh=0\/wh=1),(R:nF _ _ _),_⟩ X hX hz;have hk:aA (1 - wh):=rA (by omega) (by omega);generalize hs:(⟨th,m,fu,wh,ep,pg,br,aa,fr,fs,gn⟩:Sd)=s at R;have x0:coX s=coR (th,m,fu) (1 - wh) (ep+1) aa:=by subst hs;rfl
 have bad:∀(t:D3) (e:Int),tx t->coX s=(t,e)->e≠0->nF t.1 t.2.1 pg/\ql.dN s=[fy 1 wh true ep pg (dR t.1 t.2.1 pg) (.ptr 5 0),Ds.jI 3 4 t.2.2,fL 1 aa fr fs gn,.vec (.au Ds.cS t.1) Ds.eS,.map Ds.kS t.2.1,fL 1 pg (nQ t.1 (dR t.1 t.2.1 pg)) Bx.aG Bx.aG]/\ql.out s=aM e:=λt e d c h=>by
  have r:=aji c R;rw[if_neg h]at r;subst hs;exact⟨r,aoW c (if_neg h).symm (if_neg h).symm (if_neg h).symm⟩
 have zz:∀(t:D3),tx t->coX s=(t,0)->nF t.1 t.2.1 aa/\ql.dN s=[fy 1 (1 - wh) true (ep+1) aa (dR t.1 t.2.1 aa) (.ptr 5 0),Ds.jI 3 4 t.2.2,fL 1 aa fr fs gn,.vec (.au Ds.cS t.1) Ds.eS,.map Ds.kS t.2.1,fL 1 aa (nQ t.1 (dR t.1 t.2.1 aa)) Bx.aG Bx.aG]/\ql.out s=aM 0:=λt d c=>by
  have r:=aji c R;rw[if_pos rfl]at r;subst hs;exact⟨r,aoW c (if_pos rfl).symm (if_pos rfl).symm (if_pos rfl).symm⟩
 have hX:X.H=lk (jM th m fu wh true ep pg br aa fr fs gn):=by subst hs;exact hX
 have s4:∀(t:D3),tx t->coX s=ar9 t->Safe P 16 X (dO ql s) (aoQ t.1 t.2.1 t.2.2 wh true ep pg br aa fr fs gn true (ep+1) aa (1 - wh)):=λt d c=>by
  have d':=aa4 d;refine Ds.cF hz hX pD jO func16 (aAI t.1 t.2.1 t.2.2 wh true ep pg br aa fr fs gn true (ep+1) aa (1 - wh)) ⟨rfl,rfl,d,λh=> ?_,λh=>⟨rA (by omega) (by omega),λh=>(by cases h),λ_=> ?_⟩⟩;have⟨r,o1,o2⟩:=bad _ _ d' c (bne_iff_ne.1 h);exact⟨rfl,rfl,d',r,bD 5 (by kernel_rfl) (le_refl _) o2 o1⟩;have h:Ds.zD t.2.2=0:=Decidable.byContradiction λx=>Bool.false_ne_true (h.symm.trans (bne_iff_ne.2 x));unfold ar9 at c;rw[h]at c;have⟨r,o1,o2⟩:=zz _ d' c;have d':Ds.bm (cA t).1 (cA t).2.1 (cA t).2.2:=d';show Safe P 16 X (dO ql s) (zb (cA t).1 (cA t).2.1 (cA t).2.2 wh true ep pg br aa fr fs gn true (ep+1) aa (1 - wh));generalize cA t=u at r o1 o2 d';exact Ds.cF hz hX pD jO func16 (ayC u.1 u.2.1 u.2.2 wh true ep pg br aa fr fs gn true (ep+1) aa (1 - wh)) ⟨rfl,rfl,d',r,bD 5 (by kernel_rfl) (le_refl _) o2 o1⟩
 have s3:∀(t:D3),tx t->coX s=asa t (1 - wh) (ep+1) aa->Safe P 16 X (dO ql s) (aoP t.1 t.2.1 t.2.2 wh true ep pg br aa fr fs gn false (ep+1) aa (1 - wh)):=λt d c=>by
  have d':=ai9 (k:=1 - wh) (b:=true) (me:=ep+1) (mp:=aa) d;unfold asa at c;refine Ds.cF hz hX pD jO func16 (aAH t.1 t.2.1 t.2.2 wh true ep pg br aa fr fs gn false (ep+1) aa (1 - wh)) ⟨rfl,rfl,d,hk,λh=> ?_,λh=>⟨rA (by omega) (by omega),λ_=>⟨by omega,by omega, ?_⟩,λh=>(by cases h)⟩⟩;rw[if_pos (bne_iff_ne.1 h)]at c;have⟨r,o1,o2⟩:=bad _ _ d' c (bne_iff_ne.1 h);exact⟨rfl,rfl,d',r,bD 5 (by kernel_rfl) (le_refl _) o2 o1⟩;rw[if_neg (λx=>Bool.false_ne_true (h.symm.trans (bne_iff_ne.2 x)))]at c;exact s4 _ d' c
 have s2:∀(t:D3),tx t->coX s=asb t (1 - wh) (ep+1) aa->Safe P 16 X (dO ql s) (aoO t.1 t.2.1 t.2.2 wh true ep pg br aa fr fs gn false (ep+1) aa (1 - wh)):=λt d c=>by
  have d':=aa4 d;unfold asb at c;refine Ds.cF hz hX pD jO func16 (aAG t.1 t.2.1 t.2.2 wh true ep pg br aa fr fs gn false (ep+1) aa (1 - wh)) ⟨rfl,rfl,d,λh=> ?_,λh=>⟨rA (by omega) (by omega),λ_=>⟨by omega,by omega, ?_⟩,λh=>(by cases h)⟩⟩;rw[if_pos (bne_iff_ne.1 h)]at c;have⟨r,o1,o2⟩:=bad _ _ d' c (bne_iff_ne.1 h);exact⟨rfl,rfl,d',r,bD 5 (by kernel_rfl) (le_refl _) o2 o1⟩;rw[if_neg (λx=>Bool.false_ne_true (h.symm.trans (bne_iff_ne.2 x)))]at c;exact s3 _ d' c
 have s1:∀(t:D3),tx t->coX s=asc t (1 - wh) (ep+1) aa->Safe P 16 X (dO ql s) (aoN t.1 t.2.1 t.2.2 wh true ep pg br aa fr fs gn false (ep+1) aa (1 - wh)):=λt d c=>by
  have d':=ai9 (k:=1 - wh) (b:=false) (me:=ep+1) (mp:=aa) d;unfold asc at c;refine Ds.cF hz hX pD jO func16 (aAF t.1 t.2.1 t.2.2 wh true ep pg br aa fr fs gn false (ep+1) aa (1 - wh)) ⟨rfl,rfl,d,hk,λh=> ?_,λh=>⟨rA (by omega) (by omega),λ_=>⟨by omega,by omega, ?_⟩,λh=>(by cases h)⟩⟩;rw[if_pos (bne_iff_ne.1 h)]at c;have⟨r,o1,o2⟩:=bad _ _ d' c (bne_iff_ne.1 h);exact⟨rfl,rfl,d',r,bD 5 (by kernel_rfl) (le_refl _) o2 o1⟩;rw[if_neg (λx=>Bool.false_ne_true (h.symm.trans (bne_iff_ne.2 x)))]at c;exact s2 _ d' c
 have s0:∀(t:D3),tx t->coX s=coR t (1 - wh) (ep+1) aa->Safe P 16 X (dO ql s) (aty t.1 t.2.1 t.2.2 wh true ep pg br aa fr fs gn false (ep+1) aa (1 - wh)):=λt d c=>by
  have d':=aa4 d;unfold coR at c;refine Ds.cF hz hX pD jO func16 (aAE t.1 t.2.1 t.2.2 wh true ep pg br aa fr fs gn false (ep+1) aa (1 - wh)) ⟨rfl,rfl,d,λh=> ?_,λh=>⟨rA (by omega) (by omega),λ_=>⟨by omega,by omega, ?_⟩,λh=>(by cases h)⟩⟩;rw[if_pos (bne_iff_ne.1 h)]at c;have⟨r,o1,o2⟩:=bad _ _ d' c (bne_iff_ne.1 h);exact⟨rfl,rfl,d',r,bD 5 (by kernel_rfl) (le_refl _) o2 o1⟩;rw[if_neg (λx=>Bool.false_ne_true (h.symm.trans (bne_iff_ne.2 x)))]at c;exact s1 _ d' c
 have s6:Safe P 16 X (dO ql s) (awc th m fu wh true ep pg br aa fr fs gn false (ep+1) aa (1 - wh)):=
  Ds.cF hz hX pD jO func16 (ayB th m fu wh true ep pg br aa fr fs gn false (ep+1) aa (1 - wh)) ⟨rfl,rfl,rfl,rfl,rfl,rfl,by omega,by omega,s0 (th,m,fu) hd x0⟩
 subst hs;exact Ds.cF hz hX pD jO func16 (aAD th m fu wh true ep pg br aa fr fs gn) ⟨λh=>absurd (of_decide_eq_true h) (by omega),λ_=>⟨⟨by omega,by omega⟩,rfl,rfl,hk,s6⟩⟩
theorem afl:fI P Bx.bO 18 awf:=by
 refine fS func18 ?_;rintro⟨th,m,fu,wh,ep,pg,br,aa,fr,fs,gn⟩ ⟨(hd:Ds.bm th m fu),(R:nF th m pg),_⟩ X hX hz;exact Ds.cF hz hX (by intro y hy;cases hy) (aK.Ok.cons (aoL.sum mA1) aK.Ok.nil) func18 (aAJ th m fu wh true ep pg br aa fr fs gn) ⟨rfl,rfl,hd,R,bD 5 (by kernel_rfl) (le_refl _) rfl rfl⟩
abbrev tE(n:Int):Th×As×Int×Int:=tD (th0 (4*n)) [] (-1) marks
def fmS(n:Int):Sd:=l6 ⟨(tE n).1,(tE n).2.1,(tE n).2.2.1,0,0,0,[],0,[],[],[]⟩ 0 1 0
theorem aoX{n:Int}(h:3<=n/\n<=1024):(tE n).2.2.2=0/\(tE n).2.2.1= -1/\(tE n).2.1=[]/\Ds.bm (tE n).1 (tE n).2.1 (tE n).2.2.1/\Ds.eF (tE n).1=n/\ze (tE n).1 (tE n).2.1 0 1 0:=by
 have hl:((th0 (4*n)).length:Int)=4*n:=by
  show((replicate _ _).length:Int)=_;rw[List.length_replicate];omega
 have hN:Ds.eF (th0 (4*n))=n:=by
  unfold Ds.eF;rw[hl,Int.tdiv_eq_ediv_of_nonneg (by omega)];omega
 have hd:Ds.bm (th0 (4*n)) [] (-1):=Ds.amu (by omega);show(tD (th0 (4*n)) [] (-1) marks).2.2.2=0/\(tD (th0 (4*n)) [] (-1) marks).2.2.1= -1/\(tD (th0 (4*n)) [] (-1) marks).2.1=[]/\Ds.bm (tD (th0 (4*n)) [] (-1) marks).1 (tD (th0 (4*n)) [] (-1) marks).2.1 (tD (th0 (4*n)) [] (-1) marks).2.2.1/\Ds.eF (tD (th0 (4*n)) [] (-1) marks).1=n/\ze (tD (th0 (4*n)) [] (-1) marks).1 (tD (th0 (4*n)) [] (-1) marks).2.1 0 1 0;generalize th0 (4*n)=th at hl hN hd ⊢;have k0:Ds.mN th 0=0:=Ds.lj.2 ⟨by omega,by omega,by omega⟩;have k1:Ds.mN th 1=0:=Ds.lj.2 ⟨by omega,by omega,by omega⟩;have o0:Ds.vU 1 0:=⟨by decide,by decide,by decide,by decide⟩;have o1:Ds.vU 0 0:=⟨by decide,by decide,by decide,by decide⟩;have⟨a1,a2,a3⟩:=Ds.ab5 (on:=true) hd (by decide) k0 o0;have a2:Ds.pV th (-1) 0 true 1 0= -1:=a2;have d1:=Ds.adV (k:=0) (on:=true) (ep:=1) (pg:=0) hd;rw[a2]at d1;have⟨b1,b2,b3⟩:=Ds.ab5 (on:=false) d1 (by decide) k1 o1;have b2:Ds.pV th (-1) 1 false 0 0= -1:=b2;have d2:=Ds.adV (k:=1) (on:=false) (ep:=0) (pg:=0) d1;rw[b2]at d2
 have e:tD th [] (-1) marks=(Ds.lM th (Ds.ku th (Ds.ku th [] (-1) 0 true 1 0) (-1) 1 false 0 0) (-1),[], -1,0):=by
  unfold tD;rw[if_neg (by omega)];show fo3 th (Ds.ku th [] (-1) 0 true 1 0,Ds.pV th (-1) 0 true 1 0,Ds.zG th (-1) 0 true 1 0) (false,(0:Int),(0:Int),())=_;unfold fo3;rw[if_neg (by rw[a1];simp),a2];show fo2 th (Ds.ku th (Ds.ku th [] (-1) 0 true 1 0) (-1) 1 false 0 0,Ds.pV th (-1) 1 false 0 0,Ds.zG th (-1) 1 false 0 0)=_;unfold fo2;rw[if_neg (by rw[b1];simp),b2];rfl
 rw[e];have d3:=Ds.asO d2;have l3:=aje th (Ds.ku th (Ds.ku th [] (-1) 0 true 1 0) (-1) 1 false 0 0) (-1);have r3:=λx=>Ds.asP (th:=th) (m:=Ds.ku th (Ds.ku th [] (-1) 0 true 1 0) (-1) 1 false 0 0) (fu:= -1) (x:=x);have d3:Ds.bm (Ds.lM th (Ds.ku th (Ds.ku th [] (-1) 0 true 1 0) (-1) 1 false 0 0) (-1)) [] (-1):=d3;have r3:∀x,Ds.cG (Ds.lM th (Ds.ku th (Ds.ku th [] (-1) 0 true 1 0) (-1) 1 false 0 0) (-1)) [] x=if x=1*4 then Ds.pe false 0 0 else if x=0*4 then Ds.pe true 1 0 else Ds.cG th [] x:=λx=>by rw[<-a3,<-b3];exact r3 x
 generalize Ds.lM th (Ds.ku th (Ds.ku th [] (-1) 0 true 1 0) (-1) 1 false 0 0) (-1)=th3 at d3 l3 r3;have n3:Ds.eF th3=n:=by rw[gO l3];exact hN
 have c0:Ds.mN th3 0=0:=by rw[tw l3];exact k0
 have c1:Ds.mN th3 1=0:=by rw[tw l3];exact k1
 have v0:=r3 (0*4);rw[if_neg (by decide),if_pos rfl]at v0;have v1:=r3 (1*4);rw[if_pos rfl]at v1;have⟨x1,x2,x3⟩:=Ds.amL c0 v0;have⟨y1,y2,y3⟩:=Ds.amL c1 v1;have⟨w1,w2,w3⟩:=Ds.adY (on:=true) o0;have⟨z1,z2,z3⟩:=Ds.adY (on:=false) o1;refine⟨rfl,rfl,rfl,d3,n3,.inl rfl,by rw[n3];exact h.1,x1.trans w1,x2.trans w2,x3.trans w3,λhh=> ?_⟩;have hh:Ds.iS th3 [] 1=true:=hh;rw[y1,z1]at hh;cases hh
theorem atz{n:Int}(h:3<=n/\n<=1024):SI (fmS n) [] [] 0 0 [] 0 0 [] 0:=by
 have⟨a,b,c,d,e,f⟩:=aoX h;exact SI.make f d (.inl ⟨rfl,rfl,rfl,rfl,rfl⟩) List.nodup_nil (λp hp=>by cases hp) c (zero_le _) (zero_le _) (zero_le _) (by decide)
end Ts
