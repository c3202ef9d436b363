/- Lemmas: N9, N10, N11, N12, N13, N14, N15, SxLit, SxRenew, N16, N17, N18, N19, S1, S2, M4, M5, M6, M7, M8, M9, M10, M11, M12, M13, M14, S1p, S2p, S3, S3p, S4, SxStill, S5, S6, S6p, S4p, S7, S7p, M15, M16, P1. -/
import Derived.Test.YthhcofcdkdknoaaGreatDoorPD
open Bool (and_eq_true cond_eq_ite not_eq_true')
open ByteArray (empty)
open Int (toNat_natCast)
open List (append_assoc append_nil cons_append getElem?_append_left getElem?_append_right getElem?_eq_none getElem?_eq_some_iff getElem?_map getElem?_set getElem_mem length_append length_cons length_drop length_map length_nil length_take map_append map_cons mem_append mem_append_right mem_cons mem_cons_of_mem mem_cons_self mem_flatMap mem_map mem_range mem_singleton nil_append nodup_append pairwise_cons replicate sum_cons take_of_length_le)
open Nat (add_zero le_of_ble_eq_true le_refl le_trans lt_or_ge zero_add zero_le)
open Option (map_eq_some_iff)
namespace Ts
open Go Go.Sx Go.Proofs Lf
theorem gT{th:Th}{ad:ByteArray}{op:Option ByteArray}{f:Nat}{m:As}{fu:Int}{fr fs gn:Ws}{n ae:Int}:xG th ad op (f+1) m fu fr fs gn n ae=
 if gF th m n ae≠0 then(m,fu,fr,fs,gn,[],gF th m n ae)
 else if lB th m n ae=true then
  if sH ad op (cv th m n ae)≠0 then(m,fu,fr,fs,gn,[],sH ad op (cv th m n ae))
  else iN (qE fs gn n) (bO th m fu fr (jW fs n) true (doE ad op (cv th m n ae)) (bh th m n ae))
 else if bh th m n ae=[]then(m,fu,fr,fs,gn,[],4)
 else if tQ th ad op f m fu fr fs gn ((bh th m n ae).getD (br (bh th m n ae) ad).toNat dB).2.1 (ae+1)≠0 then
  (qH th ad op f m fu fr fs gn ((bh th m n ae).getD (br (bh th m n ae) ad).toNat dB).2.1 (ae+1),qI th ad op f m fu fr fs gn ((bh th m n ae).getD (br (bh th m n ae) ad).toNat dB).2.1 (ae+1),
   qJ th ad op f m fu fr fs gn ((bh th m n ae).getD (br (bh th m n ae) ad).toNat dB).2.1 (ae+1),sg th ad op f m fu fr fs gn ((bh th m n ae).getD (br (bh th m n ae) ad).toNat dB).2.1 (ae+1),
   tP th ad op f m fu fr fs gn ((bh th m n ae).getD (br (bh th m n ae) ad).toNat dB).2.1 (ae+1),[],tQ th ad op f m fu fr fs gn ((bh th m n ae).getD (br (bh th m n ae) ad).toNat dB).2.1 (ae+1))
 else iN (qE (sg th ad op f m fu fr fs gn ((bh th m n ae).getD (br (bh th m n ae) ad).toNat dB).2.1 (ae+1)) (tP th ad op f m fu fr fs gn ((bh th m n ae).getD (br (bh th m n ae) ad).toNat dB).2.1 (ae+1)) n)
  (bO th (qH th ad op f m fu fr fs gn ((bh th m n ae).getD (br (bh th m n ae) ad).toNat dB).2.1 (ae+1)) (qI th ad op f m fu fr fs gn ((bh th m n ae).getD (br (bh th m n ae) ad).toNat dB).2.1 (ae+1))
    (qJ th ad op f m fu fr fs gn ((bh th m n ae).getD (br (bh th m n ae) ad).toNat dB).2.1 (ae+1)) (jW (sg th ad op f m fu fr fs gn ((bh th m n ae).getD (br (bh th m n ae) ad).toNat dB).2.1 (ae+1)) n) false (cv th m n ae)
    ((bh th m n ae).take (br (bh th m n ae) ad).toNat++l7 ((bh th m n ae).getD (br (bh th m n ae) ad).toNat dB).1 (uW th ad op f m fu fr fs gn ((bh th m n ae).getD (br (bh th m n ae) ad).toNat dB).2.1 (ae+1))++(bh th m n ae).drop ((br (bh th m n ae) ad).toNat+1))):=rfl
def awp(bs r:List Br)(k:Int):List Br:=cQ [(List.drop (Int.toNat 0) (List.take k.toNat bs),()),(r,()),(List.drop (k+1).toNat (List.take (bs.length:Int).toNat bs),())]
theorem adX{bs r:List Br}{k:Int}(h0:0<=k):awp bs r k=bs.take k.toNat++r++bs.drop (k.toNat+1):=by
 show List.drop 0 (List.take k.toNat bs)++(r++(List.drop (k+1).toNat (List.take (bs.length:Int).toNat bs)++[]))=_;rw[append_nil,List.drop_zero,append_assoc,show(bs.length:Int).toNat=bs.length from rfl,List.take_length,show(k+1).toNat=k.toNat+1 from by omega]
theorem am6{th:Th}{m:As}{fu aa:Int}{fr fs gn:Ws}{n ae:Int}{ad val:ByteArray}{f:Nat}{c:Chg}(e:xG th ad (some val) f m fu fr fs gn n ae=c):
 (yO f).eG ((th,m,fu,aa,fr,fs,gn),n,ae,ad,val)=se th c.1 c.2.1 aa c.2.2.1 c.2.2.2.1 c.2.2.2.2.1 ad val++[.aq (.az cB c.2.2.2.2.2.1) Lf.eB]/\(yO f).out ((th,m,fu,aa,fr,fs,gn),n,ae,ad,val)=.bD [.aq 6,bQ c.2.2.2.2.2.2]:=by
 subst e;exact⟨rfl,rfl⟩
theorem ajT{th:Th}{m:As}{fu aa:Int}{fr fs gn:Ws}{n ae:Int}{ad val:ByteArray}{f:Nat}{c:Chg}(e:xG th ad none f m fu fr fs gn n ae=c):
 (yP f).eG ((th,m,fu,aa,fr,fs,gn),n,ae,ad,val)=sf th c.1 c.2.1 aa c.2.2.1 c.2.2.2.1 c.2.2.2.2.1 ad++[.aq (.az cB c.2.2.2.2.2.1) Lf.eB]/\(yP f).out ((th,m,fu,aa,fr,fs,gn),n,ae,ad,val)=.bD [.aq 5,bQ c.2.2.2.2.2.2]:=by
 subst e;exact⟨rfl,rfl⟩
theorem tV{bs:List Br}{ad:ByteArray}(hs:jk (nw bs))(h:bs≠[]):0<=br bs ad/\br bs ad<(bs.length:Int):=by
 have⟨p,e,hp,_⟩:=xn (ks:=nw bs) (ad:=ad) hs (by cases bs with|nil=>exact absurd rfl h|cons b r=>simp);unfold br;rw[e];rw[length_map]at hp;exact⟨by omega,by omega⟩
theorem adY{r:List Br}{k:ByteArray}(h:0<r.length):(r.set 0 (k,(r.getD 0 (CL.d [CK.ag,CK.int IntKind.i64])).snd):List Br)=l7 k r:=by
 cases r with
 |nil=>simp at h
 |cons b r=>rfl
theorem uJ{n:Int}(h0: -65537<=n)(h1:n<=65537):aG n:=⟨by omega,by omega⟩
theorem tW{th:Th}{m:As}{n ae:Int}(h:gF th m n ae=0)(k:Nat):0<=((bh th m n ae).getD k dB).2.1/\((bh th m n ae).getD k dB).2.1<=65536:=by
 have⟨hm,_⟩:=fF h;rcases lt_or_ge k (bh th m n ae).length with hk|hk;have:=adA (eJ hm).2.2.2 (getElem_mem hk);rw[bt hk];omega;rw[List.getD,getElem?_eq_none hk];exact⟨Int.le_refl 0,by show(0:Int)<=65536;omega⟩
theorem am7{f:Nat}(h:gE P Bx.bZ 144 (yO f)):(p7 f).Ok P Bx.bZ:=aR.Ok.cons (pA.sum mNo) (aR.Ok.cons (xH.sum mLv) (aR.Ok.cons (jo (gY (kM.sum mTN) 1 _) 1) (aR.Ok.cons ams.wQ (aR.Ok.cons xj.sum (aR.Ok.cons tN.sum (aR.Ok.cons (h.sum apR) aR.Ok.nil))))))
section
variable{th:Th}{m:As}{fu aa:Int}{fr fs gn:Ws}{n ae:Int}{ad val:ByteArray}{f:Nat}{X:Ctx}
theorem adZ{th:Th}{m:As}{fu aa:Int}{fr fs gn:Ws}{ad val:ByteArray}:∀y∈af7,(se th m fu aa fr fs gn ad val).length<=y.2.m:=λy hy=>by
 simp only[af7,mem_cons,List.not_mem_nil,or_false]at hy;rcases hy with rfl|rfl|rfl|rfl<;>exact le_refl _
theorem ahU(hz:eO Bx.bZ X)(hX:X.H=lk (se th m fu aa fr fs gn ad val))(T:(p7 f).Ok P Bx.bZ){m':As}{fJ:Int}{yQ qS gn':Ws}{l:Bool}{es:List En}{bs:List Br}{k:Int}{r:List Br}(hd:Ds.bz th m' fJ)(hf:Bx.okW yQ)(hl:l=false/\es=[])(he:bF es)
 (hb:bG (bs.take k.toNat++r++bs.drop (k.toNat+1))) (hk0:0<=k) (uQ:k<(bs.length:Int)) (hbl:bs.length<=84)
 (e:xG th ad (some val) (f+1) m fu fr fs gn n ae=iN (qE qS gn' n) (bO th m' fJ yQ (jW qS n) l es (bs.take k.toNat++r++bs.drop (k.toNat+1)))):
 Safe P 144 X (yN (yO (f+1)) ((th,m,fu,aa,fr,fs,gn),n,ae,ad,val)) (amT th m' fJ aa yQ qS gn' n ad val l es bs k r):=by
 rw[<-adX hk0]at hb e;have hjl:=hb.1;have⟨f1,f2⟩:=am6 (aa:=aa) (val:=val) e;refine Ds.dk hz hX adZ T Tryz.func144 (aud f th m' fJ aa yQ qS gn' n ad val l es bs k r) ⟨by omega,hk0,by omega,⟨by omega,by omega⟩,by omega,by omega,by omega,by show 3<=100;omega, ?_,rfl,rfl,rfl,rfl,hd,hf,⟨λh=>(by rw[hl.1]at h;cases h),λ_=>hl.2⟩,he,hb, ?_⟩;exact le_trans hjl (by omega);exact lK ⟨[],[0,1],6,[]⟩ rfl (le_refl _) (p6.same _) f2 f1
theorem apY(hz:eO Bx.bZ X)(hX:X.H=lk (se th m fu aa fr fs gn ad val))(T:(p7 f).Ok P Bx.bZ){m':As}{fJ:Int}{yQ qS gn':Ws}{l:Bool}{es:List En}{bs:List Br}{k e:Int}{r:List Br}(hd:Ds.bz th m' fJ)(hf:Bx.okW yQ)(hl:l=false/\es=[])(he:bF es)
 (hb:bG (bs.take k.toNat++l7 (bs.getD k.toNat dB).1 r++bs.drop (k.toNat+1))) (hk0:0<=k) (uQ:k<(bs.length:Int)) (hbl:bs.length<=84)
 (ee:xG th ad (some val) (f+1) m fu fr fs gn n ae=if e≠0 then(m',fJ,yQ,qS,gn',[],e)else iN (qE qS gn' n) (bO th m' fJ yQ (jW qS n) l es (bs.take k.toNat++l7 (bs.getD k.toNat dB).1 r++bs.drop (k.toNat+1)))):
 Safe P 144 X (yN (yO (f+1)) ((th,m,fu,aa,fr,fs,gn),n,ae,ad,val)) (amS th m' fJ aa yQ qS gn' n ad val l es bs k e r):=by
 refine Ds.dk hz hX adZ T Tryz.func144 (auc f th m' fJ aa yQ qS gn' n ad val l es bs k e r) ⟨λh=> ?_,λh=>⟨λh5=> ?_,λh5=> ?_⟩⟩;have h:e≠0:=by simpa using h
 rw[if_pos h]at ee;have⟨f1,f2⟩:=am6 (aa:=aa) (val:=val) ee;exact lK ⟨[(0,.az cB [],Lf.eB)],[0,1],6,[]⟩ rfl (le_refl _) (p6.same _) f2 f1;have h:¬e≠0:=by simpa using h
 rw[if_neg h]at ee;have h5:=of_decide_eq_true h5;have e5:=adY (r:=r) (k:=(bs.getD k.toNat dB).1) (by omega);rw[<-e5]at hb ee;exact⟨hk0,uQ,by omega,h5,ahU hz hX T hd hf hl he hb hk0 uQ hbl ee⟩;have h:¬e≠0:=by simpa using h
 rw[if_neg h]at ee;have h5:=of_decide_eq_false h5;have e5:r=[]:=List.eq_nil_of_length_eq_zero (by omega);subst e5;exact ahU hz hX T hd hf hl he hb hk0 uQ hbl ee
theorem apZ(hz:eO Bx.bZ X)(hX:X.H=lk (se th m fu aa fr fs gn ad val))(T:(p7 f).Ok P Bx.bZ)(hd:Ds.bz th m fu)(hf:Bx.okW fr)(h1:1<=ae/\ae<=17)(h2:18<=ae+((f+1:Nat):Int))(hk:1<=ad.size/\ad.size<=24)(hv:val.size<=100)
 (h:gF th m n ae=0) (hl:lB th m n ae=false):
 Safe P 144 X (yN (yO (f+1)) ((th,m,fu,aa,fr,fs,gn),n,ae,ad,val)) (amR th m fu aa fr fs gn n ae ad val (lB th m n ae) (cv th m n ae) (bh th m n ae)):=by
 have⟨hm,n1,n2,n3,n4,n5,_⟩:=fF h;have⟨m1,m2,_,_⟩:=eJ hm;have⟨s1,s2⟩:=r9 hm;have hkk:∀v:ByteArray,(some val)=some v->v.size<=100:=λv e=>by cases e;exact hv
 refine Ds.dk hz hX adZ T Tryz.func144 (aub f th m fu aa fr fs gn n ae ad val (lB th m n ae) (cv th m n ae) (bh th m n ae)) ⟨λh3=> ?_,λh3=> ?_⟩
 have h3:bh th m n ae=[]:=List.eq_nil_of_length_eq_zero (by have:((bh th m n ae).length:Int)=0:=by simpa using h3
                                                            omega)
 have⟨f1,f2⟩:=am6 (val:=val) (aa:=aa) (th:=th) (m:=m) (fu:=fu) (fr:=fr) (fs:=fs) (gn:=gn) (ad:=ad) (f:=f+1) (n:=n) (ae:=ae) (c:=(m,fu,fr,fs,gn,[],4)) (by rw[gT,if_neg (by rw[h];simp),if_neg (by rw[hl];simp),if_pos h3]);exact lK ⟨[(0,.az cB [],Lf.eB)],[0,1],6,[]⟩ rfl (le_refl _) (p6.same _) f2 f1;have h3:bh th m n ae≠[]:=λe=>by rw[e]at h3;simp at h3
 have⟨p0,p1⟩:=tV (ad:=ad) s2 h3;have pg:=tW h (br (bh th m n ae) ad).toNat;have abN:=sq (th:=th) (ad:=ad) (op:=(some val)) hk.2 f (m:=m) (fu:=fu) (fr:=fr) (fs:=fs) (gn:=gn) (n:=((bh th m n ae).getD (br (bh th m n ae) ad).toNat dB).2.1) (ae:=ae+1) hd hf;have hb:=xS (bs:=bh th m n ae) (k:=(br (bh th m n ae) ad).toNat) (adW hm).2 n2 abN.two abN.ad (qM (adW hm).2 (br (bh th m n ae) ad).toNat);refine⟨by omega,s2,p0,p1,uJ (by omega) (by omega),rfl,rfl,hd,hf,pg,⟨by omega,by omega⟩,by omega,hk,hv,apY hz hX T abN.d abN.fr ⟨hl,m2 hl⟩ n3 hb p0 p1 n2 ?_⟩;rw[gT,if_neg (by rw[h];simp),if_neg (by rw[hl];simp),if_neg h3,hl];rfl
theorem aui(hz:eO Bx.bZ X)(hX:X.H=lk (se th m fu aa fr fs gn ad val))(T:(p7 f).Ok P Bx.bZ)(hd:Ds.bz th m fu)(hf:Bx.okW fr)(hk:1<=ad.size/\ad.size<=24)(hv:val.size<=100)
 (h:gF th m n ae=0) (hl:lB th m n ae=true):
 Safe P 144 X (yN (yO (f+1)) ((th,m,fu,aa,fr,fs,gn),n,ae,ad,val)) (awk th m fu aa fr fs gn n ad val (cv th m n ae) (bh th m n ae)):=by
 have⟨hm,n1,n2,n3,n4,n5,_⟩:=fF h;have⟨m1,m2,_,_⟩:=eJ hm;have⟨s1,s2⟩:=r9 hm;have hkk:∀v:ByteArray,(some val)=some v->v.size<=100:=λv e=>by cases e;exact hv
 have⟨f1,f2⟩:=am6 (val:=val) (aa:=aa) (th:=th) (m:=m) (fu:=fu) (fr:=fr) (fs:=fs) (gn:=gn) (ad:=ad) (f:=f+1) (n:=n) (ae:=ae) (c:=iN (qE fs gn n) (bO th m fu fr (jW fs n) true (bX (cv th m n ae) ad val) (bh th m n ae))) (by rw[gT,if_neg (by rw[h];simp),if_pos hl,if_neg (by show¬(0:Int)≠0;simp)];rfl);refine Ds.dk hz hX adZ T Tryz.func144 (awm f th m fu aa fr fs gn n ad val (cv th m n ae) (bh th m n ae)) ⟨by omega,s1,rfl,rfl,rfl,rfl,hd,hf,⟨λ_=>m1 hl,λe=>by cases e⟩,pD (op:=some val) hk.2 hkk n1 n3,n4, ?_⟩;exact lK ⟨[],[0,1],6,[]⟩ rfl (le_refl _) (p6.same _) f2 f1
theorem xT:∀f,gE P Bx.bZ 144 (yO f)
 |0=>by
  rintro⟨⟨(th:Th),(m:As),(fu:Int),(aa:Int),(fr:Ws),(fs:Ws),(gn:Ws)⟩,(n:Int),(ae:Int),(ad:ByteArray),(val:ByteArray)⟩ ⟨_,_,_,(h1:1<=ae/\ae<=17),(h2:18<=ae+((0:Nat):Int)),_⟩;omega
 |f+1=>by
  have T:=am7 (xT f);refine gx Tryz.func144 (by kernel_rfl) (λx=>le_of_ble_eq_true (by kernel_rfl)) ?_;rintro⟨⟨(th:Th),(m:As),(fu:Int),(aa:Int),(fr:Ws),(fs:Ws),(gn:Ws)⟩,(n:Int),(ae:Int),(ad:ByteArray),(val:ByteArray)⟩ ⟨(hd:Ds.bz th m fu),(hf:Bx.okW fr),(hn:0<=n/\n<=65536),(h1:1<=ae/\ae<=17),(h2:18<=ae+((f+1:Nat):Int)),(hk:1<=ad.size/\ad.size<=24),(hv:val.size<=100),_⟩ X hX hz;refine Ds.dk hz hX adZ T Tryz.func144 (ayj f th m fu aa fr fs gn n ae ad val) ⟨rfl,rfl,hd,uJ (by omega) (by omega),λh=> ?_,λh=>⟨λhl=> ?_,λhl=> ?_⟩⟩;have h:gF th m n ae≠0:=by simpa using h
  have⟨f1,f2⟩:=am6 (val:=val) (aa:=aa) (th:=th) (m:=m) (fu:=fu) (fr:=fr) (fs:=fs) (gn:=gn) (ad:=ad) (f:=f+1) (n:=n) (ae:=ae) (c:=(m,fu,fr,fs,gn,[],gF th m n ae)) (by rw[gT,if_pos h]);exact lK ⟨[(0,.az cB [],Lf.eB)],[0,1],6,[]⟩ rfl (le_refl _) (p6.same _) f2 f1;have h:gF th m n ae=0:=by simpa using h
  have e:=aui (aa:=aa) (val:=val) (gn:=gn) (fs:=fs) hz hX T hd hf hk hv h hl;rw[hl];exact e;have h:gF th m n ae=0:=by simpa using h
  exact apZ hz hX T hd hf h1 h2 hk hv h hl
end
theorem am8{f:Nat}(h:gE P Bx.bZ 144 (yP f)):(p8 f).Ok P Bx.bZ:=aR.Ok.cons (pA.sum mNo) (aR.Ok.cons (xH.sum mLv) (aR.Ok.cons (jo (gY (kM.sum mTN) 1 _) 1) (aR.Ok.cons amj.sum (aR.Ok.cons xj.sum (aR.Ok.cons tN.sum (aR.Ok.cons (h.sum apS) aR.Ok.nil))))))
section
variable{th:Th}{m:As}{fu aa:Int}{fr fs gn:Ws}{n ae:Int}{ad val:ByteArray}{f:Nat}{X:Ctx}
theorem ad0{th:Th}{m:As}{fu aa:Int}{fr fs gn:Ws}{ad:ByteArray}:∀y∈af8,(sf th m fu aa fr fs gn ad).length<=y.2.m:=λy hy=>by
 simp only[af8,mem_cons,List.not_mem_nil,or_false]at hy;rcases hy with rfl|rfl|rfl|rfl<;>exact le_refl _
theorem ahV(hz:eO Bx.bZ X)(hX:X.H=lk (sf th m fu aa fr fs gn ad))(T:(p8 f).Ok P Bx.bZ){m':As}{fJ:Int}{yQ qS gn':Ws}{l:Bool}{es:List En}{bs:List Br}{k:Int}{r:List Br}(hd:Ds.bz th m' fJ)(hf:Bx.okW yQ)(hl:l=false/\es=[])(he:bF es)
 (hb:bG (bs.take k.toNat++r++bs.drop (k.toNat+1))) (hk0:0<=k) (uQ:k<(bs.length:Int)) (hbl:bs.length<=84)
 (e:xG th ad none (f+1) m fu fr fs gn n ae=iN (qE qS gn' n) (bO th m' fJ yQ (jW qS n) l es (bs.take k.toNat++r++bs.drop (k.toNat+1)))):
 Safe P 144 X (yN (yP (f+1)) ((th,m,fu,aa,fr,fs,gn),n,ae,ad,val)) (amW th m' fJ aa yQ qS gn' n ad l es bs k r):=by
 rw[<-adX hk0]at hb e;have hjl:=hb.1;have⟨f1,f2⟩:=ajT (aa:=aa) (val:=val) e;refine Ds.dk hz hX ad0 T Tryz.func144 (aug f th m' fJ aa yQ qS gn' n ad l es bs k r) ⟨by omega,hk0,by omega,⟨by omega,by omega⟩,by omega,by omega,by omega,by show 3<=100;omega, ?_,rfl,rfl,rfl,rfl,hd,hf,⟨λh=>(by rw[hl.1]at h;cases h),λ_=>hl.2⟩,he,hb, ?_⟩;exact le_trans hjl (by omega);exact lK ⟨[],[0,1],5,[]⟩ rfl (le_refl _) (p6.same _) f2 f1
theorem ap0(hz:eO Bx.bZ X)(hX:X.H=lk (sf th m fu aa fr fs gn ad))(T:(p8 f).Ok P Bx.bZ){m':As}{fJ:Int}{yQ qS gn':Ws}{l:Bool}{es:List En}{bs:List Br}{k e:Int}{r:List Br}(hd:Ds.bz th m' fJ)(hf:Bx.okW yQ)(hl:l=false/\es=[])(he:bF es)
 (hb:bG (bs.take k.toNat++l7 (bs.getD k.toNat dB).1 r++bs.drop (k.toNat+1))) (hk0:0<=k) (uQ:k<(bs.length:Int)) (hbl:bs.length<=84)
 (ee:xG th ad none (f+1) m fu fr fs gn n ae=if e≠0 then(m',fJ,yQ,qS,gn',[],e)else iN (qE qS gn' n) (bO th m' fJ yQ (jW qS n) l es (bs.take k.toNat++l7 (bs.getD k.toNat dB).1 r++bs.drop (k.toNat+1)))):
 Safe P 144 X (yN (yP (f+1)) ((th,m,fu,aa,fr,fs,gn),n,ae,ad,val)) (amV th m' fJ aa yQ qS gn' n ad l es bs k e r):=by
 refine Ds.dk hz hX ad0 T Tryz.func144 (auf f th m' fJ aa yQ qS gn' n ad l es bs k e r) ⟨λh=> ?_,λh=>⟨λh5=> ?_,λh5=> ?_⟩⟩;have h:e≠0:=by simpa using h
 rw[if_pos h]at ee;have⟨f1,f2⟩:=ajT (aa:=aa) (val:=val) ee;exact lK ⟨[(0,.az cB [],Lf.eB)],[0,1],5,[]⟩ rfl (le_refl _) (p6.same _) f2 f1;have h:¬e≠0:=by simpa using h
 rw[if_neg h]at ee;have h5:=of_decide_eq_true h5;have e5:=adY (r:=r) (k:=(bs.getD k.toNat dB).1) (by omega);rw[<-e5]at hb ee;exact⟨hk0,uQ,by omega,h5,ahV hz hX T hd hf hl he hb hk0 uQ hbl ee⟩;have h:¬e≠0:=by simpa using h
 rw[if_neg h]at ee;have h5:=of_decide_eq_false h5;have e5:r=[]:=List.eq_nil_of_length_eq_zero (by omega);subst e5;exact ahV hz hX T hd hf hl he hb hk0 uQ hbl ee
theorem ap1(hz:eO Bx.bZ X)(hX:X.H=lk (sf th m fu aa fr fs gn ad))(T:(p8 f).Ok P Bx.bZ)(hd:Ds.bz th m fu)(hf:Bx.okW fr)(h1:1<=ae/\ae<=17)(h2:18<=ae+((f+1:Nat):Int))(hk:1<=ad.size/\ad.size<=24)
 (h:gF th m n ae=0) (hl:lB th m n ae=false):
 Safe P 144 X (yN (yP (f+1)) ((th,m,fu,aa,fr,fs,gn),n,ae,ad,val)) (amU th m fu aa fr fs gn n ae ad (lB th m n ae) (cv th m n ae) (bh th m n ae)):=by
 have⟨hm,n1,n2,n3,n4,n5,_⟩:=fF h;have⟨m1,m2,_,_⟩:=eJ hm;have⟨s1,s2⟩:=r9 hm;have hkk:∀v:ByteArray,none=some v->v.size<=100:=λv e=>by cases e
 refine Ds.dk hz hX ad0 T Tryz.func144 (aue f th m fu aa fr fs gn n ae ad (lB th m n ae) (cv th m n ae) (bh th m n ae)) ⟨λh3=> ?_,λh3=> ?_⟩
 have h3:bh th m n ae=[]:=List.eq_nil_of_length_eq_zero (by have:((bh th m n ae).length:Int)=0:=by simpa using h3
                                                            omega)
 have⟨f1,f2⟩:=ajT (val:=val) (aa:=aa) (th:=th) (m:=m) (fu:=fu) (fr:=fr) (fs:=fs) (gn:=gn) (ad:=ad) (f:=f+1) (n:=n) (ae:=ae) (c:=(m,fu,fr,fs,gn,[],4)) (by rw[gT,if_neg (by rw[h];simp),if_neg (by rw[hl];simp),if_pos h3]);exact lK ⟨[(0,.az cB [],Lf.eB)],[0,1],5,[]⟩ rfl (le_refl _) (p6.same _) f2 f1;have h3:bh th m n ae≠[]:=λe=>by rw[e]at h3;simp at h3
 have⟨p0,p1⟩:=tV (ad:=ad) s2 h3;have pg:=tW h (br (bh th m n ae) ad).toNat;have abN:=sq (th:=th) (ad:=ad) (op:=none) hk.2 f (m:=m) (fu:=fu) (fr:=fr) (fs:=fs) (gn:=gn) (n:=((bh th m n ae).getD (br (bh th m n ae) ad).toNat dB).2.1) (ae:=ae+1) hd hf;have hb:=xS (bs:=bh th m n ae) (k:=(br (bh th m n ae) ad).toNat) (adW hm).2 n2 abN.two abN.ad (qM (adW hm).2 (br (bh th m n ae) ad).toNat);refine⟨by omega,s2,p0,p1,uJ (by omega) (by omega),rfl,rfl,hd,hf,pg,⟨by omega,by omega⟩,by omega,hk,(zero_le 100),ap0 hz hX T abN.d abN.fr ⟨hl,m2 hl⟩ n3 hb p0 p1 n2 ?_⟩;rw[gT,if_neg (by rw[h];simp),if_neg (by rw[hl];simp),if_neg h3,hl];rfl
theorem auj(hz:eO Bx.bZ X)(hX:X.H=lk (sf th m fu aa fr fs gn ad))(T:(p8 f).Ok P Bx.bZ)(hd:Ds.bz th m fu)(hf:Bx.okW fr)(hk:1<=ad.size/\ad.size<=24)
 (h:gF th m n ae=0) (hl:lB th m n ae=true):
 Safe P 144 X (yN (yP (f+1)) ((th,m,fu,aa,fr,fs,gn),n,ae,ad,val)) (awl th m fu aa fr fs gn n ad (cv th m n ae) (bh th m n ae)):=by
 have⟨hm,n1,n2,n3,n4,n5,_⟩:=fF h;have⟨m1,m2,_,_⟩:=eJ hm;have⟨s1,s2⟩:=r9 hm;have hkk:∀v:ByteArray,none=some v->v.size<=100:=λv e=>by cases e
 refine Ds.dk hz hX ad0 T Tryz.func144 (awn f th m fu aa fr fs gn n ad (cv th m n ae) (bh th m n ae)) ⟨by omega,s1,λhb=> ?_,λhb=> ?_⟩;have hb:iV (cv th m n ae) ad=false:=by simpa using hb
 have hc:sH ad none (cv th m n ae)=5:=by show(if iV (cv th m n ae) ad=true then(0:Int)else 5)=5;rw[if_neg (by rw[hb];simp)]
 have⟨f1,f2⟩:=ajT (val:=val) (aa:=aa) (th:=th) (m:=m) (fu:=fu) (fr:=fr) (fs:=fs) (gn:=gn) (ad:=ad) (f:=f+1) (n:=n) (ae:=ae) (c:=(m,fu,fr,fs,gn,[],5)) (by rw[gT,if_neg (by rw[h];simp),if_pos hl,if_pos (by rw[hc];simp),hc]);exact lK ⟨[(0,.az cB [],Lf.eB)],[0,1],5,[]⟩ rfl (le_refl _) (p6.same _) f2 f1;have hb:iV (cv th m n ae) ad=true:=by simpa using hb
 have hc:sH ad none (cv th m n ae)=0:=by show(if iV (cv th m n ae) ad=true then(0:Int)else 5)=0;rw[if_pos hb]
 have ee:doE ad none (cv th m n ae)=cN (cv th m n ae) ad:=by show(if iV (cv th m n ae) ad=true then _ else _)=_;rw[if_pos hb]
 have sm:=pD (ad:=ad) (op:=none) (es:=cv th m n ae) hk.2 hkk n1 n3;have⟨f1,f2⟩:=ajT (val:=val) (aa:=aa) (th:=th) (m:=m) (fu:=fu) (fr:=fr) (fs:=fs) (gn:=gn) (ad:=ad) (f:=f+1) (n:=n) (ae:=ae) (c:=iN (qE fs gn n) (bO th m fu fr (jW fs n) true (cN (cv th m n ae) ad) (bh th m n ae))) (by rw[gT,if_neg (by rw[h];simp),if_pos hl,if_neg (by rw[hc];simp),ee]);rw[ee]at sm;exact⟨rfl,rfl,rfl,rfl,hd,hf,⟨λ_=>m1 hl,λe=>by cases e⟩,sm,n4,lK ⟨[],[0,1],5,[]⟩ rfl (le_refl _) (p6.same _) f2 f1⟩
theorem xU:∀f,gE P Bx.bZ 144 (yP f)
 |0=>by
  rintro⟨⟨(th:Th),(m:As),(fu:Int),(aa:Int),(fr:Ws),(fs:Ws),(gn:Ws)⟩,(n:Int),(ae:Int),(ad:ByteArray),(val:ByteArray)⟩ ⟨_,_,_,(h1:1<=ae/\ae<=17),(h2:18<=ae+((0:Nat):Int)),_⟩;omega
 |f+1=>by
  have T:=am8 (xU f);refine gx Tryz.func144 (by kernel_rfl) (λx=>le_of_ble_eq_true (by kernel_rfl)) ?_;rintro⟨⟨(th:Th),(m:As),(fu:Int),(aa:Int),(fr:Ws),(fs:Ws),(gn:Ws)⟩,(n:Int),(ae:Int),(ad:ByteArray),(val:ByteArray)⟩ ⟨(hd:Ds.bz th m fu),(hf:Bx.okW fr),(hn:0<=n/\n<=65536),(h1:1<=ae/\ae<=17),(h2:18<=ae+((f+1:Nat):Int)),(hk:1<=ad.size/\ad.size<=24),(hv:val.size<=100),_⟩ X hX hz;refine Ds.dk hz hX ad0 T Tryz.func144 (ayk f th m fu aa fr fs gn n ae ad) ⟨rfl,rfl,hd,uJ (by omega) (by omega),λh=> ?_,λh=>⟨λhl=> ?_,λhl=> ?_⟩⟩;have h:gF th m n ae≠0:=by simpa using h
  have⟨f1,f2⟩:=ajT (val:=val) (aa:=aa) (th:=th) (m:=m) (fu:=fu) (fr:=fr) (fs:=fs) (gn:=gn) (ad:=ad) (f:=f+1) (n:=n) (ae:=ae) (c:=(m,fu,fr,fs,gn,[],gF th m n ae)) (by rw[gT,if_pos h]);exact lK ⟨[(0,.az cB [],Lf.eB)],[0,1],5,[]⟩ rfl (le_refl _) (p6.same _) f2 f1;have h:gF th m n ae=0:=by simpa using h
  have e:=auj (aa:=aa) (val:=val) (gn:=gn) (fs:=fs) hz hX T hd hf hk h hl;rw[hl];exact e;have h:gF th m n ae=0:=by simpa using h
  exact ap1 hz hX T hd hf h1 h2 hk h hl
end
def pL(th:Th)(m:As):Nat->Ws->Ws->Int->Int->Ws×Ws×Int×Int
 |0,fs,gn,_,_=>(fs,gn,0,4)
 |f+1,fs,gn,n,ae=>
  if gF th m n ae≠0 then(fs,gn,0,gF th m n ae)
  else if lB th m n ae=true\/(bh th m n ae).length≠1 then(fs,gn,n,0)
  else pL th m f (jW fs n) (qE fs gn n) ((bh th m n ae).getD 0 dB).2.1 (ae+1)
def xW(th:Th)(m:As)(f:Nat)(fs gn:Ws)(n ae:Int):Ws:=(pL th m f fs gn n ae).1
def xX(th:Th)(m:As)(f:Nat)(fs gn:Ws)(n ae:Int):Ws:=(pL th m f fs gn n ae).2.1
def yR(th:Th)(m:As)(f:Nat)(fs gn:Ws)(n ae:Int):Int:=(pL th m f fs gn n ae).2.2.1
def yS(th:Th)(m:As)(f:Nat)(fs gn:Ws)(n ae:Int):Int:=(pL th m f fs gn n ae).2.2.2
abbrev sLo:Spec (XT×Int):=⟨λ(_,n)=>[.an 0 0,bQ n],λ((th,m,fu,aa,fr,fs,gn),_)=>hT th m fu aa fr fs gn,λ((th,m,fu,_),n)=>[Ds.bz th m fu,0<=n/\n<=65536],
 λ((th,m,fu,aa,fr,fs,gn),n)=>hT th m fu aa fr (xW th m 17 fs gn n 1) (xX th m 17 fs gn n 1),λ((th,m,_,_,_,fs,gn),n)=>.bD [bQ (yR th m 17 fs gn n 1),bQ (yS th m 17 fs gn n 1)]⟩
def am9:aR:=[(77,aad),(149,amQ)]
def ap2:List (Nat×Norm):=[(3,⟨[],[0,1,6],4,[]⟩)]
noncomputable def cLo(th:Th)(m:As)(fu aa:Int)(fr fs gn:Ws)(n ae:Int):cn:=⟨sl 38 [(0,.an 0 0),(1,bQ n),(6,bQ ae)],hT th m fu aa fr fs gn,hd Tryz.f113 3,{}⟩
theorem ayl(th:Th)(m:As)(fu aa:Int)(fr fs gn:Ws)(n:Int):run P am9.sum Tryz.f113 ap2 (start Tryz.f113 [.an 0 0,bQ n] (hT th m fu aa fr fs gn))=
 Tree.at (cLo th m fu aa fr fs gn n 1):=by kernel_rfl
theorem aym(th:Th)(m:As)(fu aa:Int)(fr fs gn:Ws)(n ae:Int):run P am9.sum Tryz.f113 ap2 (cLo th m fu aa fr fs gn n ae)=
 Tree.ab (bx (some [AV.an 0 0,.s (.int .i64 n),.s (.int .i64 ae)])) (.ab (bx (some (hT th m fu aa fr fs gn))) (.ab (Ds.bz th m fu) (.ab (aG n) (.ite (gF th m n ae !=0) (.ret (hT th m fu aa fr fs gn++[.ay [.s (.bool (lB th m n ae)),.s (.ro (.az [.ag,.ag] (cv th m n ae))),.s (.ro (.az [.ag,.int .i64] (bh th m n ae)))] 131]) (.bD [.s (.aZ .i64 0),.s (.int .i64 (gF th m n ae))])) (.ite (lB th m n ae) (.ret (hT th m fu aa fr fs gn++[.ay [.s (.bool (lB th m n ae)),.s (.ro (.az [.ag,.ag] (cv th m n ae))),.s (.ro (.az [.ag,.int .i64] (bh th m n ae)))] 131]) (.bD [.s (.int .i64 n),.s (.aZ .i64 0)])) (.ite ((↑(bh th m n ae).length:Int) !=1) (.ret (hT th m fu aa fr fs gn++[.ay [.s (.bool (lB th m n ae)),.s (.ro (.az [.ag,.ag] (cv th m n ae))),.s (.ro (.az [.ag,.int .i64] (bh th m n ae)))] 131]) (.bD [.s (.int .i64 n),.s (.aZ .i64 0)])) (.ab (bx (some [AV.an 0 0,.s (.int .i64 n)])) (.ab (bx (some (hT th m fu aa fr fs gn))) (.ab ((0:Int)<=0) (.ab ((0:Int)<(↑(bh th m n ae).length:Int)) (.ab (aG (ae+1)) (.at (.mk (sl 38 [(0,.an 0 0),(1,.s (.int .i64 ((bh th m n ae).getD 0 (CL.d [.ag,.int .i64])).snd.fst)),(6,.s (.int .i64 (ae+1)))]) (hT th m fu aa fr (jW fs n) (qE fs gn n)) (hd Tryz.f113 3) (.mk none false 0 [] 0)))))))))))))):=by kernel_rfl
theorem ad1{Z:bB}:am9.Ok P Z:=aR.Ok.cons (pA.sum mNo) (aR.Ok.cons (xH.sum mLv) aR.Ok.nil)
theorem ana{th:Th}{m:As}{fu aa:Int}{fr fs gn:Ws}{n:Int}{c:Ws×Ws×Int×Int}(e:c=pL th m 17 fs gn n 1):
 sLo.eG ((th,m,fu,aa,fr,fs,gn),n)=hT th m fu aa fr c.1 c.2.1/\sLo.out ((th,m,fu,aa,fr,fs,gn),n)=.bD [bQ c.2.2.1,bQ c.2.2.2]:=by
 subst e;exact⟨rfl,rfl⟩
theorem ad2{Z:bB}:gE P Z 113 sLo:=by
 refine aK Tryz.func113 (by kernel_rfl) (λx=>le_of_ble_eq_true (by kernel_rfl)) ?_;rintro⟨⟨(th:Th),(m:As),(fu:Int),(aa:Int),(fr:Ws),(dV:Ws),(dW:Ws)⟩,(n0:Int)⟩ ⟨(hd:Ds.bz th m fu),(hn0:0<=n0/\n0<=65536),_⟩ X hX hz
 have hm:∀y∈ap2,(hT th m fu aa fr dV dW).length<=y.2.m:=λy hy=>by
  simp only[ap2,mem_singleton]at hy;subst hy;exact le_refl _
 have loop:∀(f:Nat) (fs gn:Ws) (n ae:Int),1<=ae/\ae<=17->18<=ae+(f:Int)->0<=n/\n<=65536->pL th m f fs gn n ae=pL th m 17 dV dW n0 1->
  Safe P 113 X (eH sLo ((th,m,fu,aa,fr,dV,dW),n0)) (cLo th m fu aa fr fs gn n ae):=by
  intro f
  induction f with
  |zero=>intro fs gn n ae h1 h2;omega
  |succ f ih=>
   intro fs gn n ae h1 h2 hn e;rw[pL]at e;refine Ds.dk hz hX hm ad1 Tryz.func113 (aym th m fu aa fr fs gn n ae) ⟨rfl,rfl,hd,uJ (by omega) (by omega),λh=> ?_,λh=>⟨λhl=> ?_,λhl=>⟨λh3=> ?_,λh3=> ?_⟩⟩⟩;have h:gF th m n ae≠0:=by simpa using h
   rw[if_pos h]at e;have⟨f1,f2⟩:=ana (fu:=fu) (aa:=aa) (fr:=fr) e;exact bN 4 rfl (le_refl _) f2 f1;have h:gF th m n ae=0:=by simpa using h
   rw[if_neg (by rw[h];simp),if_pos (.inl hl)]at e;have⟨f1,f2⟩:=ana (fu:=fu) (aa:=aa) (fr:=fr) e;exact bN 4 rfl (le_refl _) f2 f1;have h:gF th m n ae=0:=by simpa using h
   have h3:¬((bh th m n ae).length:Int)=1:=by simpa using h3
   rw[if_neg (by rw[h];simp),if_pos (.inr (by omega))]at e;have⟨f1,f2⟩:=ana (fu:=fu) (aa:=aa) (fr:=fr) e;exact bN 4 rfl (le_refl _) f2 f1;have h:gF th m n ae=0:=by simpa using h
   have h3:((bh th m n ae).length:Int)=1:=by simpa using h3
   rw[if_neg (by rw[h];simp),if_neg (by rintro(a|a);rw[hl]at a;cases a;omega)]at e;have pg:=tW h 0;have⟨_,_,_,_,_,n5,_⟩:=fF h;exact⟨rfl,rfl,by omega,by omega,uJ (by omega) (by omega),ih _ _ _ _ ⟨by omega,by omega⟩ (by omega) pg e⟩
 exact Ds.dk hz hX hm ad1 Tryz.func113 (ayl th m fu aa fr dV dW n0) (loop 17 dV dW n0 1 ⟨by omega,by omega⟩ (by omega) hn0 rfl)
def jO(th:Th)(ad:ByteArray)(op:Option ByteArray)(m:As)(fu aa:Int)(fr fs gn:Ws):Chg:=
 if aa≠0 then xG th ad op 17 m fu fr fs gn aa 1
 else if sH ad op []≠0 then(m,fu,fr,fs,gn,[],sH ad op [])
 else iN gn (bO th m fu fr fs true (doE ad op []) [])
abbrev XK:Type:=XT×ByteArray×ByteArray
def yT(th:Th)(ad:ByteArray)(op:Option ByteArray)(m:As)(fu aa:Int)(fr fs gn:Ws):As:=(jO th ad op m fu aa fr fs gn).1
def yU(th:Th)(ad:ByteArray)(op:Option ByteArray)(m:As)(fu aa:Int)(fr fs gn:Ws):Int:=(jO th ad op m fu aa fr fs gn).2.1
def yV(th:Th)(ad:ByteArray)(op:Option ByteArray)(m:As)(fu aa:Int)(fr fs gn:Ws):Ws:=(jO th ad op m fu aa fr fs gn).2.2.1
def ad3(th:Th)(ad:ByteArray)(op:Option ByteArray)(m:As)(fu aa:Int)(fr fs gn:Ws):Ws:=(jO th ad op m fu aa fr fs gn).2.2.2.1
def ad4(th:Th)(ad:ByteArray)(op:Option ByteArray)(m:As)(fu aa:Int)(fr fs gn:Ws):Ws:=(jO th ad op m fu aa fr fs gn).2.2.2.2.1
def xY(th:Th)(ad:ByteArray)(op:Option ByteArray)(m:As)(fu aa:Int)(fr fs gn:Ws):List Br:=(jO th ad op m fu aa fr fs gn).2.2.2.2.2.1
def xZ(th:Th)(ad:ByteArray)(op:Option ByteArray)(m:As)(fu aa:Int)(fr fs gn:Ws):Int:=(jO th ad op m fu aa fr fs gn).2.2.2.2.2.2
def ahW(th:Th)(m:As)(fu aa:Int)(fr:Ws)(ad val:ByteArray):List Prop:=[Ds.bz th m fu,Bx.okW fr,0<=aa/\aa<=65536,1<=ad.size/\ad.size<=24,val.size<=100]
abbrev ap3:Spec XK:=⟨λ(_,ad,_)=>[.an 0 0,.s (.ag ad),.fn fP1 [.an 4 0,.an 5 0]],λ((th,m,fu,aa,fr,fs,gn),ad,val)=>se th m fu aa fr fs gn ad val,λ((th,m,fu,aa,fr,_,_),ad,val)=>ahW th m fu aa fr ad val,
 λ((th,m,fu,aa,fr,fs,gn),ad,val)=>se th (yT th ad (some val) m fu aa fr fs gn) (yU th ad (some val) m fu aa fr fs gn) aa (yV th ad (some val) m fu aa fr fs gn) (ad3 th ad (some val) m fu aa fr fs gn) (ad4 th ad (some val) m fu aa fr fs gn) ad val++[.aq (.az cB (xY th ad (some val) m fu aa fr fs gn)) Lf.eB],
 λ((th,m,fu,aa,fr,fs,gn),ad,val)=>.bD [.aq 6,bQ (xZ th ad (some val) m fu aa fr fs gn)]⟩
abbrev ap4:Spec XK:=⟨λ(_,ad,_)=>[.an 0 0,.s (.ag ad),.fn fD1 [.an 4 0]],λ((th,m,fu,aa,fr,fs,gn),ad,_)=>sf th m fu aa fr fs gn ad,λ((th,m,fu,aa,fr,_,_),ad,val)=>ahW th m fu aa fr ad val,
 λ((th,m,fu,aa,fr,fs,gn),ad,_)=>sf th (yT th ad none m fu aa fr fs gn) (yU th ad none m fu aa fr fs gn) aa (yV th ad none m fu aa fr fs gn) (ad3 th ad none m fu aa fr fs gn) (ad4 th ad none m fu aa fr fs gn) ad++[.aq (.az cB (xY th ad none m fu aa fr fs gn)) Lf.eB],
 λ((th,m,fu,aa,fr,fs,gn),ad,_)=>.bD [.aq 5,bQ (xZ th ad none m fu aa fr fs gn)]⟩
def ap5:List AV->RM (XK×List Nat)
 |[t,.s (.ag _),.fn _ [.an i 0,.an j 0]]=>(mT [t]).bind λ(X,σ)=>.aA i λo=>match o with
  |some (.ay [.s (.ag ad)] _)=>.aA j λo=>match o with
   |some (.ay [.s (.ag val)] _)=>.ret ((X,ad,val),σ++[i,j])
   |_=>.fail "no text"
  |_=>.fail "no text"
 |_=>.fail "top: arguments"
def ap6:List AV->RM (XK×List Nat)
 |[t,.s (.ag _),.fn _ [.an i 0]]=>(mT [t]).bind λ(X,σ)=>.aA i λo=>match o with
  |some (.ay [.s (.ag ad)] _)=>.ret ((X,ad,empty),σ++[i])
  |_=>.fail "no text"
 |_=>.fail "top: arguments"
def arT:aR:=[(144,cC (yO 17) apR),(73,arR),(112,aae)]
def arU:aR:=[(144,cC (yP 17) apS),(76,arS),(112,aae)]
theorem ayn(th:Th)(m:As)(fu aa:Int)(fr fs gn:Ws)(ad val:ByteArray):run P arT.sum Tryz.f111 [] (start Tryz.f111 [.an 0 0,.s (.ag ad),.fn fP1 [.an 4 0,.an 5 0]] (se th m fu aa fr fs gn ad val)) (inl:=[fP1])=
 Tree.ite (aa !=0) (.ab (bx (some [AV.an 0 0,.s (.int .i64 aa),.s (.int .i64 1),.s (.ag ad),.fn 72 [.an 4 0,.an 5 0]])) (.ab (bx (some (hT th m fu aa fr fs gn++[.ay [.s (.ag ad)] 9,.ay [.s (.ag val)] 9]))) (.ab (Ds.bz th m fu) (.ab (Bx.okW fr) (.ab ((0:Int)<=aa/\aa<=65536) (.ab ((1:Int)<=1/\(1:Int)<=17) (.ab ((18:Int)<=1+(↑(17:Nat):Int)) (.ab ((1:Nat)<=ad.size/\ad.size<=24) (.ab (val.size<=100) (.ret (hT th (qH th ad (some val) 17 m fu fr fs gn aa 1) (qI th ad (some val) 17 m fu fr fs gn aa 1) aa (qJ th ad (some val) 17 m fu fr fs gn aa 1) (sg th ad (some val) 17 m fu fr fs gn aa 1) (tP th ad (some val) 17 m fu fr fs gn aa 1)++[.ay [.s (.ag ad)] 9,.ay [.s (.ag val)] 9,.aq (.az [.ag,.int .i64] (uW th ad (some val) 17 m fu fr fs gn aa 1)) 137]) (.bD [.aq 6,.s (.int .i64 (tQ th ad (some val) 17 m fu fr fs gn aa 1))]))))))))))) (.ab ((0:Nat)<=100000) (.ab (jk (cg [])) (.ab (bx (some [AV.an 0 0,.agg [.s (.bool true),.s (.ro (.az [.ag,.ag] (bX [] ad val))),.s (.ro (.az [.ag,.int .i64] []))]])) (.ab (bx (some (hT th m fu aa fr fs gn))) (.ab (Ds.bz th m fu) (.ab (Bx.okW fr) (.ab (abK true (bX [] ad val) []) (.ab (bF (bX [] ad val)) (.ab (bG []) (.ret (hT th (bO th m fu fr fs true (bX [] ad val) []).fst (bO th m fu fr fs true (bX [] ad val) []).snd.fst aa (bO th m fu fr fs true (bX [] ad val) []).snd.snd.fst (bO th m fu fr fs true (bX [] ad val) []).snd.snd.snd.fst gn++[.ay [.s (.ag ad)] 9,.ay [.s (.ag val)] 9,.aB,.aq (.az [.ag,.int .i64] (bO th m fu fr fs true (bX [] ad val) []).snd.snd.snd.snd.fst) 137]) (.bD [.aq 7,.s (.int .i64 (bO th m fu fr fs true (bX [] ad val) []).snd.snd.snd.snd.snd)]))))))))))):=by kernel_rfl
theorem ayo(th:Th)(m:As)(fu aa:Int)(fr fs gn:Ws)(ad:ByteArray):run P arU.sum Tryz.f111 [] (start Tryz.f111 [.an 0 0,.s (.ag ad),.fn fD1 [.an 4 0]] (sf th m fu aa fr fs gn ad)) (inl:=[fD1])=
 Tree.ite (aa !=0) (.ab (bx (some [AV.an 0 0,.s (.int .i64 aa),.s (.int .i64 1),.s (.ag ad),.fn 75 [.an 4 0]])) (.ab (bx (some (hT th m fu aa fr fs gn++[.ay [.s (.ag ad)] 9]))) (.ab (Ds.bz th m fu) (.ab (Bx.okW fr) (.ab ((0:Int)<=aa/\aa<=65536) (.ab ((1:Int)<=1/\(1:Int)<=17) (.ab ((18:Int)<=1+(↑(17:Nat):Int)) (.ab ((1:Nat)<=ad.size/\ad.size<=24) (.ab (empty.size<=100) (.ret (hT th (qH th ad none 17 m fu fr fs gn aa 1) (qI th ad none 17 m fu fr fs gn aa 1) aa (qJ th ad none 17 m fu fr fs gn aa 1) (sg th ad none 17 m fu fr fs gn aa 1) (tP th ad none 17 m fu fr fs gn aa 1)++[.ay [.s (.ag ad)] 9,.aq (.az [.ag,.int .i64] (uW th ad none 17 m fu fr fs gn aa 1)) 137]) (.bD [.aq 5,.s (.int .i64 (tQ th ad none 17 m fu fr fs gn aa 1))]))))))))))) (.ab ((0:Nat)<=100000) (.ab (jk (cg [])) (.ite (!iV [] ad) (.ret (hT th m fu aa fr fs gn++[.ay [.s (.ag ad)] 9,.aq (.az [.ag,.ag] (cN [] ad)) 66]) (.bD [.emp,.s (.aZ .i64 5)])) (.ab (bx (some [AV.an 0 0,.agg [.s (.bool true),.s (.ro (.az [.ag,.ag] (cN [] ad))),.s (.ro (.az [.ag,.int .i64] []))]])) (.ab (bx (some (hT th m fu aa fr fs gn))) (.ab (Ds.bz th m fu) (.ab (Bx.okW fr) (.ab (abK true (cN [] ad) []) (.ab (bF (cN [] ad)) (.ab (bG []) (.ret (hT th (bO th m fu fr fs true (cN [] ad) []).fst (bO th m fu fr fs true (cN [] ad) []).snd.fst aa (bO th m fu fr fs true (cN [] ad) []).snd.snd.fst (bO th m fu fr fs true (cN [] ad) []).snd.snd.snd.fst gn++[.ay [.s (.ag ad)] 9,.aB,.aq (.az [.ag,.int .i64] (bO th m fu fr fs true (cN [] ad) []).snd.snd.snd.snd.fst) 137]) (.bD [.aq 6,.s (.int .i64 (bO th m fu fr fs true (cN [] ad) []).snd.snd.snd.snd.snd)])))))))))))):=by kernel_rfl
theorem arV{th:Th}{m:As}{fu aa:Int}{fr fs gn:Ws}{ad val:ByteArray}{c:Chg}(e:jO th ad (some val) m fu aa fr fs gn=c):
 ap3.eG ((th,m,fu,aa,fr,fs,gn),ad,val)=se th c.1 c.2.1 aa c.2.2.1 c.2.2.2.1 c.2.2.2.2.1 ad val++[.aq (.az cB c.2.2.2.2.2.1) Lf.eB]/\ap3.out ((th,m,fu,aa,fr,fs,gn),ad,val)=.bD [.aq 6,bQ c.2.2.2.2.2.2]:=by
 subst e;exact⟨rfl,rfl⟩
theorem anb:arT.Ok P Bx.bZ:=aR.Ok.cons ((xT 17).sum apR) (aR.Ok.cons ams.wQ (aR.Ok.cons (jo (gY (kM.sum mTN) 1 _) 1) aR.Ok.nil))
theorem ap7:gE P Bx.bZ 111 ap3:=by
 refine gx Tryz.func111 (by kernel_rfl) (λx=>le_of_ble_eq_true (by kernel_rfl)) ?_;rintro⟨⟨(th:Th),(m:As),(fu:Int),(aa:Int),(fr:Ws),(fs:Ws),(gn:Ws)⟩,(ad:ByteArray),(val:ByteArray)⟩ ⟨(hd:Ds.bz th m fu),(hf:Bx.okW fr),(hr:0<=aa/\aa<=65536),(hk:1<=ad.size/\ad.size<=24),(hv:val.size<=100),_⟩ X hX hz;have hkk:∀v:ByteArray,(some val)=some v->v.size<=100:=λv e=>by cases e;exact hv
 have sm:=pD (ad:=ad) (op:=(some val)) (es:=[]) hk.2 hkk (zero_le _) jm;refine Ds.dk hz hX (by intro y hy;cases hy) anb Tryz.func111 (ayn th m fu aa fr fs gn ad val) ⟨λh=>⟨rfl,rfl,hd,hf,hr,⟨by omega,by omega⟩,by omega,hk,hv, ?_⟩,λh=>⟨by omega,by unfold jk;intro i j _ hj;simp at hj,rfl,rfl,hd,hf,⟨λ_=>rfl,λe=>by cases e⟩,sm,xw, ?_⟩⟩;have h:aa≠0:=by simpa using h
 have⟨f1,f2⟩:=arV (val:=val) (show jO th ad (some val) m fu aa fr fs gn=xG th ad (some val) 17 m fu fr fs gn aa 1 by unfold jO;rw[if_pos h]);exact lK ⟨[],[0,1],6,[]⟩ rfl (le_refl _) (p6.same _) f2 f1;have h:¬aa≠0:=by simpa using h
 have⟨f1,f2⟩:=arV (val:=val) (show jO th ad (some val) m fu aa fr fs gn=iN gn (bO th m fu fr fs true (bX [] ad val) [])by unfold jO;rw[if_neg h,if_neg (by show¬(0:Int)≠0;simp)];rfl);exact lK ⟨[],[0,1],6,[]⟩ rfl (le_refl _) (p6.same _) f2 f1
theorem arW{th:Th}{m:As}{fu aa:Int}{fr fs gn:Ws}{ad val:ByteArray}{c:Chg}(e:jO th ad none m fu aa fr fs gn=c):
 ap4.eG ((th,m,fu,aa,fr,fs,gn),ad,val)=sf th c.1 c.2.1 aa c.2.2.1 c.2.2.2.1 c.2.2.2.2.1 ad++[.aq (.az cB c.2.2.2.2.2.1) Lf.eB]/\ap4.out ((th,m,fu,aa,fr,fs,gn),ad,val)=.bD [.aq 5,bQ c.2.2.2.2.2.2]:=by
 subst e;exact⟨rfl,rfl⟩
theorem anc:arU.Ok P Bx.bZ:=aR.Ok.cons ((xU 17).sum apS) (aR.Ok.cons amj.sum (aR.Ok.cons (jo (gY (kM.sum mTN) 1 _) 1) aR.Ok.nil))
theorem ap8:gE P Bx.bZ 111 ap4:=by
 refine gx Tryz.func111 (by kernel_rfl) (λx=>le_of_ble_eq_true (by kernel_rfl)) ?_;rintro⟨⟨(th:Th),(m:As),(fu:Int),(aa:Int),(fr:Ws),(fs:Ws),(gn:Ws)⟩,(ad:ByteArray),(val:ByteArray)⟩ ⟨(hd:Ds.bz th m fu),(hf:Bx.okW fr),(hr:0<=aa/\aa<=65536),(hk:1<=ad.size/\ad.size<=24),(hv:val.size<=100),_⟩ X hX hz;have hkk:∀v:ByteArray,none=some v->v.size<=100:=λv e=>by cases e
 have sm:=pD (ad:=ad) (op:=none) (es:=[]) hk.2 hkk (zero_le _) jm;refine Ds.dk hz hX (by intro y hy;cases hy) anc Tryz.func111 (ayo th m fu aa fr fs gn ad) ⟨λh=>⟨rfl,rfl,hd,hf,hr,⟨by omega,by omega⟩,by omega,hk,(zero_le 100), ?_⟩,λh=>⟨by omega,by unfold jk;intro i j _ hj;simp at hj,λhb=> ?_,λhb=> ?_⟩⟩;have h:aa≠0:=by simpa using h
 have⟨f1,f2⟩:=arW (val:=val) (show jO th ad none m fu aa fr fs gn=xG th ad none 17 m fu fr fs gn aa 1 by unfold jO;rw[if_pos h]);exact lK ⟨[],[0,1],5,[]⟩ rfl (le_refl _) (p6.same _) f2 f1;have h:¬aa≠0:=by simpa using h
 have⟨f1,f2⟩:=arW (val:=val) (show jO th ad none m fu aa fr fs gn=(m,fu,fr,fs,gn,[],5)by unfold jO;rw[if_neg h,if_pos (by show(5:Int)≠0;simp)];rfl);exact lK ⟨[(0,.az cB [],Lf.eB)],[0,1],5,[]⟩ rfl (le_refl _) (p6.same _) f2 f1;exact absurd hb (by show¬(!iV [] ad)=false;simp[iV,cN])
def upT(th:Th)(c:Chg):Chg:=if c.2.2.2.2.2.2=0/\1<c.2.2.2.2.2.1.length then iN c.2.2.2.2.1 (bO th c.1 c.2.1 c.2.2.1 c.2.2.2.1 false [] c.2.2.2.2.2.1)else c
abbrev Chs:Type:=As×Int×Int×Ws×Ws×Ws×Int
def oU(th:Th)(bm:Int)(eu dV dW:Ws)(m:As)(fu aa:Int)(fr fs gn:Ws)(e:Int):Chs:=
 if e≠0 then(m,fu,bm,eu,dV,dW,e)else(m,fu,aa,Bx.cf .or fr gn,fs,Bx.aL,0)
def kE(th:Th)(bm:Int)(eu dV dW:Ws)(c:Chg):Chs:=
 if c.2.2.2.2.2.2=0/\c.2.2.2.2.2.1.length=1 then
  oU th bm eu dV dW c.1 c.2.1 (yR th c.1 17 c.2.2.2.1 c.2.2.2.2.1 (c.2.2.2.2.2.1.getD 0 dB).2.1 1) c.2.2.1 (xW th c.1 17 c.2.2.2.1 c.2.2.2.2.1 (c.2.2.2.2.2.1.getD 0 dB).2.1 1) (xX th c.1 17 c.2.2.2.1 c.2.2.2.2.1 (c.2.2.2.2.2.1.getD 0 dB).2.1 1) (yS th c.1 17 c.2.2.2.1 c.2.2.2.2.1 (c.2.2.2.2.2.1.getD 0 dB).2.1 1)
 else oU th bm eu dV dW c.1 c.2.1 0 c.2.2.1 c.2.2.2.1 c.2.2.2.2.1 c.2.2.2.2.2.2
def lL(th:Th)(ad:ByteArray)(op:Option ByteArray)(m:As)(fu aa:Int)(fr fs gn:Ws):Chs:=kE th aa fr fs gn (upT th (jO th ad op m fu aa fr fs gn))
def ap9(th:Th)(ad:ByteArray)(op:Option ByteArray)(m:As)(fu aa:Int)(fr fs gn:Ws):As:=(lL th ad op m fu aa fr fs gn).1
def aqa(th:Th)(ad:ByteArray)(op:Option ByteArray)(m:As)(fu aa:Int)(fr fs gn:Ws):Int:=(lL th ad op m fu aa fr fs gn).2.1
def aqb(th:Th)(ad:ByteArray)(op:Option ByteArray)(m:As)(fu aa:Int)(fr fs gn:Ws):Int:=(lL th ad op m fu aa fr fs gn).2.2.1
def aqc(th:Th)(ad:ByteArray)(op:Option ByteArray)(m:As)(fu aa:Int)(fr fs gn:Ws):Ws:=(lL th ad op m fu aa fr fs gn).2.2.2.1
def aqd(th:Th)(ad:ByteArray)(op:Option ByteArray)(m:As)(fu aa:Int)(fr fs gn:Ws):Ws:=(lL th ad op m fu aa fr fs gn).2.2.2.2.1
def aqe(th:Th)(ad:ByteArray)(op:Option ByteArray)(m:As)(fu aa:Int)(fr fs gn:Ws):Ws:=(lL th ad op m fu aa fr fs gn).2.2.2.2.2.1
def aqf(th:Th)(ad:ByteArray)(op:Option ByteArray)(m:As)(fu aa:Int)(fr fs gn:Ws):Int:=(lL th ad op m fu aa fr fs gn).2.2.2.2.2.2
abbrev sOr:=cU [Bx.eU,Bx.eU] [Bx.eU] (λ_=>[]) (λ(a,b,())=>(Bx.cf .or a b,()))
abbrev ad5:Spec XK:=⟨λ(_,ad,_)=>[.an 0 0,.s (.ag ad),.fn fP1 [.an 4 0,.an 5 0]],λ((th,m,fu,aa,fr,fs,gn),ad,val)=>se th m fu aa fr fs gn ad val,λ((th,m,fu,aa,fr,_,_),ad,val)=>ahW th m fu aa fr ad val,
 λ((th,m,fu,aa,fr,fs,gn),ad,val)=>se th (ap9 th ad (some val) m fu aa fr fs gn) (aqa th ad (some val) m fu aa fr fs gn) (aqb th ad (some val) m fu aa fr fs gn) (aqc th ad (some val) m fu aa fr fs gn) (aqd th ad (some val) m fu aa fr fs gn) (aqe th ad (some val) m fu aa fr fs gn) ad val,
 λ((th,m,fu,aa,fr,fs,gn),ad,val)=>bQ (aqf th ad (some val) m fu aa fr fs gn)⟩
def x6:aR:=[(111,cC ap3 ap5),(112,aae),(113,cC sLo mLv),(114,sOr)]
def aaj:List (Nat×Norm):=[(3,⟨[],[0,7,8,9],6,[]⟩),(5,⟨[],[0,7,8,9],6,[]⟩),(8,⟨[],[0,7,9],6,[]⟩)]
noncomputable def ad6(th:Th)(bm:Int)(eu dV dW:Ws)(m:As)(fu aa:Int)(fr fs gn:Ws)(ad val:ByteArray)(l:List Br)(e:Int):cn:=⟨sl 78 [(0,.an 0 0),(7,.an 6 0),(8,.aq 7),(9,bQ e)],se th m fu aa fr fs gn ad val++[fm 1 bm eu dV dW,.aq (.az cB l) Lf.eB],hd Tryz.f71 3,{}⟩
noncomputable def ahX(th:Th)(bm:Int)(eu dV dW:Ws)(m:As)(fu aa:Int)(fr fs gn:Ws)(ad val:ByteArray)(l:List Br)(e:Int):cn:=⟨sl 78 [(0,.an 0 0),(7,.an 6 0),(8,.aq 7),(9,bQ e)],se th m fu aa fr fs gn ad val++[fm 1 bm eu dV dW,.aq (.az cB l) Lf.eB],hr Tryz.f71 5,{}⟩
noncomputable def ad7(th:Th)(bm:Int)(eu dV dW:Ws)(m:As)(fu aa:Int)(fr fs gn:Ws)(ad val:ByteArray)(e:Int):cn:=⟨sl 78 [(0,.an 0 0),(7,.an 6 0),(9,bQ e)],se th m fu aa fr fs gn ad val++[fm 1 bm eu dV dW],hr Tryz.f71 8,{}⟩
abbrev ad8:Spec XK:=⟨λ(_,ad,_)=>[.an 0 0,.s (.ag ad),.fn fD1 [.an 4 0]],λ((th,m,fu,aa,fr,fs,gn),ad,_)=>sf th m fu aa fr fs gn ad,λ((th,m,fu,aa,fr,_,_),ad,val)=>ahW th m fu aa fr ad val,
 λ((th,m,fu,aa,fr,fs,gn),ad,_)=>sf th (ap9 th ad none m fu aa fr fs gn) (aqa th ad none m fu aa fr fs gn) (aqb th ad none m fu aa fr fs gn) (aqc th ad none m fu aa fr fs gn) (aqd th ad none m fu aa fr fs gn) (aqe th ad none m fu aa fr fs gn) ad,
 λ((th,m,fu,aa,fr,fs,gn),ad,_)=>bQ (aqf th ad none m fu aa fr fs gn)⟩
def x7:aR:=[(111,cC ap4 ap6),(112,aae),(113,cC sLo mLv),(114,sOr)]
def aak:List (Nat×Norm):=[(3,⟨[],[0,7,8,9],5,[]⟩),(5,⟨[],[0,7,8,9],5,[]⟩),(8,⟨[],[0,7,9],5,[]⟩)]
noncomputable def ad9(th:Th)(bm:Int)(eu dV dW:Ws)(m:As)(fu aa:Int)(fr fs gn:Ws)(ad:ByteArray)(l:List Br)(e:Int):cn:=⟨sl 78 [(0,.an 0 0),(7,.an 5 0),(8,.aq 6),(9,bQ e)],sf th m fu aa fr fs gn ad++[fm 1 bm eu dV dW,.aq (.az cB l) Lf.eB],hd Tryz.f71 3,{}⟩
noncomputable def ahY(th:Th)(bm:Int)(eu dV dW:Ws)(m:As)(fu aa:Int)(fr fs gn:Ws)(ad:ByteArray)(l:List Br)(e:Int):cn:=⟨sl 78 [(0,.an 0 0),(7,.an 5 0),(8,.aq 6),(9,bQ e)],sf th m fu aa fr fs gn ad++[fm 1 bm eu dV dW,.aq (.az cB l) Lf.eB],hr Tryz.f71 5,{}⟩
noncomputable def aea(th:Th)(bm:Int)(eu dV dW:Ws)(m:As)(fu aa:Int)(fr fs gn:Ws)(ad:ByteArray)(e:Int):cn:=⟨sl 78 [(0,.an 0 0),(7,.an 5 0),(9,bQ e)],sf th m fu aa fr fs gn ad++[fm 1 bm eu dV dW],hr Tryz.f71 8,{}⟩
theorem awq(th:Th)(m:As)(fu aa:Int)(fr fs gn:Ws)(ad val:ByteArray):run P x6.sum Tryz.f71 aaj (start Tryz.f71 [.an 0 0,.s (.ag ad),.fn fP1 [.an 4 0,.an 5 0]] (se th m fu aa fr fs gn ad val))=
 Tree.ab (bx (some [AV.an 0 0,.s (.ag ad),.fn 72 [.an 4 0,.an 5 0]])) (.ab (bx (some (hT th m fu aa fr fs gn++[.ay [.s (.ag ad)] 9,.ay [.s (.ag val)] 9]))) (.ab (Ds.bz th m fu) (.ab (Bx.okW fr) (.ab ((0:Int)<=aa/\aa<=65536) (.ab ((1:Nat)<=ad.size/\ad.size<=24) (.ab (val.size<=100) (.at (ad6 th aa fr fs gn (yT th ad (some val) m fu aa fr fs gn) (yU th ad (some val) m fu aa fr fs gn) aa (yV th ad (some val) m fu aa fr fs gn) (ad3 th ad (some val) m fu aa fr fs gn) (ad4 th ad (some val) m fu aa fr fs gn) ad val (xY th ad (some val) m fu aa fr fs gn) (xZ th ad (some val) m fu aa fr fs gn))))))))):=by kernel_rfl
theorem ane(th:Th)(bm:Int)(eu dV dW:Ws)(m:As)(fu aa:Int)(fr fs gn:Ws)(ad val:ByteArray)(l:List Br)(e:Int):run P x6.sum Tryz.f71 aaj (ad6 th bm eu dV dW m fu aa fr fs gn ad val l e)=
 Tree.ite (e==0) (.ite (decide ((↑l.length:Int)>1)) (.ab (bx (some [AV.an 0 0,.agg [.s (.bool false),.s (.ro (.az [.ag,.ag] [])),.s (.ro (.az [.ag,.int .i64] l))]])) (.ab (bx (some (hT th m fu aa fr fs gn))) (.ab (Ds.bz th m fu) (.ab (Bx.okW fr) (.ab (abK false [] l) (.ab (bF []) (.ab (bG l) (.at (ad6 th bm eu dV dW (bO th m fu fr fs false [] l).fst (bO th m fu fr fs false [] l).snd.fst aa (bO th m fu fr fs false [] l).snd.snd.fst (bO th m fu fr fs false [] l).snd.snd.snd.fst gn ad val (bO th m fu fr fs false [] l).snd.snd.snd.snd.fst (bO th m fu fr fs false [] l).snd.snd.snd.snd.snd))))))))) (.at (ahX th bm eu dV dW m fu aa fr fs gn ad val l e))) (.at (ahX th bm eu dV dW m fu aa fr fs gn ad val l e)):=by kernel_rfl
theorem auk(th:Th)(bm:Int)(eu dV dW:Ws)(m:As)(fu aa:Int)(fr fs gn:Ws)(ad val:ByteArray)(l:List Br)(e:Int):run P x6.sum Tryz.f71 aaj (ahX th bm eu dV dW m fu aa fr fs gn ad val l e)=
 Tree.ite (e==0) (.ite ((↑l.length:Int)==1) (.ab ((0:Int)<=0) (.ab ((0:Int)<(↑l.length:Int)) (.ab (bx (some [AV.an 0 0,.s (.int .i64 (l.getD 0 (CL.d [.ag,.int .i64])).snd.fst)])) (.ab (bx (some (hT th m fu 0 fr fs gn))) (.ab (Ds.bz th m fu) (.ab ((0:Int)<=(l.getD 0 (CL.d [.ag,.int .i64])).snd.fst/\(l.getD 0 (CL.d [.ag,.int .i64])).snd.fst<=65536) (.at (ad7 th bm eu dV dW m fu (yR th m 17 fs gn (l.getD 0 (CL.d [.ag,.int .i64])).snd.fst 1) fr (xW th m 17 fs gn (l.getD 0 (CL.d [.ag,.int .i64])).snd.fst 1) (xX th m 17 fs gn (l.getD 0 (CL.d [.ag,.int .i64])).snd.fst 1) ad val (yS th m 17 fs gn (l.getD 0 (CL.d [.ag,.int .i64])).snd.fst 1))))))))) (.at (ad7 th bm eu dV dW m fu 0 fr fs gn ad val e))) (.at (ad7 th bm eu dV dW m fu 0 fr fs gn ad val e)):=by kernel_rfl
theorem aul(th:Th)(bm:Int)(eu dV dW:Ws)(m:As)(fu aa:Int)(fr fs gn:Ws)(ad val:ByteArray)(e:Int):run P x6.sum Tryz.f71 aaj (ad7 th bm eu dV dW m fu aa fr fs gn ad val e)=
 Tree.ite (e !=0) (.ret (hT th m fu bm eu dV dW++[.ay [.s (.ag ad)] 9,.ay [.s (.ag val)] 9,fm 1 bm eu dV dW]) (.s (.int .i64 e))) (.ret (hT th m fu aa (Bx.cf BinOp.or fr gn) fs (replicate 16 0)++[.ay [.s (.ag ad)] 9,.ay [.s (.ag val)] 9,fm 1 bm eu dV dW]) (.s (.aZ .i64 0))):=by kernel_rfl
theorem awr(th:Th)(m:As)(fu aa:Int)(fr fs gn:Ws)(ad:ByteArray):run P x7.sum Tryz.f71 aak (start Tryz.f71 [.an 0 0,.s (.ag ad),.fn fD1 [.an 4 0]] (sf th m fu aa fr fs gn ad))=
 Tree.ab (bx (some [AV.an 0 0,.s (.ag ad),.fn 75 [.an 4 0]])) (.ab (bx (some (hT th m fu aa fr fs gn++[.ay [.s (.ag ad)] 9]))) (.ab (Ds.bz th m fu) (.ab (Bx.okW fr) (.ab ((0:Int)<=aa/\aa<=65536) (.ab ((1:Nat)<=ad.size/\ad.size<=24) (.ab (empty.size<=100) (.at (ad9 th aa fr fs gn (yT th ad none m fu aa fr fs gn) (yU th ad none m fu aa fr fs gn) aa (yV th ad none m fu aa fr fs gn) (ad3 th ad none m fu aa fr fs gn) (ad4 th ad none m fu aa fr fs gn) ad (xY th ad none m fu aa fr fs gn) (xZ th ad none m fu aa fr fs gn))))))))):=by kernel_rfl
theorem anf(th:Th)(bm:Int)(eu dV dW:Ws)(m:As)(fu aa:Int)(fr fs gn:Ws)(ad:ByteArray)(l:List Br)(e:Int):run P x7.sum Tryz.f71 aak (ad9 th bm eu dV dW m fu aa fr fs gn ad l e)=
 Tree.ite (e==0) (.ite (decide ((↑l.length:Int)>1)) (.ab (bx (some [AV.an 0 0,.agg [.s (.bool false),.s (.ro (.az [.ag,.ag] [])),.s (.ro (.az [.ag,.int .i64] l))]])) (.ab (bx (some (hT th m fu aa fr fs gn))) (.ab (Ds.bz th m fu) (.ab (Bx.okW fr) (.ab (abK false [] l) (.ab (bF []) (.ab (bG l) (.at (ad9 th bm eu dV dW (bO th m fu fr fs false [] l).fst (bO th m fu fr fs false [] l).snd.fst aa (bO th m fu fr fs false [] l).snd.snd.fst (bO th m fu fr fs false [] l).snd.snd.snd.fst gn ad (bO th m fu fr fs false [] l).snd.snd.snd.snd.fst (bO th m fu fr fs false [] l).snd.snd.snd.snd.snd))))))))) (.at (ahY th bm eu dV dW m fu aa fr fs gn ad l e))) (.at (ahY th bm eu dV dW m fu aa fr fs gn ad l e)):=by kernel_rfl
theorem aum(th:Th)(bm:Int)(eu dV dW:Ws)(m:As)(fu aa:Int)(fr fs gn:Ws)(ad:ByteArray)(l:List Br)(e:Int):run P x7.sum Tryz.f71 aak (ahY th bm eu dV dW m fu aa fr fs gn ad l e)=
 Tree.ite (e==0) (.ite ((↑l.length:Int)==1) (.ab ((0:Int)<=0) (.ab ((0:Int)<(↑l.length:Int)) (.ab (bx (some [AV.an 0 0,.s (.int .i64 (l.getD 0 (CL.d [.ag,.int .i64])).snd.fst)])) (.ab (bx (some (hT th m fu 0 fr fs gn))) (.ab (Ds.bz th m fu) (.ab ((0:Int)<=(l.getD 0 (CL.d [.ag,.int .i64])).snd.fst/\(l.getD 0 (CL.d [.ag,.int .i64])).snd.fst<=65536) (.at (aea th bm eu dV dW m fu (yR th m 17 fs gn (l.getD 0 (CL.d [.ag,.int .i64])).snd.fst 1) fr (xW th m 17 fs gn (l.getD 0 (CL.d [.ag,.int .i64])).snd.fst 1) (xX th m 17 fs gn (l.getD 0 (CL.d [.ag,.int .i64])).snd.fst 1) ad (yS th m 17 fs gn (l.getD 0 (CL.d [.ag,.int .i64])).snd.fst 1))))))))) (.at (aea th bm eu dV dW m fu 0 fr fs gn ad e))) (.at (aea th bm eu dV dW m fu 0 fr fs gn ad e)):=by kernel_rfl
theorem aun(th:Th)(bm:Int)(eu dV dW:Ws)(m:As)(fu aa:Int)(fr fs gn:Ws)(ad:ByteArray)(e:Int):run P x7.sum Tryz.f71 aak (aea th bm eu dV dW m fu aa fr fs gn ad e)=
 Tree.ite (e !=0) (.ret (hT th m fu bm eu dV dW++[.ay [.s (.ag ad)] 9,fm 1 bm eu dV dW]) (.s (.int .i64 e))) (.ret (hT th m fu aa (Bx.cf BinOp.or fr gn) fs (replicate 16 0)++[.ay [.s (.ag ad)] 9,fm 1 bm eu dV dW]) (.s (.aZ .i64 0))):=by kernel_rfl
theorem aeb{th:Th}{ad:ByteArray}{op:Option ByteArray}(hk:ad.size<=24){m:As}{fu aa:Int}{fr fs gn:Ws}(hd:Ds.bz th m fu)(hf:Bx.okW fr):
 am4 th (yT th ad op m fu aa fr fs gn) (yU th ad op m fu aa fr fs gn) (yV th ad op m fu aa fr fs gn) (xY th ad op m fu aa fr fs gn):=by
 unfold yT yU yV xY jO;split;exact sq hk 17 hd hf;split;exact⟨hd,hf,zero_le _,noB,noB⟩;exact oT hd hf (am5 hk noE) noB
theorem ayp{l:List Br}(h2:l.length<=2)(h:lz l):bI [] (af l)<=254:=by
 have e:=so (af l);have e2:=tT l
 have e3:iW l<=54:=by
  cases l with
  |nil=>simp[oS]
  |cons a r=>
   have ha:=h a mem_cons_self;cases r with
   |nil=>rw[dS,oS];unfold qC;omega
   |cons b r=>
    have hb:=h b (mem_cons_of_mem _ mem_cons_self);cases r with
    |nil=>rw[dS,dS,oS];unfold qC;omega
    |cons c r=>simp only[length_cons]at h2;omega
 omega
theorem ang{th:Th}{m:As}{fu:Int}{fr fs:Ws}{l:List Br}(h0:1<l.length)(h2:l.length<=2)(h:lz l):(bO th m fu fr fs false [] l).2.2.2.2.1.length=1:=by
 unfold bO;rw[if_neg (by simp only[length_nil];omega),if_pos (ayp h2 h)];rfl
theorem ahZ{l:List Br}(h:∀b∈l,0<=b.2.1/\b.2.1<=65536)(k:Nat):0<=(l.getD k dB).2.1/\(l.getD k dB).2.1<=65536:=by
 rcases lt_or_ge k l.length with hk|hk;rw[bt hk];exact h _ (getElem_mem hk);rw[List.getD,getElem?_eq_none hk];exact⟨Int.le_refl 0,by show(0:Int)<=65536;omega⟩
theorem aal{l:List Br}(h2:l.length<=2)(h:lz l):bG l:=⟨by omega,λx hx=>le_trans (h x hx) (by omega)⟩
theorem tX{th:Th}{c:Chg}(h:¬(c.2.2.2.2.2.2=0/\1<c.2.2.2.2.2.1.length)):upT th c=c:=if_neg h
theorem arX{th:Th}{m:As}{fu aa:Int}{fr fs gn:Ws}{ad val:ByteArray}{c:Chs}(e:lL th ad (some val) m fu aa fr fs gn=c):
 ad5.eG ((th,m,fu,aa,fr,fs,gn),ad,val)=se th c.1 c.2.1 c.2.2.1 c.2.2.2.1 c.2.2.2.2.1 c.2.2.2.2.2.1 ad val/\ad5.out ((th,m,fu,aa,fr,fs,gn),ad,val)=bQ c.2.2.2.2.2.2:=by
 subst e;exact⟨rfl,rfl⟩
theorem mP:x6.Ok P Bx.bZ:=aR.Ok.cons (ap7.sum ap5) (aR.Ok.cons (jo (gY (kM.sum mTN) 1 _) 1) (aR.Ok.cons (ad2.sum mLv) (aR.Ok.cons Bx.amu.sum aR.Ok.nil)))
section
variable{th:Th}{m0:As}{uX bm:Int}{eu dV dW:Ws}{ad val:ByteArray}{X:Ctx}
theorem sr{th:Th}{m:As}{fu aa:Int}{fr fs gn:Ws}{ad val:ByteArray}:∀y∈aaj,(se th m fu aa fr fs gn ad val).length<=y.2.m:=λy hy=>by
 simp only[aaj,mem_cons,List.not_mem_nil,or_false]at hy;rcases hy with rfl|rfl|rfl<;>exact le_refl _
theorem abO(hz:eO Bx.bZ X)(hX:X.H=lk (se th m0 uX bm eu dV dW ad val)){m:As}{fu aa:Int}{fr fs gn:Ws}{e:Int}(ee:lL th ad (some val) m0 uX bm eu dV dW=oU th bm eu dV dW m fu aa fr fs gn e):
 Safe P 71 X (eH ad5 ((th,m0,uX,bm,eu,dV,dW),ad,val)) (ad7 th bm eu dV dW m fu aa fr fs gn ad val e):=by
 refine Ds.dk hz hX sr mP Tryz.func71 (aul th bm eu dV dW m fu aa fr fs gn ad val e) ⟨λh=> ?_,λh=> ?_⟩;have h:e≠0:=by simpa using h
 unfold oU at ee;rw[if_pos h]at ee;have⟨f1,f2⟩:=arX (val:=val) ee;exact bN 6 rfl (le_refl _) f2 f1;have h:¬e≠0:=by simpa using h
 unfold oU at ee;rw[if_neg h]at ee;have⟨f1,f2⟩:=arX (val:=val) ee;exact bN 6 rfl (le_refl _) f2 f1
theorem vB(hz:eO Bx.bZ X)(hX:X.H=lk (se th m0 uX bm eu dV dW ad val)){m:As}{fu aa:Int}{fr fs gn:Ws}{l:List Br}{e:Int}(hd:Ds.bz th m fu)(hp:∀b∈l,0<=b.2.1/\b.2.1<=65536)
 (ee:lL th ad (some val) m0 uX bm eu dV dW=kE th bm eu dV dW (m,fu,fr,fs,gn,l,e)):
 Safe P 71 X (eH ad5 ((th,m0,uX,bm,eu,dV,dW),ad,val)) (ahX th bm eu dV dW m fu aa fr fs gn ad val l e):=by
 refine Ds.dk hz hX sr mP Tryz.func71 (auk th bm eu dV dW m fu aa fr fs gn ad val l e) ⟨λh=>⟨λh2=> ?_,λh2=> ?_⟩,λh=> ?_⟩;have h:e=0:=by simpa using h
 have h2:(l.length:Int)=1:=by simpa using h2
 unfold kE at ee;rw[if_pos ⟨h,by simp only[];omega⟩]at ee;exact⟨by omega,by omega,rfl,rfl,hd,ahZ hp 0,abO hz hX ee⟩;have h2:¬(l.length:Int)=1:=by simpa using h2
 unfold kE at ee;rw[if_neg (λa=>h2 (by have:=a.2;simp only[]at this;omega))]at ee;exact abO hz hX ee;have h:¬e=0:=by simpa using h
 unfold kE at ee;rw[if_neg (λa=>h a.1)]at ee;exact abO hz hX ee
theorem aqg(hz:eO Bx.bZ X)(hX:X.H=lk (se th m0 uX bm eu dV dW ad val)){m:As}{fu aa:Int}{fr fs gn:Ws}{l:List Br}{e:Int}(hd:Ds.bz th m fu)(hp:∀b∈l,0<=b.2.1/\b.2.1<=65536)(te:¬(e=0/\1<l.length))
 (ee:lL th ad (some val) m0 uX bm eu dV dW=kE th bm eu dV dW (m,fu,fr,fs,gn,l,e)):
 Safe P 71 X (eH ad5 ((th,m0,uX,bm,eu,dV,dW),ad,val)) (ad6 th bm eu dV dW m fu aa fr fs gn ad val l e):=by
 refine Ds.dk hz hX sr mP Tryz.func71 (ane th bm eu dV dW m fu aa fr fs gn ad val l e) ⟨λh=>⟨λh2=> ?_,λh2=> ?_⟩,λh=> ?_⟩;have h:e=0:=by simpa using h
 have h2:=of_decide_eq_true h2;exact absurd ⟨h,by omega⟩ te;exact vB hz hX hd hp ee;exact vB hz hX hd hp ee
theorem aqh(hz:eO Bx.bZ X)(hX:X.H=lk (se th m0 uX bm eu dV dW ad val)){m:As}{fu aa:Int}{fr fs gn:Ws}{l:List Br}{e:Int}(F:am4 th m fu fr l)
 (ee:lL th ad (some val) m0 uX bm eu dV dW=kE th bm eu dV dW (upT th (m,fu,fr,fs,gn,l,e))):
 Safe P 71 X (eH ad5 ((th,m0,uX,bm,eu,dV,dW),ad,val)) (ad6 th bm eu dV dW m fu aa fr fs gn ad val l e):=by
 refine Ds.dk hz hX sr mP Tryz.func71 (ane th bm eu dV dW m fu aa fr fs gn ad val l e) ⟨λh=>⟨λh2=> ?_,λh2=> ?_⟩,λh=> ?_⟩;have h:e=0:=by simpa using h
 have h2:=of_decide_eq_true h2;have hu:upT th (m,fu,fr,fs,gn,l,e)=iN gn (bO th m fu fr fs false [] l):=if_pos ⟨h,by show 1<l.length;omega⟩;rw[hu]at ee;have F2:=oT (fs:=fs) (l:=false) (es:=[]) F.d F.fr noE F.ad;have hl:=ang (th:=th) (m:=m) (fu:=fu) (fr:=fr) (fs:=fs) (l:=l) (by omega) F.two F.ad;exact⟨rfl,rfl,F.d,F.fr,⟨λa=>(by cases a),λ_=>rfl⟩,jm,aal F.two F.ad,aqg hz hX F2.d F2.pg (λa=>by rw[hl]at a;omega) ee⟩;have h2:=of_decide_eq_false h2;rw[tX (λa=>h2 (by have:=a.2;simp only[]at this;omega))]at ee;exact vB hz hX F.d F.pg ee;have h:¬e=0:=by simpa using h
 rw[tX (λa=>h a.1)]at ee;exact vB hz hX F.d F.pg ee
end
theorem aec:gE P Bx.bZ 71 ad5:=by
 refine aK Tryz.func71 (by kernel_rfl) (λx=>le_of_ble_eq_true (by kernel_rfl)) ?_;rintro⟨⟨(th:Th),(m:As),(fu:Int),(aa:Int),(fr:Ws),(fs:Ws),(gn:Ws)⟩,(ad:ByteArray),(val:ByteArray)⟩ ⟨(hd:Ds.bz th m fu),(hf:Bx.okW fr),(hr:0<=aa/\aa<=65536),(hk:1<=ad.size/\ad.size<=24),(hv:val.size<=100),_⟩ X hX hz;exact Ds.dk hz hX sr mP Tryz.func71 (awq th m fu aa fr fs gn ad val) ⟨rfl,rfl,hd,hf,hr,hk,hv,aqh hz hX (aeb (op:=(some val)) hk.2 hd hf) rfl⟩
theorem arY{th:Th}{m:As}{fu aa:Int}{fr fs gn:Ws}{ad val:ByteArray}{c:Chs}(e:lL th ad none m fu aa fr fs gn=c):
 ad8.eG ((th,m,fu,aa,fr,fs,gn),ad,val)=sf th c.1 c.2.1 c.2.2.1 c.2.2.2.1 c.2.2.2.2.1 c.2.2.2.2.2.1 ad/\ad8.out ((th,m,fu,aa,fr,fs,gn),ad,val)=bQ c.2.2.2.2.2.2:=by
 subst e;exact⟨rfl,rfl⟩
theorem mQ:x7.Ok P Bx.bZ:=aR.Ok.cons (ap8.sum ap6) (aR.Ok.cons (jo (gY (kM.sum mTN) 1 _) 1) (aR.Ok.cons (ad2.sum mLv) (aR.Ok.cons Bx.amu.sum aR.Ok.nil)))
section
variable{th:Th}{m0:As}{uX bm:Int}{eu dV dW:Ws}{ad val:ByteArray}{X:Ctx}
theorem su{th:Th}{m:As}{fu aa:Int}{fr fs gn:Ws}{ad:ByteArray}:∀y∈aak,(sf th m fu aa fr fs gn ad).length<=y.2.m:=λy hy=>by
 simp only[aak,mem_cons,List.not_mem_nil,or_false]at hy;rcases hy with rfl|rfl|rfl<;>exact le_refl _
theorem abP(hz:eO Bx.bZ X)(hX:X.H=lk (sf th m0 uX bm eu dV dW ad)){m:As}{fu aa:Int}{fr fs gn:Ws}{e:Int}(ee:lL th ad none m0 uX bm eu dV dW=oU th bm eu dV dW m fu aa fr fs gn e):
 Safe P 71 X (eH ad8 ((th,m0,uX,bm,eu,dV,dW),ad,val)) (aea th bm eu dV dW m fu aa fr fs gn ad e):=by
 refine Ds.dk hz hX su mQ Tryz.func71 (aun th bm eu dV dW m fu aa fr fs gn ad e) ⟨λh=> ?_,λh=> ?_⟩;have h:e≠0:=by simpa using h
 unfold oU at ee;rw[if_pos h]at ee;have⟨f1,f2⟩:=arY (val:=val) ee;exact bN 5 rfl (le_refl _) f2 f1;have h:¬e≠0:=by simpa using h
 unfold oU at ee;rw[if_neg h]at ee;have⟨f1,f2⟩:=arY (val:=val) ee;exact bN 5 rfl (le_refl _) f2 f1
theorem vC(hz:eO Bx.bZ X)(hX:X.H=lk (sf th m0 uX bm eu dV dW ad)){m:As}{fu aa:Int}{fr fs gn:Ws}{l:List Br}{e:Int}(hd:Ds.bz th m fu)(hp:∀b∈l,0<=b.2.1/\b.2.1<=65536)
 (ee:lL th ad none m0 uX bm eu dV dW=kE th bm eu dV dW (m,fu,fr,fs,gn,l,e)):
 Safe P 71 X (eH ad8 ((th,m0,uX,bm,eu,dV,dW),ad,val)) (ahY th bm eu dV dW m fu aa fr fs gn ad l e):=by
 refine Ds.dk hz hX su mQ Tryz.func71 (aum th bm eu dV dW m fu aa fr fs gn ad l e) ⟨λh=>⟨λh2=> ?_,λh2=> ?_⟩,λh=> ?_⟩;have h:e=0:=by simpa using h
 have h2:(l.length:Int)=1:=by simpa using h2
 unfold kE at ee;rw[if_pos ⟨h,by simp only[];omega⟩]at ee;exact⟨by omega,by omega,rfl,rfl,hd,ahZ hp 0,abP hz hX ee⟩;have h2:¬(l.length:Int)=1:=by simpa using h2
 unfold kE at ee;rw[if_neg (λa=>h2 (by have:=a.2;simp only[]at this;omega))]at ee;exact abP hz hX ee;have h:¬e=0:=by simpa using h
 unfold kE at ee;rw[if_neg (λa=>h a.1)]at ee;exact abP hz hX ee
theorem aqi(hz:eO Bx.bZ X)(hX:X.H=lk (sf th m0 uX bm eu dV dW ad)){m:As}{fu aa:Int}{fr fs gn:Ws}{l:List Br}{e:Int}(hd:Ds.bz th m fu)(hp:∀b∈l,0<=b.2.1/\b.2.1<=65536)(te:¬(e=0/\1<l.length))
 (ee:lL th ad none m0 uX bm eu dV dW=kE th bm eu dV dW (m,fu,fr,fs,gn,l,e)):
 Safe P 71 X (eH ad8 ((th,m0,uX,bm,eu,dV,dW),ad,val)) (ad9 th bm eu dV dW m fu aa fr fs gn ad l e):=by
 refine Ds.dk hz hX su mQ Tryz.func71 (anf th bm eu dV dW m fu aa fr fs gn ad l e) ⟨λh=>⟨λh2=> ?_,λh2=> ?_⟩,λh=> ?_⟩;have h:e=0:=by simpa using h
 have h2:=of_decide_eq_true h2;exact absurd ⟨h,by omega⟩ te;exact vC hz hX hd hp ee;exact vC hz hX hd hp ee
theorem aqj(hz:eO Bx.bZ X)(hX:X.H=lk (sf th m0 uX bm eu dV dW ad)){m:As}{fu aa:Int}{fr fs gn:Ws}{l:List Br}{e:Int}(F:am4 th m fu fr l)
 (ee:lL th ad none m0 uX bm eu dV dW=kE th bm eu dV dW (upT th (m,fu,fr,fs,gn,l,e))):
 Safe P 71 X (eH ad8 ((th,m0,uX,bm,eu,dV,dW),ad,val)) (ad9 th bm eu dV dW m fu aa fr fs gn ad l e):=by
 refine Ds.dk hz hX su mQ Tryz.func71 (anf th bm eu dV dW m fu aa fr fs gn ad l e) ⟨λh=>⟨λh2=> ?_,λh2=> ?_⟩,λh=> ?_⟩;have h:e=0:=by simpa using h
 have h2:=of_decide_eq_true h2;have hu:upT th (m,fu,fr,fs,gn,l,e)=iN gn (bO th m fu fr fs false [] l):=if_pos ⟨h,by show 1<l.length;omega⟩;rw[hu]at ee;have F2:=oT (fs:=fs) (l:=false) (es:=[]) F.d F.fr noE F.ad;have hl:=ang (th:=th) (m:=m) (fu:=fu) (fr:=fr) (fs:=fs) (l:=l) (by omega) F.two F.ad;exact⟨rfl,rfl,F.d,F.fr,⟨λa=>(by cases a),λ_=>rfl⟩,jm,aal F.two F.ad,aqi hz hX F2.d F2.pg (λa=>by rw[hl]at a;omega) ee⟩;have h2:=of_decide_eq_false h2;rw[tX (λa=>h2 (by have:=a.2;simp only[]at this;omega))]at ee;exact vC hz hX F.d F.pg ee;have h:¬e=0:=by simpa using h
 rw[tX (λa=>h a.1)]at ee;exact vC hz hX F.d F.pg ee
end
theorem aed:gE P Bx.bZ 71 ad8:=by
 refine aK Tryz.func71 (by kernel_rfl) (λx=>le_of_ble_eq_true (by kernel_rfl)) ?_;rintro⟨⟨(th:Th),(m:As),(fu:Int),(aa:Int),(fr:Ws),(fs:Ws),(gn:Ws)⟩,(ad:ByteArray),(val:ByteArray)⟩ ⟨(hd:Ds.bz th m fu),(hf:Bx.okW fr),(hr:0<=aa/\aa<=65536),(hk:1<=ad.size/\ad.size<=24),(hv:val.size<=100),_⟩ X hX hz;exact Ds.dk hz hX su mQ Tryz.func71 (awr th m fu aa fr fs gn ad) ⟨rfl,rfl,hd,hf,hr,hk,(zero_le 100),aqj hz hX (aeb (op:=none) hk.2 hd hf) rfl⟩
def iR(ad:ByteArray):Option ByteArray->Bool
 |some v=>decide (1<=ad.size)&&decide (ad.size<=24)&&decide (v.size<=100)
 |none=>decide (1<=ad.size)&&decide (ad.size<=24)
def opT(th:Th)(ad:ByteArray)(op:Option ByteArray)(m:As)(fu aa:Int)(fr fs gn:Ws):Chs:=if iR ad op=true then lL th ad op m fu aa fr fs gn else(m,fu,aa,fr,fs,gn,1)
def op0(th:Th)(ad:ByteArray)(op:Option ByteArray)(m:As)(fu aa:Int)(fr fs gn:Ws):As:=(opT th ad op m fu aa fr fs gn).1
def op1(th:Th)(ad:ByteArray)(op:Option ByteArray)(m:As)(fu aa:Int)(fr fs gn:Ws):Int:=(opT th ad op m fu aa fr fs gn).2.1
def uL(th:Th)(ad:ByteArray)(op:Option ByteArray)(m:As)(fu aa:Int)(fr fs gn:Ws):Int:=(opT th ad op m fu aa fr fs gn).2.2.1
def op2(th:Th)(ad:ByteArray)(op:Option ByteArray)(m:As)(fu aa:Int)(fr fs gn:Ws):Ws:=(opT th ad op m fu aa fr fs gn).2.2.2.1
def op3(th:Th)(ad:ByteArray)(op:Option ByteArray)(m:As)(fu aa:Int)(fr fs gn:Ws):Ws:=(opT th ad op m fu aa fr fs gn).2.2.2.2.1
def op4(th:Th)(ad:ByteArray)(op:Option ByteArray)(m:As)(fu aa:Int)(fr fs gn:Ws):Ws:=(opT th ad op m fu aa fr fs gn).2.2.2.2.2.1
def opE(th:Th)(ad:ByteArray)(op:Option ByteArray)(m:As)(fu aa:Int)(fr fs gn:Ws):Int:=(opT th ad op m fu aa fr fs gn).2.2.2.2.2.2
def aws(th:Th)(m:As)(fu aa:Int)(fr:Ws):List Prop:=[Ds.bz th m fu,Bx.okW fr,0<=aa/\aa<=65536]
abbrev anh:Spec XK:=⟨λ(_,ad,val)=>[.an 0 0,.s (.ag ad),.s (.ag val)],λ((th,m,fu,aa,fr,fs,gn),_,_)=>hT th m fu aa fr fs gn,λ((th,m,fu,aa,fr,_,_),_,_)=>aws th m fu aa fr,
 λ((th,m,fu,aa,fr,fs,gn),ad,val)=>hT th (op0 th ad (some val) m fu aa fr fs gn) (op1 th ad (some val) m fu aa fr fs gn) (uL th ad (some val) m fu aa fr fs gn) (op2 th ad (some val) m fu aa fr fs gn) (op3 th ad (some val) m fu aa fr fs gn) (op4 th ad (some val) m fu aa fr fs gn),
 λ((th,m,fu,aa,fr,fs,gn),ad,val)=>bQ (opE th ad (some val) m fu aa fr fs gn)⟩
abbrev XD:Type:=XT×ByteArray
abbrev ani:Spec XD:=⟨λ(_,ad)=>[.an 0 0,.s (.ag ad)],λ((th,m,fu,aa,fr,fs,gn),_)=>hT th m fu aa fr fs gn,λ((th,m,fu,aa,fr,_,_),_)=>aws th m fu aa fr,
 λ((th,m,fu,aa,fr,fs,gn),ad)=>hT th (op0 th ad none m fu aa fr fs gn) (op1 th ad none m fu aa fr fs gn) (uL th ad none m fu aa fr fs gn) (op2 th ad none m fu aa fr fs gn) (op3 th ad none m fu aa fr fs gn) (op4 th ad none m fu aa fr fs gn),
 λ((th,m,fu,aa,fr,fs,gn),ad)=>bQ (opE th ad none m fu aa fr fs gn)⟩
def awt:aR:=[(71,cC ad5 ap5)]
def awu:aR:=[(71,cC ad8 ap6)]
theorem ayq(th:Th)(m:As)(fu aa:Int)(fr fs gn:Ws)(ad val:ByteArray):run P awt.sum Tryz.f17 [] (start Tryz.f17 [.an 0 0,.s (.ag ad),.s (.ag val)] (hT th m fu aa fr fs gn)) (inl:=[70])=
 Tree.ite (decide ((↑ad.size:Int)>=1)) (.ite (!decide ((↑ad.size:Int)<=24)) (.ret (hT th m fu aa fr fs gn++[.ay [.s (.ag ad)] 9,.ay [.s (.ag val)] 9]) (.s (.aZ .i64 1))) (.ite (decide ((↑val.size:Int)>100)) (.ret (hT th m fu aa fr fs gn++[.ay [.s (.ag ad)] 9,.ay [.s (.ag val)] 9]) (.s (.aZ .i64 1))) (.ab (bx (some [AV.an 0 0,.s (.ag ad),.fn 72 [.an 4 0,.an 5 0]])) (.ab (bx (some (hT th m fu aa fr fs gn++[.ay [.s (.ag ad)] 9,.ay [.s (.ag val)] 9]))) (.ab (Ds.bz th m fu) (.ab (Bx.okW fr) (.ab ((0:Int)<=aa/\aa<=65536) (.ab ((1:Nat)<=ad.size/\ad.size<=24) (.ab (val.size<=100) (.ret (hT th (ap9 th ad (some val) m fu aa fr fs gn) (aqa th ad (some val) m fu aa fr fs gn) (aqb th ad (some val) m fu aa fr fs gn) (aqc th ad (some val) m fu aa fr fs gn) (aqd th ad (some val) m fu aa fr fs gn) (aqe th ad (some val) m fu aa fr fs gn)++[.ay [.s (.ag ad)] 9,.ay [.s (.ag val)] 9]) (.s (.int .i64 (aqf th ad (some val) m fu aa fr fs gn))))))))))))) (.ret (hT th m fu aa fr fs gn++[.ay [.s (.ag ad)] 9,.ay [.s (.ag val)] 9]) (.s (.aZ .i64 1))):=by kernel_rfl
theorem ayr(th:Th)(m:As)(fu aa:Int)(fr fs gn:Ws)(ad:ByteArray):run P awu.sum Tryz.f19 [] (start Tryz.f19 [.an 0 0,.s (.ag ad)] (hT th m fu aa fr fs gn)) (inl:=[70])=
 Tree.ite (decide ((↑ad.size:Int)>=1)) (.ite (!decide ((↑ad.size:Int)<=24)) (.ret (hT th m fu aa fr fs gn++[.ay [.s (.ag ad)] 9]) (.s (.aZ .i64 1))) (.ab (bx (some [AV.an 0 0,.s (.ag ad),.fn 75 [.an 4 0]])) (.ab (bx (some (hT th m fu aa fr fs gn++[.ay [.s (.ag ad)] 9]))) (.ab (Ds.bz th m fu) (.ab (Bx.okW fr) (.ab ((0:Int)<=aa/\aa<=65536) (.ab ((1:Nat)<=ad.size/\ad.size<=24) (.ab (empty.size<=100) (.ret (hT th (ap9 th ad none m fu aa fr fs gn) (aqa th ad none m fu aa fr fs gn) (aqb th ad none m fu aa fr fs gn) (aqc th ad none m fu aa fr fs gn) (aqd th ad none m fu aa fr fs gn) (aqe th ad none m fu aa fr fs gn)++[.ay [.s (.ag ad)] 9]) (.s (.int .i64 (aqf th ad none m fu aa fr fs gn)))))))))))) (.ret (hT th m fu aa fr fs gn++[.ay [.s (.ag ad)] 9]) (.s (.aZ .i64 1))):=by kernel_rfl
theorem abQ{th:Th}{ad:ByteArray}{op:Option ByteArray}{m:As}{fu aa:Int}{fr fs gn:Ws}(h:iR ad op=true):opT th ad op m fu aa fr fs gn=lL th ad op m fu aa fr fs gn:=if_pos h
theorem agd{th:Th}{ad:ByteArray}{op:Option ByteArray}{m:As}{fu aa:Int}{fr fs gn:Ws}(h:iR ad op=false):opT th ad op m fu aa fr fs gn=(m,fu,aa,fr,fs,gn,1):=if_neg (by rw[h];simp)
theorem arZ{th:Th}{m:As}{fu aa:Int}{fr fs gn:Ws}{ad val:ByteArray}{c:Chs}(e:opT th ad (some val) m fu aa fr fs gn=c):
 anh.eG ((th,m,fu,aa,fr,fs,gn),ad,val)=hT th c.1 c.2.1 c.2.2.1 c.2.2.2.1 c.2.2.2.2.1 c.2.2.2.2.2.1/\anh.out ((th,m,fu,aa,fr,fs,gn),ad,val)=bQ c.2.2.2.2.2.2:=by
 subst e;exact⟨rfl,rfl⟩
theorem ar0{th:Th}{m:As}{fu aa:Int}{fr fs gn:Ws}{ad:ByteArray}{c:Chs}(e:opT th ad none m fu aa fr fs gn=c):
 ani.eG ((th,m,fu,aa,fr,fs,gn),ad)=hT th c.1 c.2.1 c.2.2.1 c.2.2.2.1 c.2.2.2.2.1 c.2.2.2.2.2.1/\ani.out ((th,m,fu,aa,fr,fs,gn),ad)=bQ c.2.2.2.2.2.2:=by
 subst e;exact⟨rfl,rfl⟩
theorem aee:gE P Bx.bZ 17 anh:=by
 refine aK Tryz.func17 (by kernel_rfl) (λx=>le_of_ble_eq_true (by kernel_rfl)) ?_;rintro⟨⟨(th:Th),(m:As),(fu:Int),(aa:Int),(fr:Ws),(fs:Ws),(gn:Ws)⟩,(ad:ByteArray),(val:ByteArray)⟩ ⟨(hd:Ds.bz th m fu),(hf:Bx.okW fr),(hr:0<=aa/\aa<=65536),_⟩ X hX hz
 have no:iR ad (some val)=false->eH anh ((th,m,fu,aa,fr,fs,gn),ad,val) (hT th m fu aa fr fs gn++[uV ad,uV val]) (.s (.aZ .i64 1)):=λh=>by
  have⟨f1,f2⟩:=arZ (agd (th:=th) (m:=m) (fu:=fu) (aa:=aa) (fr:=fr) (fs:=fs) (gn:=gn) h);exact bN 4 rfl (le_refl _) f2 f1
 refine Ds.dk hz hX (by intro y hy;cases hy) (aR.Ok.cons (aec.sum ap5) aR.Ok.nil) Tryz.func17 (ayq th m fu aa fr fs gn ad val) ⟨λh=>⟨λh2=> ?_,λh2=>⟨λh3=> ?_,λh3=>⟨rfl,rfl,hd,hf,hr, ?_, ?_, ?_⟩⟩⟩,λh=> ?_⟩;have h2:¬(ad.size:Int)<=24:=by simpa using h2
 exact no (by simp only[iR,Bool.and_eq_false_iff,decide_eq_false_iff_not];omega);have h3:=of_decide_eq_true h3;exact no (by simp only[iR,Bool.and_eq_false_iff,decide_eq_false_iff_not];omega);have h:=of_decide_eq_true h;have h2:(ad.size:Int)<=24:=by simpa using h2
 omega;have h3:=of_decide_eq_false h3;omega;have h:=of_decide_eq_true h;have h2:(ad.size:Int)<=24:=by simpa using h2
 have h3:=of_decide_eq_false h3;have⟨f1,f2⟩:=arZ (abQ (th:=th) (ad:=ad) (op:=some val) (m:=m) (fu:=fu) (aa:=aa) (fr:=fr) (fs:=fs) (gn:=gn) (by simp only[iR,and_eq_true,decide_eq_true_eq];omega));exact bN 4 rfl (le_refl _) f2 f1;have h:=of_decide_eq_false h;exact no (by simp only[iR,Bool.and_eq_false_iff,decide_eq_false_iff_not];omega)
theorem aef:gE P Bx.bZ 19 ani:=by
 refine aK Tryz.func19 (by kernel_rfl) (λx=>le_of_ble_eq_true (by kernel_rfl)) ?_;rintro⟨⟨(th:Th),(m:As),(fu:Int),(aa:Int),(fr:Ws),(fs:Ws),(gn:Ws)⟩,(ad:ByteArray)⟩ ⟨(hd:Ds.bz th m fu),(hf:Bx.okW fr),(hr:0<=aa/\aa<=65536),_⟩ X hX hz
 have no:iR ad none=false->eH ani ((th,m,fu,aa,fr,fs,gn),ad) (hT th m fu aa fr fs gn++[uV ad]) (.s (.aZ .i64 1)):=λh=>by
  have⟨f1,f2⟩:=ar0 (agd (th:=th) (m:=m) (fu:=fu) (aa:=aa) (fr:=fr) (fs:=fs) (gn:=gn) h);exact bN 4 rfl (le_refl _) f2 f1
 refine Ds.dk hz hX (by intro y hy;cases hy) (aR.Ok.cons (aed.sum ap6) aR.Ok.nil) Tryz.func19 (ayr th m fu aa fr fs gn ad) ⟨λh=>⟨λh2=> ?_,λh2=>⟨rfl,rfl,hd,hf,hr, ?_,zero_le 100, ?_⟩⟩,λh=> ?_⟩;have h2:¬(ad.size:Int)<=24:=by simpa using h2
 exact no (by simp only[iR,Bool.and_eq_false_iff,decide_eq_false_iff_not];omega);have h:=of_decide_eq_true h;have h2:(ad.size:Int)<=24:=by simpa using h2
 omega;have h:=of_decide_eq_true h;have h2:(ad.size:Int)<=24:=by simpa using h2
 have⟨f1,f2⟩:=ar0 (abQ (th:=th) (ad:=ad) (op:=none) (m:=m) (fu:=fu) (aa:=aa) (fr:=fr) (fs:=fs) (gn:=gn) (by simp only[iR,and_eq_true,decide_eq_true_eq];omega));exact bN 4 rfl (le_refl _) f2 f1;have h:=of_decide_eq_false h;exact no (by simp only[iR,Bool.and_eq_false_iff,decide_eq_false_iff_not];omega)
def abR(th:Th)(m:As)(ad:ByteArray):Nat->Int->Int->ByteArray×Bool×Int
 |0,_,_=>(empty,false,4)
 |f+1,n,ae=>
  if gF th m n ae≠0 then(empty,false,gF th m n ae)
  else if lB th m n ae=true then(oQ (cv th m n ae) ad,nj (cv th m n ae) ad,0)
  else if bh th m n ae=[]then(empty,false,4)
  else abR th m ad f ((bh th m n ae).getD (br (bh th m n ae) ad).toNat dB).2.1 (ae+1)
def gtT(th:Th)(m:As)(aa:Int)(ad:ByteArray):ByteArray×Bool×Int:=
 if iR ad none=false then(empty,false,1)else if aa=0 then(empty,false,0)else abR th m ad 17 aa 1
def gtV(th:Th)(m:As)(aa:Int)(ad:ByteArray):ByteArray:=(gtT th m aa ad).1
def gtB(th:Th)(m:As)(aa:Int)(ad:ByteArray):Bool:=(gtT th m aa ad).2.1
def gtE(th:Th)(m:As)(aa:Int)(ad:ByteArray):Int:=(gtT th m aa ad).2.2
abbrev anj:Spec XD:=⟨λ(_,ad)=>[.an 0 0,.s (.ag ad)],λ((th,m,fu,aa,fr,fs,gn),_)=>hT th m fu aa fr fs gn,λ((th,m,fu,aa,_),_)=>[Ds.bz th m fu,0<=aa/\aa<=65536],
 λ((th,m,fu,aa,fr,fs,gn),_)=>hT th m fu aa fr fs gn,λ((th,m,_,aa,_),ad)=>.bD [.s (.ag (gtV th m aa ad)),.s (.bool (gtB th m aa ad)),bQ (gtE th m aa ad)]⟩
abbrev awv:=cU [rT,fc] [fc,dg] (λ(l,_,())=>[(l:List En).length<=1000000,jk (cg l)]) (λ(l,ad,())=>(oQ l ad,nj l ad,()))
def ank:aR:=[(77,aad),(78,awv),(79,aua)]
def aqk:List (Nat×Norm):=[(10,⟨[],[0,1,7,8],4,[]⟩)]
noncomputable def cGt(th:Th)(m:As)(fu aa:Int)(fr fs gn:Ws)(ad:ByteArray)(n ae:Int):cn:=⟨sl 66 [(0,.an 0 0),(1,.s (.ag ad)),(7,bQ n),(8,bQ ae)],hT th m fu aa fr fs gn,hd Tryz.f21 10,{}⟩
theorem ays(th:Th)(m:As)(fu aa:Int)(fr fs gn:Ws)(ad:ByteArray):run P ank.sum Tryz.f21 aqk (start Tryz.f21 [.an 0 0,.s (.ag ad)] (hT th m fu aa fr fs gn)) (inl:=[70])=
 Tree.ite (decide ((↑ad.size:Int)>=1)) (.ite (!decide ((↑ad.size:Int)<=24)) (.ret (hT th m fu aa fr fs gn) (.bD [.s (.ag empty),.s (.aT false),.s (.aZ .i64 1)])) (.ite (aa==0) (.ret (hT th m fu aa fr fs gn) (.bD [.s (.ag empty),.s (.aT false),.s (.aZ .i64 0)])) (.at (cGt th m fu aa fr fs gn ad aa 1)))) (.ret (hT th m fu aa fr fs gn) (.bD [.s (.ag empty),.s (.aT false),.s (.aZ .i64 1)])):=by kernel_rfl
theorem ayt(th:Th)(m:As)(fu aa:Int)(fr fs gn:Ws)(ad:ByteArray)(n ae:Int):run P ank.sum Tryz.f21 aqk (cGt th m fu aa fr fs gn ad n ae) (inl:=[70])=
 Tree.ab (bx (some [AV.an 0 0,.s (.int .i64 n),.s (.int .i64 ae)])) (.ab (bx (some (hT th m fu aa fr fs gn))) (.ab (Ds.bz th m fu) (.ab (aG n) (.ite (gF th m n ae !=0) (.ret (hT th m fu aa fr fs gn++[.ay [.s (.bool (lB th m n ae)),.s (.ro (.az [.ag,.ag] (cv th m n ae))),.s (.ro (.az [.ag,.int .i64] (bh th m n ae)))] 131]) (.bD [.s (.ag empty),.s (.aT false),.s (.int .i64 (gF th m n ae))])) (.ite (lB th m n ae) (.ab ((cv th m n ae).length<=1000000) (.ab (jk (cg (cv th m n ae))) (.ret (hT th m fu aa fr fs gn++[.ay [.s (.bool (lB th m n ae)),.s (.ro (.az [.ag,.ag] (cv th m n ae))),.s (.ro (.az [.ag,.int .i64] (bh th m n ae)))] 131]) (.bD [.s (.ag (oQ (cv th m n ae) ad)),.s (.bool (nj (cv th m n ae) ad)),.s (.aZ .i64 0)])))) (.ite ((↑(bh th m n ae).length:Int)==0) (.ret (hT th m fu aa fr fs gn++[.ay [.s (.bool (lB th m n ae)),.s (.ro (.az [.ag,.ag] (cv th m n ae))),.s (.ro (.az [.ag,.int .i64] (bh th m n ae)))] 131]) (.bD [.s (.ag empty),.s (.aT false),.s (.aZ .i64 4)])) (.ab ((bh th m n ae).length<=1000000) (.ab (jk (nw (bh th m n ae))) (.ab ((0:Int)<=br (bh th m n ae) ad) (.ab (br (bh th m n ae) ad<(↑(bh th m n ae).length:Int)) (.ab (aG (ae+1)) (.at (.mk (sl 66 [(0,.an 0 0),(1,.s (.ag ad)),(7,.s (.int .i64 ((bh th m n ae).getD (br (bh th m n ae) ad).toNat (CL.d [.ag,.int .i64])).snd.fst)),(8,.s (.int .i64 (ae+1)))]) (hT th m fu aa fr fs gn) (hd Tryz.f21 10) (.mk none false 0 [] 0)))))))))))))):=by kernel_rfl
theorem aeg{Z:bB}:ank.Ok P Z:=aR.Ok.cons (pA.sum mNo) (aR.Ok.cons api.sum (aR.Ok.cons xj.sum aR.Ok.nil))
theorem aeh{th:Th}{m:As}{fu aa:Int}{fr fs gn:Ws}{ad:ByteArray}{c:ByteArray×Bool×Int}(e:c=gtT th m aa ad):
 anj.out ((th,m,fu,aa,fr,fs,gn),ad)=.bD [.s (.ag c.1),.s (.bool c.2.1),bQ c.2.2]:=by
 subst e;rfl
theorem auo{Z:bB}:gE P Z 21 anj:=by
 refine aK Tryz.func21 (by kernel_rfl) (λx=>le_of_ble_eq_true (by kernel_rfl)) ?_;rintro⟨⟨(th:Th),(m:As),(fu:Int),(aa:Int),(fr:Ws),(fs:Ws),(gn:Ws)⟩,(ad:ByteArray)⟩ ⟨(hd:Ds.bz th m fu),(hr:0<=aa/\aa<=65536),_⟩ X hX hz
 have hm:∀y∈aqk,(hT th m fu aa fr fs gn).length<=y.2.m:=λy hy=>by
  simp only[aqk,mem_singleton]at hy;subst hy;exact le_refl _
 have loop:∀(f:Nat) (n ae:Int),1<=ae/\ae<=17->18<=ae+(f:Int)->0<=n/\n<=65536->abR th m ad f n ae=gtT th m aa ad->
  Safe P 21 X (eH anj ((th,m,fu,aa,fr,fs,gn),ad)) (cGt th m fu aa fr fs gn ad n ae):=by
  intro f
  induction f with
  |zero=>intro n ae h1 h2;omega
  |succ f ih=>
   intro n ae h1 h2 hn e;rw[abR]at e;refine Ds.dk hz hX hm aeg Tryz.func21 (ayt th m fu aa fr fs gn ad n ae) ⟨rfl,rfl,hd,uJ (by omega) (by omega),λh=> ?_,λh=> ?_⟩;have h:gF th m n ae≠0:=by simpa using h
   rw[if_pos h]at e;exact bN 4 rfl (le_refl _) (aeh e) rfl;have h:gF th m n ae=0:=by simpa using h
   have⟨ayu,n1,n2,_,_,n5,_⟩:=fF h;have⟨s1,s2⟩:=r9 ayu;rw[if_neg (by rw[h];simp)]at e;refine⟨λhl=>⟨by omega,s1, ?_⟩,λhl=>⟨λh3=> ?_,λh3=> ?_⟩⟩;rw[if_pos hl]at e;exact bN 4 rfl (le_refl _) (aeh e) rfl
   have h3:bh th m n ae=[]:=List.eq_nil_of_length_eq_zero (by have:((bh th m n ae).length:Int)=0:=by simpa using h3
                                                              omega)
   rw[if_neg (by rw[hl];simp),if_pos h3]at e;exact bN 4 rfl (le_refl _) (aeh e) rfl;have h3:bh th m n ae≠[]:=λe=>by rw[e]at h3;simp at h3
   rw[if_neg (by rw[hl];simp),if_neg h3]at e;have⟨p0,p1⟩:=tV (ad:=ad) s2 h3;exact⟨by omega,s2,p0,p1,uJ (by omega) (by omega),ih _ _ ⟨by omega,by omega⟩ (by omega) (tW h _) e⟩
 have no:iR ad none=false->eH anj ((th,m,fu,aa,fr,fs,gn),ad) (hT th m fu aa fr fs gn) (.bD [.s (.ag empty),.s (.aT false),.s (.aZ .i64 1)]):=λh=>
  bN 4 rfl (le_refl _) (aeh (c:=(empty,false,1)) (by unfold gtT;rw[if_pos h])) rfl
 refine Ds.dk hz hX hm aeg Tryz.func21 (ays th m fu aa fr fs gn ad) ⟨λh=>⟨λh2=> ?_,λh2=> ?_⟩,λh=> ?_⟩;have h2:¬(ad.size:Int)<=24:=by simpa using h2
 exact no (by simp only[iR,Bool.and_eq_false_iff,decide_eq_false_iff_not];omega);have h:=of_decide_eq_true h;have h2:(ad.size:Int)<=24:=by simpa using h2
 have ok:iR ad none=true:=by simp only[iR,and_eq_true,decide_eq_true_eq];omega
 refine⟨λh3=> ?_,λh3=> ?_⟩;have h3:aa=0:=by simpa using h3
 exact bN 4 rfl (le_refl _) (aeh (c:=(empty,false,0)) (by unfold gtT;rw[if_neg (by rw[ok];simp),if_pos h3])) rfl;have h3:aa≠0:=by simpa using h3
 exact loop 17 aa 1 ⟨by omega,by omega⟩ (by omega) hr (by unfold gtT;rw[if_neg (by rw[ok];simp),if_neg h3]);have h:=of_decide_eq_false h;exact no (by simp only[iR,Bool.and_eq_false_iff,decide_eq_false_iff_not];omega)
end Ts
namespace Go.Sx
open Go
section
variable{P:Program}{X:Ctx}{K:List au->AV->Prop}{L:List au}
end
def aei(id n:Nat):AV->AV
 |.aq j=>bif j.beq id then .aq n else .aq j
 |a=>a
def age(id n:Nat):AV->AV
 |.agg aD=>.agg (aD.map (aei id n))
 |.aq j=>bif j.beq id then .aq n else .aq j
 |a=>a
def mvO(id n:Nat):au->au
 |.ay aD e=>.ay (aD.map (aei id n)) e
 |o=>o
def aql(s:St)(id:Nat):St:=
 match s.H[id]? with
 |some (.aq c e)=>⟨s.ah.map (age id s.H.length),(s.H.map (mvO id s.H.length)).set id .aB++[.aq c e]⟩
 |_=>s
section
variable{ρ aQ:Nat->Value}{H H':aV}{G O O':Nat->Prop}{w w':World}{P:Program}{Z:bB}{X:Ctx}{s:St}{a:Act}
theorem ajU{id n:Nat}{o:au}:(mvO id n o).alive=o.alive:=by cases o<;>rfl
theorem aqm{id n:Nat}{o:au}{c':a8}{e':TypeId}(h:mvO id n o=.aq c' e'):o=.aq c' e':=by
 cases o<;>simp[mvO]at h ⊢;exact h
theorem cF.mv(h:cF X ρ s a w)(id:Nat):∃aQ,cF X aQ (aql s id) a w:=by
 unfold aql;split;rename_i c e ho;have hs:=h.sat;have bA:id<s.H.length:=(getElem?_eq_some_iff.1 ho).1;let n:=s.H.length;let aQ:Nat->Value:=λj=>if j=n then ρ id else ρ j
 let s':St:=⟨s.ah.map (age id n),(s.H.map (mvO id n)).set id .aB++[.aq c e]⟩
 have aA:∀j,s'.aA j=if j=n then some (.aq c e)else if j=id then some .aB else(s.aA j).map (mvO id n):=by
  intro j;show((s.H.map (mvO id n)).set id .aB++[.aq c e])[j]? =_;by_cases hj:j=n;subst hj;rw[if_pos rfl,getElem?_append_right (by simp[n])];simp[n];rw[if_neg hj];by_cases hl:j<n;rw[getElem?_append_left (by simpa[n]using hl),getElem?_set];by_cases hi:id=j;subst hi;simp[bA];rw[if_neg hi,if_neg (Ne.symm hi),getElem?_map];rfl;rw[getElem?_eq_none (by simp only[length_append,List.length_set,length_map,List.length_singleton];show n+1<=j;omega),if_neg (by omega)];have:s.aA j=none:=getElem?_eq_none (by show n<=j;omega);rw[this];rfl
 have ar1:∀{j:Nat} {o:au},s.aA j=some o->j<n:=λhj=>(getElem?_eq_some_iff.1 hj).1
 have back:∀j o,s'.aA j=some o->o.alive=true->∃x,s.aA (if j=n then id else j)=some x/\x.alive=true/\aQ j=ρ (if j=n then id else j)/\(j≠n->j≠id):=by
  intro j o hj ha;rw[aA]at hj;by_cases e1:j=n;rw[if_pos e1];exact⟨.aq c e,ho,rfl,by simp[aQ,e1],λh=>absurd e1 h⟩;rw[if_neg e1]at hj ⊢;by_cases e2:j=id;rw[if_pos e2]at hj;cases hj;cases ha;rw[if_neg e2]at hj;obtain⟨o0,h3,rfl⟩:=map_eq_some_iff.1 hj;exact⟨o0,h3,by rw[ajU]at ha;exact ha,by simp[aQ,e1],λ_=>e2⟩
 have ay:∀b,Own aQ s'.aA b->Own ρ s.aA b:=by
  rintro b ⟨j,o,hj,h1,h2⟩;have⟨x,g1,g2,g3,_⟩:=back j o hj h1;exact⟨_,x,g1,g2,by rw[<-g3];exact h2⟩
 have st:Step ρ s.aA (bd ρ s.aA X.G) w aQ s'.aA (bd aQ s'.aA X.G) w:=by
  refine⟨λj o hj=> ?_,λj o hj=> ?_,λb hb=>.inl (hb.imp (ay b) (λx=>x)),λ_ _ _=>rfl,le_refl _⟩;have:=ar1 hj;simp only[aQ];rw[if_neg (by omega)];have hjn:j≠n:=Nat.ne_of_lt (ar1 hj);by_cases e1:j=id;exact⟨.aB,by rw[aA,if_neg hjn,if_pos e1],λc' e' he=>by cases he⟩;refine⟨mvO id n o,by rw[aA,if_neg hjn,if_neg e1,hj];rfl,λc' e' he=> ?_⟩;exact⟨c',e',aqm he,rfl,rfl⟩
 have aww:s'.aA n=some (.aq c e):=by rw[aA,if_pos rfl]
 have awx:aQ n=ρ id:=by simp[aQ]
 have hi:s.aA id=some (.aq c e):=ho
 have awy:∀{v:Value},aO ρ s.aA (bd ρ s.aA X.G) w (.aq id) v->aO aQ s'.aA (bd aQ s'.aA X.G) w (.aq n) v:=by
  intro v hv;unfold aO at hv ⊢;have⟨h0,o,h1,h2⟩:=hv;rw[hi]at h1;cases h1;exact⟨h0,.aq c e,aww,λc' e' _=>by rw[awx];exact h2 c e rfl⟩
 have afq:∀x cs,aU ρ s.aA (bd ρ s.aA X.G) w x cs->aU aQ s'.aA (bd aQ s'.aA X.G) w (aei id n x) cs:=by
  intro x cs hx;have mY:=aU.step st x cs hx;cases x<;>try exact mY
  rename_i j;simp only[aei,cond_eq_ite];split;rename_i hj;have hj:j=id:=by simpa using hj
  subst hj;unfold aU at hx ⊢;obtain⟨u,rfl,hu⟩:=hx;exact⟨u,rfl,awy hu⟩;exact mY
 have m8:∀(xs:List AV) cs,aE ρ s.aA (bd ρ s.aA X.G) w xs cs->aE aQ s'.aA (bd aQ s'.aA X.G) w (xs.map (aei id n)) cs:=by
  intro xs
  induction xs with
  |nil=>intro cs hx;exact aH.2 (aH.1 hx)
  |cons x xs ih=>
   intro cs hx;obtain⟨c1,c2,rfl,h1,h2⟩:=ao.1 hx;exact ao.2 ⟨c1,c2,rfl,afq _ _ h1,ih _ h2⟩
 have asJ:∀x v,ak ρ s.aA (bd ρ s.aA X.G) w x v->ak aQ s'.aA (bd aQ s'.aA X.G) w (age id n x) v:=by
  intro x v hx;have mY:=ak.step st x v hx;cases x with
  |agg aD=>
   unfold ak at hx;obtain⟨cs,rfl,h1⟩:=hx;show ak _ _ _ _ (.agg _) _;unfold ak;exact⟨cs,rfl,m8 _ _ h1⟩
  |aq j=>
   simp only[age,cond_eq_ite];split;rename_i hj;have hj:j=id:=by simpa using hj
   subst hj;unfold ak at hx ⊢;exact awy hx;exact mY
  |_=>exact mY
 refine⟨aQ,⟨λj o hj=> ?_,λi j oi oj b h1 h2 h3 h4 h5 h6=> ?_,λb hb=>hs.apart b (ay b hb),hs.low⟩,by rw[<-h.size];exact length_map _,λt=> ?_,h.defers,h.ax.trans st,h.jQ,h.bc⟩;have hj:s'.aA j=some o:=hj;rw[aA]at hj;by_cases e0:j=n;rw[if_pos e0]at hj;cases hj;subst e0;rw[awx];exact(hs.obj id _ hi).step st (λ_ _ _=>rfl);rw[if_neg e0]at hj;have hr:aQ j=ρ j:=by simp[aQ,e0]
 rw[hr];by_cases e1:j=id;rw[if_pos e1]at hj;cases hj;trivial;rw[if_neg e1]at hj;obtain⟨o0,h3,rfl⟩:=map_eq_some_iff.1 hj;have e9:=hs.obj j o0 h3;cases o0 with
 |ay aD e1=>
  have⟨b,cells,fr,g1,g2,g3,g4⟩:=e9;exact⟨b,cells,fr,g1,g2,g3,m8 _ _ g4⟩
 |_=>exact e9.step st (λ_ _ _=>rfl)
 have⟨x,hx,hxa,hxr,hxi⟩:=back i oi h1 h3;have⟨y,hy,hya,hyr,hyi⟩:=back j oj h2 h4;have:=hs.inj _ _ x y b hx hy hxa hya (by rw[<-hxr];exact h5) (by rw[<-hyr];exact h6);by_cases e1:i=n;by_cases e2:j=n;omega;rw[if_pos e1,if_neg e2]at this;exact absurd this.symm (hyi e2);by_cases e2:j=n;rw[if_neg e1,if_pos e2]at this;exact absurd this (hxi e1);rw[if_neg e1,if_neg e2]at this;exact this
 have e1:(s.ah.map (age id n)).getD t (.s .bk)=age id n (s.ah.getD t (.s .bk)):=by
  rw[List.getD_eq_getElem?_getD,List.getD_eq_getElem?_getD,getElem?_map];cases s.ah[t]? <;>rfl
 show ak aQ s'.aA _ w ((s.ah.map (age id n)).getD t (.s .bk)) _;rw[e1];exact asJ _ _ (h.den t);exact⟨ρ,h⟩
variable{K:List au->AV->Prop}
theorem qN{f:FuncId}{ah:List AV}{L:List au}{todo:List Item}{stk:ur}(id:Nat){c:cn}(e:(⟨(aql ⟨ah,L⟩ id).ah,(aql ⟨ah,L⟩ id).H,todo,stk⟩:cn)=c)(h:Safe P f X K c):Safe P f X K ⟨ah,L,todo,stk⟩:=by
 subst e;intro G E ρ a w iS iZ hr b t fs hw;have⟨aQ,r'⟩:=hr.mv id;exact h G E aQ a w iS iZ r' b t fs hw
end
end Go.Sx
namespace Ts
open Go Go.Sx Go.Proofs Lf
abbrev fL1:FuncId:=87
abbrev fG1:FuncId:=85
abbrev fW1:FuncId:=132
def geE(k:ByteArray)(e:En):Bool:= !slt e.1 k
abbrev sL1:Spec (Int×(Bool×List En×List Br)×ByteArray×List En):=⟨λ(n,(l,es,bs),_,_)=>[bQ n,avN l es bs,.an 0 0,.an 1 0],λ(_,_,ax,out)=>[uV ax,.ay [.aq 2] 59,.aq (.az cE out) Lf.eE],
 λ(_,(_,es,_),_,out)=>[(es:List En).length<=1000,(out:List En).length<=100000000],λ(_,(_,es,_),ax,out)=>[uV ax,.ay [.aq 3] 59,.aB,.aq (.az cE (out++es.filter (geE ax))) Lf.eE],λ_=>.bD []⟩
def anl:List (Nat×Norm):=[(1,⟨[],[2,3,5],3,[]⟩),(2,⟨[],[2,3,9,10,11],3,[]⟩)]
noncomputable def ayv(l:Bool)(es:List En)(bs:List Br)(ax:ByteArray)(out:List En):cn:=⟨sl 24 [(2,.an 0 0),(3,.an 1 0),(5,.an 3 0)],[uV ax,.ay [.aq 2] 59,.aq (.az cE out) Lf.eE,obN l es bs eN],hr Tryz.f87 1,{}⟩
noncomputable def awz(l:Bool)(es:List En)(bs:List Br)(ax:ByteArray)(out:List En):cn:=⟨sl 24 [(2,.an 0 0),(3,.an 1 0),(5,.an 3 0)],[uV ax,.ay [.aq 4] 59,.aB,obN l es bs eN,.aq (.az cE out) Lf.eE],hr Tryz.f87 1,{}⟩
noncomputable def cL1(es:List En)(ax:ByteArray)(out:List En)(i:Int):cn:=⟨sl 24 [(2,.an 0 0),(3,.an 1 0),(9,.s (.ro (.az cE es))),(10,bQ (es.length:Int)),(11,bQ i)],[uV ax,.ay [.aq 3] 59,.aB,.aq (.az cE out) Lf.eE],hd Tryz.f87 2,{}⟩
theorem ayw(n:Int)(l:Bool)(es:List En)(bs:List Br)(ax:ByteArray)(out:List En):run P (aR.sum []) Tryz.f87 anl (start Tryz.f87 [bQ n,avN l es bs,.an 0 0,.an 1 0] [uV ax,.ay [.aq 2] 59,.aq (.az cE out) Lf.eE])=
 Tree.at (ayv l es bs ax out):=by kernel_rfl
theorem ayx(l:Bool)(es:List En)(bs:List Br)(ax:ByteArray)(out:List En):run P (aR.sum []) Tryz.f87 anl (awz l es bs ax out)=
 Tree.at (cL1 es ax out 0):=by kernel_rfl
theorem awA(es:List En)(ax:ByteArray)(out:List En)(i:Int):run P (aR.sum []) Tryz.f87 anl (cL1 es ax out i)=
 Tree.ite (decide (i<(↑es.length:Int))) (.ab ((0:Int)<=i) (.ab (i<(↑es.length:Int)) (.ite (!slt (es.getD i.toNat (CL.d [.ag,.ag])).fst ax) (.ab ((out.length+1)*(32:Nat)<=140737488355328) (.ab (aG (i+1)) (.at (.mk (sl 24 [(2,.an 0 0),(3,.an 1 0),(9,.s (.ro (.az [.ag,.ag] es))),(10,.s (.int .i64 (↑es.length:Int))),(11,.s (.int .i64 (i+1)))]) [.ay [.s (.ag ax)] 9,.ay [.aq 3] 59,.aB,.aq (.az [.ag,.ag] (out++[((es.getD i.toNat (CL.d [.ag,.ag])).fst,(es.getD i.toNat (CL.d [.ag,.ag])).snd.fst,())])) 66] (hd Tryz.f87 2) (.mk none false 0 [] 0))))) (.ab (aG (i+1)) (.at (cL1 es ax out (i+1))))))) (.ret [.ay [.s (.ag ax)] 9,.ay [.aq 3] 59,.aB,.aq (.az [.ag,.ag] out) 66] (.bD [])):=by kernel_rfl
theorem aej{α:Type}{p:α->Bool}{l:List α}{k:Nat}{d:α}(h:k<l.length):(l.take (k+1)).filter p=(l.take k).filter p++(if p (l.getD k d)=true then [l.getD k d]else []):=by
 rw[<-ik (d:=d) h,List.filter_append];congr 1;cases h2:p (l.getD k d);rw[List.filter_cons_of_neg (by rw[h2];simp)];rfl;rw[List.filter_cons_of_pos h2];rfl
theorem filter_le{α:Type}(p:α->Bool)(l:List α):(l.filter p).length<=l.length:=List.length_filter_le _ _
theorem anm{Z:bB}:gE P Z 87 sL1:=by
 refine aK Tryz.func87 (by kernel_rfl) (λx=>le_of_ble_eq_true (by kernel_rfl)) ?_;rintro⟨(n:Int),⟨(l:Bool),(es:List En),(bs:List Br)⟩,(ax:ByteArray),(out:List En)⟩ ⟨(he:es.length<=1000),(ho:out.length<=100000000),_⟩ X hX hz
 have hm:∀y∈anl,([uV ax,.ay [.aq 2] 59,.aq (.az cE out) Lf.eE]:List au).length<=y.2.m:=λy hy=>by
  simp only[anl,mem_cons,List.not_mem_nil,or_false]at hy;rcases hy with rfl|rfl<;>exact le_refl _
 have loop:∀(j k:Nat),k+j=es.length->Safe P 87 X (eH sL1 (n,(l,es,bs),ax,out)) (cL1 es ax (out++(es.take k).filter (geE ax)) (k:Int)):=by
  intro j
  induction j with
  |zero=>
   intro k hk;refine Ds.dk hz hX hm aR.Ok.nil Tryz.func87 (awA es ax _ k) ⟨λh=>absurd (of_decide_eq_true h) (by omega),λh=> ?_⟩;rw[take_of_length_le (by omega)];exact bN 3 rfl (le_refl _) rfl rfl
  |succ j ih=>
   intro k hk;have e:=aej (p:=geE ax) (l:=es) (k:=k) (d:=dE) (by omega);have hl:=filter_le (geE ax) (es.take k);rw[length_take]at hl;refine Ds.dk hz hX hm aR.Ok.nil Tryz.func87 (awA es ax _ k) ⟨λh=>⟨by omega,by omega,λhg=>⟨?_,⟨by omega,by omega⟩, ?_⟩,λhg=>⟨⟨by omega,by omega⟩, ?_⟩⟩,λh=>absurd (of_decide_eq_false h) (by omega)⟩;show(_+1)*32<=140737488355328;rw[length_append];omega;have hg:geE ax (es.getD k dE)=true:=hg;rw[if_pos hg]at e;have:=ih (k+1) (by omega);rw[e,<-append_assoc]at this;exact this;have hg:geE ax (es.getD k dE)=false:=hg;rw[if_neg (by rw[hg];simp),append_nil]at e;have:=ih (k+1) (by omega);rw[e]at this;exact this
 refine Ds.dk hz hX hm aR.Ok.nil Tryz.func87 (ayw n l es bs ax out) ?_;refine qN 2 (c:=awz l es bs ax out) rfl ?_;refine Ds.dk hz hX hm aR.Ok.nil Tryz.func87 (ayx l es bs ax out) ?_;have:=loop es.length 0 (by omega);rw[List.take_zero,List.filter_nil,append_nil]at this;exact this
def sw{σ:Type}(g:Ws->σ->Int->Ws×σ×Int):List Br->Ws->σ->Ws×σ×Int
 |[],bR,out=>(bR,out,0)
 |b::r,bR,out=>if(g bR out b.2.1).2.2≠0 then g bR out b.2.1 else sw g r (g bR out b.2.1).1 (g bR out b.2.1).2.1
def ej{σ:Type}(on:σ->Int->List En->σ)(th:Th)(m:As):Nat->Int->Ws->σ->Int->Ws×σ×Int
 |0,_,bR,out,_=>(bR,out,4)
 |f+1,ae,bR,out,n=>
  if gF th m n ae≠0 then(bR,out,gF th m n ae)
  else if Bx.mL bR n=true then(bR,out,4)
  else sw (ej on th m f (ae+1)) (bh th m n ae) (Bx.dz bR n) (on out n (cv th m n ae))
def sC(ax:ByteArray)(out:List En)(_:Int)(es:List En):List En:=out++es.filter (geE ax)
def pM(out:Ws)(n:Int)(_:List En):Ws:=Bx.dz out n
def ir(ws:Ws):Nat:=(Bx.af0 ws).length
abbrev tT1:TypeId:=33
abbrev tOn:TypeId:=150
abbrev tVi:TypeId:=203
abbrev eSt:TypeId:=37
abbrev eLE:TypeId:=59
abbrev sG1:Spec (Int×(Bool×List En×List Br)×Ws):=⟨λ(n,(l,es,bs),_)=>[bQ n,avN l es bs,.an 0 0],λ(_,_,out)=>[.ay [.aw .u64 16 out] eSt],λ_=>[],λ(n,_,out)=>[.ay [.aw .u64 16 (Bx.dz out n)] eSt],λ_=>.bD []⟩
def mL1:List AV->RM ((Int×(Bool×List En×List Br)×ByteArray×List En)×List Nat)
 |[n,x,.an a 0,.an b 0]=>match n.cP,at6 x with
  |some (_,_,n),some nd=>.aA a λo=>match o with
   |some (.ay [.s (.ag ax)] _)=>.aA b λo=>match o with
    |some (.ay [.aq r] _)=>.aA r λo=>match o with
     |some (.aq (.az [.ag,.ag] out) _)=>.ret ((n,nd,ax,out),[a,b,r])
     |_=>.fail "no row"
    |_=>.fail "no row's box"
   |_=>.fail "no text"
  |_,_=>.fail "no node"
 |_=>.fail "List$1"
def mG1:List AV->RM ((Int×(Bool×List En×List Br)×Ws)×List Nat)
 |[n,x,.an a 0]=>match n.cP,at6 x with
  |some (_,_,n),some nd=>.aA a λo=>match o with
   |some (.ay [.aw .u64 16 out] _)=>.ret ((n,nd,out),[a])
   |_=>.fail "no set"
  |_,_=>.fail "no node"
 |_=>.fail "Pages$1"
def aqn(th:Th)(m:As)(f:Nat)(ae:Int)(bR:Ws)(ax:ByteArray)(out:List En)(n:Int):Ws:=(ej (sC ax) th m f ae bR out n).1
def aqo(th:Th)(m:As)(f:Nat)(ae:Int)(bR:Ws)(ax:ByteArray)(out:List En)(n:Int):List En:=(ej (sC ax) th m f ae bR out n).2.1
def aqp(th:Th)(m:As)(f:Nat)(ae:Int)(bR:Ws)(ax:ByteArray)(out:List En)(n:Int):Int:=(ej (sC ax) th m f ae bR out n).2.2
abbrev XVL:Type:=XT×Int×Int×Ws×ByteArray×List En
abbrev hVL(th:Th)(m:As)(fu aa:Int)(fr fs gn bR:Ws):List au:=hT th m fu aa fr fs gn++[.ay [.an 0 0] tT1,.ay [.aw .u64 16 bR] eSt,.ay [.fn fL1 [.an 8 0,.an 9 0]] tOn,.ay [.fn fW1 [.an 4 0,.an 5 0,.an 6 0,.an 7 0]] tVi]
abbrev aek(f:Nat):Spec XVL:=⟨λ(_,n,ae,_)=>[bQ n,bQ ae,.an 4 0,.an 5 0,.an 6 0,.an 7 0],λ((th,m,fu,aa,fr,fs,gn),_,_,bR,ax,out)=>hVL th m fu aa fr fs gn bR++[uV ax,.ay [.aq 10] eLE,.aq (.az cE out) Lf.eE],
 λ((th,m,fu,_),n,ae,bR,_,out)=>[Ds.bz th m fu,0<=n/\n<=65536,1<=ae/\ae<=17,18<=ae+(f:Int),Bx.okW bR,List.length (α:=En) out<=126*ir bR],
 λ((th,m,fu,aa,fr,fs,gn),n,ae,bR,ax,out)=>hVL th m fu aa fr fs gn (aqn th m f ae bR ax out n)++[uV ax,.ay [.aq 11] eLE,.aB,.aq (.az cE (aqo th m f ae bR ax out n)) Lf.eE],
 λ((th,m,_),n,ae,bR,ax,out)=>bQ (aqp th m f ae bR ax out n)⟩
def aqq:List AV->RM (XVL×List Nat)
 |[n,d,.an a 0,.an b 0,.an c 0,.an v 0]=>match n.cP,d.cP with
  |some (_,_,n),some (_,_,d)=>.aA a λo=>match o with
   |some (.ay [.an t 0] _)=>(mT [.an t 0]).bind λ(X,σ)=>.aA b λo=>match o with
    |some (.ay [.aw .u64 16 bR] _)=>.aA c λo=>match o with
     |some (.ay [.fn _ [.an p 0,.an q 0]] _)=>.aA p λo=>match o with
      |some (.ay [.s (.ag ax)] _)=>.aA q λo=>match o with
       |some (.ay [.aq r] _)=>.aA r λo=>match o with
        |some (.aq (.az [.ag,.ag] out) _)=>.ret ((X,n,d,bR,ax,out),σ++[a,b,c,v,p,q,r])
        |_=>.fail "visit: no row"
       |_=>.fail "visit: no row's box"
      |_=>.fail "visit: no text"
     |_=>.fail "visit: no on"
    |_=>.fail "visit: no set"
   |_=>.fail "visit: no tree"
  |_,_=>.fail "visit: no numbers"
 |_=>.fail "visit: arguments"
def abS(f:Nat):aR:=[(77,aad),(133,at1),(67,adO),(fL1,cC sL1 mL1),(fW1,cC (aek f) aqq)]
def ah0:List (Nat×Norm):=[(9,⟨[],[1,5,35,36,37],11,[]⟩)]
noncomputable def aqr(th:Th)(m:As)(fu aa:Int)(fr fs gn bR:Ws)(ax:ByteArray)(out:List En)(bs:List Br)(ae i:Int):cn:=⟨sl 51 [(1,bQ ae),(5,.an 7 0),(35,.s (.ro (.az cB bs))),(36,bQ (bs.length:Int)),(37,bQ i)],hVL th m fu aa fr fs gn bR++[uV ax,.ay [.aq 11] eLE,.aB,.aq (.az cE out) Lf.eE],hd Tryz.f132 9,{}⟩
def aqs(th:Th)(m:As)(f:Nat)(ae:Int)(bR:Ws)(out:Ws)(n:Int):Ws:=(ej pM th m f ae bR out n).1
def aqt(th:Th)(m:As)(f:Nat)(ae:Int)(bR:Ws)(out:Ws)(n:Int):Ws:=(ej pM th m f ae bR out n).2.1
def aqu(th:Th)(m:As)(f:Nat)(ae:Int)(bR:Ws)(out:Ws)(n:Int):Int:=(ej pM th m f ae bR out n).2.2
abbrev XVG:Type:=XT×Int×Int×Ws×Ws
abbrev hVG(th:Th)(m:As)(fu aa:Int)(fr fs gn bR:Ws):List au:=hT th m fu aa fr fs gn++[.ay [.an 0 0] tT1,.ay [.aw .u64 16 bR] eSt,.ay [.fn fG1 [.an 8 0]] tOn,.ay [.fn fW1 [.an 4 0,.an 5 0,.an 6 0,.an 7 0]] tVi]
abbrev ael(f:Nat):Spec XVG:=⟨λ(_,n,ae,_)=>[bQ n,bQ ae,.an 4 0,.an 5 0,.an 6 0,.an 7 0],λ((th,m,fu,aa,fr,fs,gn),_,_,bR,out)=>hVG th m fu aa fr fs gn bR++[.ay [.aw .u64 16 out] eSt],
 λ((th,m,fu,_),n,ae,bR,out)=>[Ds.bz th m fu,0<=n/\n<=65536,1<=ae/\ae<=17,18<=ae+(f:Int),Bx.okW bR,0<=0],
 λ((th,m,fu,aa,fr,fs,gn),n,ae,bR,out)=>hVG th m fu aa fr fs gn (aqs th m f ae bR out n)++[.ay [.aw .u64 16 (aqt th m f ae bR out n)] eSt],
 λ((th,m,_),n,ae,bR,out)=>bQ (aqu th m f ae bR out n)⟩
def aqv:List AV->RM (XVG×List Nat)
 |[n,d,.an a 0,.an b 0,.an c 0,.an v 0]=>match n.cP,d.cP with
  |some (_,_,n),some (_,_,d)=>.aA a λo=>match o with
   |some (.ay [.an t 0] _)=>(mT [.an t 0]).bind λ(X,σ)=>.aA b λo=>match o with
    |some (.ay [.aw .u64 16 bR] _)=>.aA c λo=>match o with
     |some (.ay [.fn _ [.an p 0]] _)=>.aA p λo=>match o with
      |some (.ay [.aw .u64 16 out] _)=>.ret ((X,n,d,bR,out),σ++[a,b,c,v,p])
      |_=>.fail "visit: no set"
     |_=>.fail "visit: no on"
    |_=>.fail "visit: no set"
   |_=>.fail "visit: no tree"
  |_,_=>.fail "visit: no numbers"
 |_=>.fail "visit: arguments"
def abT(f:Nat):aR:=[(77,aad),(133,at1),(67,adO),(fG1,cC sG1 mG1),(fW1,cC (ael f) aqv)]
def ah1:List (Nat×Norm):=[(9,⟨[],[1,5,35,36,37],9,[]⟩)]
noncomputable def aqw(th:Th)(m:As)(fu aa:Int)(fr fs gn bR:Ws)(out:Ws)(bs:List Br)(ae i:Int):cn:=⟨sl 51 [(1,bQ ae),(5,.an 7 0),(35,.s (.ro (.az cB bs))),(36,bQ (bs.length:Int)),(37,bQ i)],hVG th m fu aa fr fs gn bR++[.ay [.aw .u64 16 out] eSt],hd Tryz.f132 9,{}⟩
theorem ayy(n:Int)(l:Bool)(es:List En)(bs:List Br)(out:Ws):run P (aR.sum [(67,adO)]) Tryz.f85 [] (start Tryz.f85 [bQ n,avN l es bs,.an 0 0] [.ay [.aw .u64 16 out] eSt])=
 Tree.ret [.ay [.aw .u64 16 (Bx.dz out n)] 37,.ay [.s (.bool l),.s (.ro (.az [.ag,.ag] es)),.s (.ro (.az [.ag,.int .i64] bs))] 131] (.bD []):=by kernel_rfl
theorem awB(f:Nat)(th:Th)(m:As)(fu aa:Int)(fr fs gn bR:Ws)(ax:ByteArray)(out:List En)(n ae:Int):run P (abS f).sum Tryz.f132 ah0 (start Tryz.f132 [bQ n,bQ ae,.an 4 0,.an 5 0,.an 6 0,.an 7 0] (hVL th m fu aa fr fs gn bR++[uV ax,.ay [.aq 11] eLE,.aB,.aq (.az cE out) Lf.eE]))=
 Tree.ab (bx (some [AV.an 0 0,.s (.int .i64 n),.s (.int .i64 ae)])) (.ab (bx (some (hT th m fu aa fr fs gn))) (.ab (Ds.bz th m fu) (.ab (aG n) (.ite (gF th m n ae !=0) (.ret (hT th m fu aa fr fs gn++[.ay [.an 0 0] 33,.ay [.aw .u64 16 bR] 37,.ay [.fn 87 [.an 8 0,.an 9 0]] 150,.ay [.fn 132 [.an 4 0,.an 5 0,.an 6 0,.an 7 0]] 203,.ay [.s (.ag ax)] 9,.ay [.aq 11] 59,.aB,.aq (.az [.ag,.ag] out) 66,.ay [.s (.bool (lB th m n ae)),.s (.ro (.az [.ag,.ag] (cv th m n ae))),.s (.ro (.az [.ag,.int .i64] (bh th m n ae)))] 131]) (.s (.int .i64 (gF th m n ae)))) (.ite (Bx.mL bR n) (.ret (hT th m fu aa fr fs gn++[.ay [.an 0 0] 33,.ay [.aw .u64 16 bR] 37,.ay [.fn 87 [.an 8 0,.an 9 0]] 150,.ay [.fn 132 [.an 4 0,.an 5 0,.an 6 0,.an 7 0]] 203,.ay [.s (.ag ax)] 9,.ay [.aq 11] 59,.aB,.aq (.az [.ag,.ag] out) 66,.ay [.s (.bool (lB th m n ae)),.s (.ro (.az [.ag,.ag] (cv th m n ae))),.s (.ro (.az [.ag,.int .i64] (bh th m n ae)))] 131]) (.s (.aZ .i64 4))) (.ab (bx (some [AV.s (.int .i64 n),.agg [.s (.bool (lB th m n ae)),.s (.ro (.az [.ag,.ag] (cv th m n ae))),.s (.ro (.az [.ag,.int .i64] (bh th m n ae)))],.an 0 0,.an 1 0])) (.ab (bx (some [au.ay [.s (.ag ax)] 9,.ay [.aq 2] 59,.aq (.az [.ag,.ag] out) 66])) (.ab ((cv th m n ae).length<=1000) (.ab (out.length<=100000000) (.at (aqr th m fu aa fr fs gn (Bx.dz bR n) ax (out++List.filter (geE ax) (cv th m n ae)) (bh th m n ae) ae 0))))))))))):=by kernel_rfl
theorem ar2(f:Nat)(th:Th)(m:As)(fu aa:Int)(fr fs gn bR:Ws)(ax:ByteArray)(out:List En)(bs:List Br)(ae i:Int):run P (abS f).sum Tryz.f132 ah0 (aqr th m fu aa fr fs gn bR ax out bs ae i)=
 Tree.ite (decide (i<(↑bs.length:Int))) (.ab ((0:Int)<=i) (.ab (i<(↑bs.length:Int)) (.ab (aG (ae+1)) (.ab (bx (some [AV.s (.int .i64 (bs.getD i.toNat (CL.d [.ag,.int .i64])).snd.fst),.s (.int .i64 (ae+1)),.an 4 0,.an 5 0,.an 6 0,.an 7 0])) (.ab (bx (some (hT th m fu aa fr fs gn++[.ay [.an 0 0] 33,.ay [.aw .u64 16 bR] 37,.ay [.fn 87 [.an 8 0,.an 9 0]] 150,.ay [.fn 132 [.an 4 0,.an 5 0,.an 6 0,.an 7 0]] 203,.ay [.s (.ag ax)] 9,.ay [.aq 10] 59,.aq (.az [.ag,.ag] out) 66]))) (.ab (Ds.bz th m fu) (.ab ((0:Int)<=(bs.getD i.toNat (CL.d [.ag,.int .i64])).snd.fst/\(bs.getD i.toNat (CL.d [.ag,.int .i64])).snd.fst<=65536) (.ab ((1:Int)<=ae+1/\ae+1<=17) (.ab ((18:Int)<=ae+1+(↑f:Int)) (.ab (Bx.okW bR) (.ab (out.length<=(126:Nat)*ir bR) (.ite (aqp th m f (ae+1) bR ax out (bs.getD i.toNat (CL.d [.ag,.int .i64])).snd.fst !=0) (.ret (hT th m fu aa fr fs gn++[.ay [.an 0 0] 33,.ay [.aw .u64 16 (aqn th m f (ae+1) bR ax out (bs.getD i.toNat (CL.d [.ag,.int .i64])).snd.fst)] 37,.ay [.fn 87 [.an 8 0,.an 9 0]] 150,.ay [.fn 132 [.an 4 0,.an 5 0,.an 6 0,.an 7 0]] 203,.ay [.s (.ag ax)] 9,.ay [.aq 13] 59,.aB,.aB,.ay [.s (.ag (bs.getD i.toNat (CL.d [.ag,.int .i64])).fst),.s (.int .i64 (bs.getD i.toNat (CL.d [.ag,.int .i64])).snd.fst)] 137,.aq (.az [.ag,.ag] (aqo th m f (ae+1) bR ax out (bs.getD i.toNat (CL.d [.ag,.int .i64])).snd.fst)) 66]) (.s (.int .i64 (aqp th m f (ae+1) bR ax out (bs.getD i.toNat (CL.d [.ag,.int .i64])).snd.fst)))) (.ab (aG (i+1)) (.at (aqr th m fu aa fr fs gn (aqn th m f (ae+1) bR ax out (bs.getD i.toNat (CL.d [.ag,.int .i64])).snd.fst) ax (aqo th m f (ae+1) bR ax out (bs.getD i.toNat (CL.d [.ag,.int .i64])).snd.fst) bs ae (i+1)))))))))))))))) (.ret (hT th m fu aa fr fs gn++[.ay [.an 0 0] 33,.ay [.aw .u64 16 bR] 37,.ay [.fn 87 [.an 8 0,.an 9 0]] 150,.ay [.fn 132 [.an 4 0,.an 5 0,.an 6 0,.an 7 0]] 203,.ay [.s (.ag ax)] 9,.ay [.aq 11] 59,.aB,.aq (.az [.ag,.ag] out) 66]) (.s (.aZ .i64 0))):=by kernel_rfl
theorem awC(f:Nat)(th:Th)(m:As)(fu aa:Int)(fr fs gn bR:Ws)(out:Ws)(n ae:Int):run P (abT f).sum Tryz.f132 ah1 (start Tryz.f132 [bQ n,bQ ae,.an 4 0,.an 5 0,.an 6 0,.an 7 0] (hVG th m fu aa fr fs gn bR++[.ay [.aw .u64 16 out] eSt]))=
 Tree.ab (bx (some [AV.an 0 0,.s (.int .i64 n),.s (.int .i64 ae)])) (.ab (bx (some (hT th m fu aa fr fs gn))) (.ab (Ds.bz th m fu) (.ab (aG n) (.ite (gF th m n ae !=0) (.ret (hT th m fu aa fr fs gn++[.ay [.an 0 0] 33,.ay [.aw .u64 16 bR] 37,.ay [.fn 85 [.an 8 0]] 150,.ay [.fn 132 [.an 4 0,.an 5 0,.an 6 0,.an 7 0]] 203,.ay [.aw .u64 16 out] 37,.ay [.s (.bool (lB th m n ae)),.s (.ro (.az [.ag,.ag] (cv th m n ae))),.s (.ro (.az [.ag,.int .i64] (bh th m n ae)))] 131]) (.s (.int .i64 (gF th m n ae)))) (.ite (Bx.mL bR n) (.ret (hT th m fu aa fr fs gn++[.ay [.an 0 0] 33,.ay [.aw .u64 16 bR] 37,.ay [.fn 85 [.an 8 0]] 150,.ay [.fn 132 [.an 4 0,.an 5 0,.an 6 0,.an 7 0]] 203,.ay [.aw .u64 16 out] 37,.ay [.s (.bool (lB th m n ae)),.s (.ro (.az [.ag,.ag] (cv th m n ae))),.s (.ro (.az [.ag,.int .i64] (bh th m n ae)))] 131]) (.s (.aZ .i64 4))) (.ab (bx (some [AV.s (.int .i64 n),.agg [.s (.bool (lB th m n ae)),.s (.ro (.az [.ag,.ag] (cv th m n ae))),.s (.ro (.az [.ag,.int .i64] (bh th m n ae)))],.an 0 0])) (.ab (bx (some [au.ay [.aw .u64 16 out] 37])) (.at (aqw th m fu aa fr fs gn (Bx.dz bR n) (Bx.dz out n) (bh th m n ae) ae 0))))))))):=by kernel_rfl
theorem ar3(f:Nat)(th:Th)(m:As)(fu aa:Int)(fr fs gn bR:Ws)(out:Ws)(bs:List Br)(ae i:Int):run P (abT f).sum Tryz.f132 ah1 (aqw th m fu aa fr fs gn bR out bs ae i)=
 Tree.ite (decide (i<(↑bs.length:Int))) (.ab ((0:Int)<=i) (.ab (i<(↑bs.length:Int)) (.ab (aG (ae+1)) (.ab (bx (some [AV.s (.int .i64 (bs.getD i.toNat (CL.d [.ag,.int .i64])).snd.fst),.s (.int .i64 (ae+1)),.an 4 0,.an 5 0,.an 6 0,.an 7 0])) (.ab (bx (some (hT th m fu aa fr fs gn++[.ay [.an 0 0] 33,.ay [.aw .u64 16 bR] 37,.ay [.fn 85 [.an 8 0]] 150,.ay [.fn 132 [.an 4 0,.an 5 0,.an 6 0,.an 7 0]] 203,.ay [.aw .u64 16 out] 37]))) (.ab (Ds.bz th m fu) (.ab ((0:Int)<=(bs.getD i.toNat (CL.d [.ag,.int .i64])).snd.fst/\(bs.getD i.toNat (CL.d [.ag,.int .i64])).snd.fst<=65536) (.ab ((1:Int)<=ae+1/\ae+1<=17) (.ab ((18:Int)<=ae+1+(↑f:Int)) (.ab (Bx.okW bR) (.ab ((0:Nat)<=0) (.ite (aqu th m f (ae+1) bR out (bs.getD i.toNat (CL.d [.ag,.int .i64])).snd.fst !=0) (.ret (hT th m fu aa fr fs gn++[.ay [.an 0 0] 33,.ay [.aw .u64 16 (aqs th m f (ae+1) bR out (bs.getD i.toNat (CL.d [.ag,.int .i64])).snd.fst)] 37,.ay [.fn 85 [.an 8 0]] 150,.ay [.fn 132 [.an 4 0,.an 5 0,.an 6 0,.an 7 0]] 203,.ay [.aw .u64 16 (aqt th m f (ae+1) bR out (bs.getD i.toNat (CL.d [.ag,.int .i64])).snd.fst)] 37,.ay [.s (.ag (bs.getD i.toNat (CL.d [.ag,.int .i64])).fst),.s (.int .i64 (bs.getD i.toNat (CL.d [.ag,.int .i64])).snd.fst)] 137]) (.s (.int .i64 (aqu th m f (ae+1) bR out (bs.getD i.toNat (CL.d [.ag,.int .i64])).snd.fst)))) (.ab (aG (i+1)) (.at (aqw th m fu aa fr fs gn (aqs th m f (ae+1) bR out (bs.getD i.toNat (CL.d [.ag,.int .i64])).snd.fst) (aqt th m f (ae+1) bR out (bs.getD i.toNat (CL.d [.ag,.int .i64])).snd.fst) bs ae (i+1)))))))))))))))) (.ret (hT th m fu aa fr fs gn++[.ay [.an 0 0] 33,.ay [.aw .u64 16 bR] 37,.ay [.fn 85 [.an 8 0]] 150,.ay [.fn 132 [.an 4 0,.an 5 0,.an 6 0,.an 7 0]] 203,.ay [.aw .u64 16 out] 37]) (.s (.aZ .i64 0))):=by kernel_rfl
theorem ann{ws:Ws}(hw:Bx.okW ws){n:Int}(hn:0<=n/\n<1024)(h:Bx.mL ws n=false):ir (Bx.dz ws n)=ir ws+1:=by
 have hb:Bx.bit ws n.toNat=false:=by
  rw[Bx.ahK hw,decide_eq_true hn,Bool.true_and]at h;exact h
 have⟨_,h2⟩:=Bx.gO hw n;unfold ir Bx.af0
 have ad:∀m,m<=1024->(Bx.fr (Bx.bit (Bx.dz ws n)) m).length=(Bx.fr (Bx.bit ws) m).length+(if n.toNat<m then 1 else 0):=by
  intro m
  induction m with
  |zero=>intro _;rfl
  |succ m ih=>
   intro hm;rw[Bx.r7,Bx.r7,length_append,length_append,ih (by omega),h2 m (by omega)]
   have hd:decide (n=(m:Int))=decide (n.toNat=m):=by
    by_cases e:n.toNat=m;rw[decide_eq_true e,decide_eq_true (by omega)];rw[decide_eq_false e,decide_eq_false (by omega)]
   rw[hd];by_cases e:n.toNat=m;subst e;have c1:¬n.toNat<n.toNat:=by omega
   have c2:n.toNat<n.toNat+1:=by omega
   rw[hb,decide_eq_true rfl,if_neg c1,if_pos c2];rfl;rw[decide_eq_false e,Bool.or_false];by_cases e2:n.toNat<m;have c2:n.toNat<m+1:=by omega
   rw[if_pos e2,if_pos c2];omega;have c2:¬n.toNat<m+1:=by omega
   rw[if_neg e2,if_neg c2];omega
 have:=ad 1024 (le_refl _);have c:n.toNat<1024:=by omega
 rw[this,if_pos c]
theorem aup(ws:Ws):ir ws<=1024:=Bx.ajJ _ _
theorem ano{th:Th}{m:As}{fu n ae:Int}(hd:Ds.bz th m fu)(h:gF th m n ae=0):0<=n/\n<1024:=by
 have hp:Ds.vn th n=true:=by
  unfold gF at h;split at h;cases h;split at h;rename_i hg;unfold Ds.gS at hg;split at hg;assumption;cases hg;rename_i hg;exact absurd h hg
 have⟨a,b⟩:=Ds.gv.1 hp;have:=hd.1.1;unfold Ds.fg at b;have e:((th.length:Int)).tdiv 4=(th.length:Int) / 4:=Int.tdiv_eq_ediv_of_nonneg (by omega);rw[e]at b;omega
theorem x8{σ:Type}{g:Ws->σ->Int->Ws×σ×Int}{I:Ws->σ->Prop}(hg:∀bR out n,I bR out->I (g bR out n).1 (g bR out n).2.1):∀(l:List Br) (bR:Ws) (out:σ),I bR out->I (sw g l bR out).1 (sw g l bR out).2.1
 |[],bR,out,h=>h
 |b::r,bR,out,h=>by
  rw[sw];split;exact hg _ _ _ h;exact x8 hg r _ _ (hg _ _ _ h)
theorem ah2(ax:ByteArray){th:Th}{m:As}{fu n ae:Int}{bR:Ws}{out:List En}(hd:Ds.bz th m fu)(h:gF th m n ae=0)(hw:Bx.okW bR)(h3:Bx.mL bR n=false)(ho:List.length (α:=En) out<=126*ir bR):
 Bx.okW (Bx.dz bR n)/\List.length (α:=En) (sC ax out n (cv th m n ae))<=126*ir (Bx.dz bR n):=by
 refine⟨(Bx.gO hw n).1, ?_⟩;rw[ann hw (ano hd h) h3];unfold sC;rw[length_append];have:=filter_le (geE ax) (cv th m n ae);have⟨_,n1,_⟩:=fF h;omega
theorem ah3(ax:ByteArray){th:Th}{m:As}{fu:Int}(hd:Ds.bz th m fu):∀(f:Nat) (ae:Int) (bR:Ws) (out:List En) (n:Int),Bx.okW bR->List.length (α:=En) out<=126*ir bR->
 Bx.okW (ej (sC ax) th m f ae bR out n).1/\List.length (α:=En) (ej (sC ax) th m f ae bR out n).2.1<=126*ir (ej (sC ax) th m f ae bR out n).1
 |0,ae,bR,out,n,hw,ho=>⟨hw,ho⟩
 |f+1,ae,bR,out,n,hw,ho=>by
  rw[ej];split;exact⟨hw,ho⟩;rename_i h;split;exact⟨hw,ho⟩;rename_i h3;have h3:Bx.mL bR n=false:=by simpa using h3
  exact x8 (I:=λbR out=>Bx.okW bR/\List.length (α:=En) out<=126*ir bR) (λbR out n hi=>ah3 ax hd f (ae+1) bR out n hi.1 hi.2) _ _ _ (ah2 ax hd (by simpa using h) hw h3 ho)
theorem ah4{th:Th}{m:As}{fu n ae:Int}{bR:Ws}(hd:Ds.bz th m fu)(h:gF th m n ae=0)(hw:Bx.okW bR)(h3:Bx.mL bR n=false)(ho:0<=0):Bx.okW (Bx.dz bR n)/\0<=0:=⟨(Bx.gO hw n).1,ho⟩
theorem ah5{th:Th}{m:As}{fu:Int}(hd:Ds.bz th m fu):∀(f:Nat) (ae:Int) (bR:Ws) (out:Ws) (n:Int),Bx.okW bR->0<=0->Bx.okW (ej pM th m f ae bR out n).1/\0<=0
 |0,ae,bR,out,n,hw,ho=>⟨hw,ho⟩
 |f+1,ae,bR,out,n,hw,ho=>by
  rw[ej];split;exact⟨hw,ho⟩;rename_i h;split;exact⟨hw,ho⟩;rename_i h3;have h3:Bx.mL bR n=false:=by simpa using h3
  exact x8 (I:=λbR out=>Bx.okW bR/\0<=0) (λbR out n hi=>ah5 hd f (ae+1) bR out n hi.1 hi.2) _ _ _ (ah4 hd (by simpa using h) hw h3 ho)
theorem ajV{Z:bB}:gE P Z 85 sG1:=by
 refine aK Tryz.func85 (by kernel_rfl) (λx=>le_of_ble_eq_true (by kernel_rfl)) ?_;rintro⟨(n:Int),⟨(l:Bool),(es:List En),(bs:List Br)⟩,(out:Ws)⟩ _ X hX hz;exact Ds.dk hz hX (by intro y hy;cases hy) (aR.Ok.cons Bx.rX.sum aR.Ok.nil) Tryz.func85 (ayy n l es bs out) (bN 1 rfl (le_refl _) rfl rfl)
theorem fvL{th:Th}{m:As}{fu aa:Int}{fr fs gn bR:Ws}{ax:ByteArray}{out:List En}{n ae:Int}{f:Nat}{c:Ws×List En×Int}(e:ej (sC ax) th m f ae bR out n=c):
 (aek f).eG ((th,m,fu,aa,fr,fs,gn),n,ae,bR,ax,out)=hVL th m fu aa fr fs gn c.1++[uV ax,.ay [.aq 11] eLE,.aB,.aq (.az cE c.2.1) Lf.eE]/\(aek f).out ((th,m,fu,aa,fr,fs,gn),n,ae,bR,ax,out)=bQ c.2.2:=by
 subst e;exact⟨rfl,rfl⟩
theorem ajW{f:Nat}(h:gE P Bx.bZ fW1 (aek f)):(abS f).Ok P Bx.bZ:=aR.Ok.cons (pA.sum mNo) (aR.Ok.cons Bx.afX.sum (aR.Ok.cons Bx.rX.sum (aR.Ok.cons (anm.sum mL1) (aR.Ok.cons (h.sum aqq) aR.Ok.nil))))
theorem anp{L:List au}(h:L.length=11):∀y∈ah0,L.length<=y.2.m:=λy hy=>by
 simp only[ah0,mem_singleton]at hy;subst hy;exact Nat.le_of_eq h
theorem ar4{f:Nat}(T:(abS f).Ok P Bx.bZ){th:Th}{m:As}{fu aa:Int}{fr fs gn:Ws}{n ae:Int}{iX:Ws}{ax:ByteArray}{jX:List En}(hd:Ds.bz th m fu)(h1:1<=ae/\ae<=17)(h2:18<=ae+((f+1:Nat):Int))
 {X:Ctx} (hX:X.H=lk ((aek (f+1)).heap ((th,m,fu,aa,fr,fs,gn),n,ae,iX,ax,jX))) (hz:eO Bx.bZ X) (h:gF th m n ae=0):
 ∀(j k:Nat) (bR:Ws) (out:List En),k+j=(bh th m n ae).length->Bx.okW bR->List.length (α:=En) out<=126*ir bR->ej (sC ax) th m (f+1) ae iX jX n=sw (ej (sC ax) th m f (ae+1)) ((bh th m n ae).drop k) bR out->
    Safe P fW1 X (eH (aek (f+1)) ((th,m,fu,aa,fr,fs,gn),n,ae,iX,ax,jX)) (aqr th m fu aa fr fs gn bR ax out (bh th m n ae) ae (k:Int))
 |0,k,bR,out,hk,hw,ho,e=>by
  rw[List.drop_of_length_le (by omega)]at e;have⟨f1,f2⟩:=fvL (fu:=fu) (aa:=aa) (fr:=fr) (fs:=fs) (gn:=gn) e;exact Ds.dk hz hX (anp rfl) T Tryz.func132 (ar2 f th m fu aa fr fs gn bR ax out (bh th m n ae) ae k) ⟨λh=>absurd (of_decide_eq_true h) (by omega),λ_=>bN 11 rfl (le_refl _) f2 f1⟩
 |j+1,k,bR,out,hk,hw,ho,e=>by
  have⟨_,_,n2,_,_,n5,_⟩:=fF h;rw[drop_cons dB (by omega),sw]at e;have pg:=tW h k;have⟨i1,i2⟩:=ah3 ax hd f (ae+1) bR out ((bh th m n ae).getD k dB).2.1 hw ho;refine Ds.dk hz hX (anp rfl) T Tryz.func132 (ar2 f th m fu aa fr fs gn bR ax out (bh th m n ae) ae k) ⟨λ_=>⟨by omega,by omega,uJ (by omega) (by omega),rfl,rfl,hd,pg,⟨by omega,by omega⟩,by omega,hw,ho,λh4=> ?_,λh4=>⟨⟨by omega,by omega⟩, ?_⟩⟩,λh=>absurd (of_decide_eq_false h) (by omega)⟩;have h4:(ej (sC ax) th m f (ae+1) bR out ((bh th m n ae).getD k dB).2.1).2.2≠0:=bne_iff_ne.1 h4;rw[if_pos h4]at e;have⟨f1,f2⟩:=fvL (fu:=fu) (aa:=aa) (fr:=fr) (fs:=fs) (gn:=gn) e;exact bN 11 rfl (le_refl _) f2 f1;have h4:¬(ej (sC ax) th m f (ae+1) bR out ((bh th m n ae).getD k dB).2.1).2.2≠0:=λhh=>Bool.false_ne_true (h4.symm.trans (bne_iff_ne.2 hh));rw[if_neg h4]at e;exact ar4 T hd h1 h2 hX hz h j (k+1) _ _ (by omega) i1 i2 e
theorem aam:∀f,gE P Bx.bZ fW1 (aek f)
 |0=>by
  rintro⟨⟨(th:Th),(m:As),(fu:Int),(aa:Int),(fr:Ws),(fs:Ws),(gn:Ws)⟩,(n:Int),(ae:Int),(bR:Ws),(ax:ByteArray),(out:List En)⟩ ⟨_,_,(h1:1<=ae/\ae<=17),(h2:18<=ae+((0:Nat):Int)),_⟩;omega
 |f+1=>by
  have T:=ajW (aam f);refine aK Tryz.func132 (by kernel_rfl) (λx=>le_of_ble_eq_true (by kernel_rfl)) ?_;rintro⟨⟨(th:Th),(m:As),(fu:Int),(aa:Int),(fr:Ws),(fs:Ws),(gn:Ws)⟩,(n:Int),(ae:Int),(iX:Ws),(ax:ByteArray),(jX:List En)⟩ ⟨(hd:Ds.bz th m fu),(hn:0<=n/\n<=65536),(h1:1<=ae/\ae<=17),(h2:18<=ae+((f+1:Nat):Int)),(hw:Bx.okW iX),(ho:List.length (α:=En) jX<=126*ir iX),_⟩ X hX hz;refine qN 10 (c:=start Tryz.f132 [bQ n,bQ ae,.an 4 0,.an 5 0,.an 6 0,.an 7 0] (hVL th m fu aa fr fs gn iX++[uV ax,.ay [.aq 11] eLE,.aB,.aq (.az cE jX) Lf.eE])) rfl ?_;refine Ds.dk hz hX (anp rfl) T Tryz.func132 (awB f th m fu aa fr fs gn iX ax jX n ae) ⟨rfl,rfl,hd,uJ (by omega) (by omega),λh=> ?_,λh=>⟨λh3=> ?_,λh3=> ?_⟩⟩;have h:gF th m n ae≠0:=by simpa using h
  have⟨f1,f2⟩:=fvL (fu:=fu) (aa:=aa) (fr:=fr) (fs:=fs) (gn:=gn) (show ej (sC ax) th m (f+1) ae iX jX n=(iX,jX,gF th m n ae)by rw[ej,if_pos h]);exact bN 11 rfl (le_refl _) f2 f1;have h:gF th m n ae=0:=by simpa using h
  have⟨f1,f2⟩:=fvL (fu:=fu) (aa:=aa) (fr:=fr) (fs:=fs) (gn:=gn) (show ej (sC ax) th m (f+1) ae iX jX n=(iX,jX,4)by rw[ej,if_neg (by rw[h];simp),if_pos h3]);exact bN 11 rfl (le_refl _) f2 f1;have h:gF th m n ae=0:=by simpa using h
  have⟨_,n1,n2,_,_,_,_⟩:=fF h;have e:ej (sC ax) th m (f+1) ae iX jX n=sw (ej (sC ax) th m f (ae+1)) (bh th m n ae) (Bx.dz iX n) ((sC ax) jX n (cv th m n ae)):=by rw[ej,if_neg (by rw[h];simp),if_neg (by rw[h3];simp)]
  have⟨i1,i2⟩:=ah2 ax hd h hw h3 ho;exact⟨rfl,rfl,by omega,by have:=aup iX;omega,ar4 T hd h1 h2 hX hz h _ 0 _ _ (zero_add _) i1 i2 (by rw[List.drop_zero];exact e)⟩
theorem fvG{th:Th}{m:As}{fu aa:Int}{fr fs gn bR:Ws}{out:Ws}{n ae:Int}{f:Nat}{c:Ws×Ws×Int}(e:ej pM th m f ae bR out n=c):
 (ael f).eG ((th,m,fu,aa,fr,fs,gn),n,ae,bR,out)=hVG th m fu aa fr fs gn c.1++[.ay [.aw .u64 16 c.2.1] eSt]/\(ael f).out ((th,m,fu,aa,fr,fs,gn),n,ae,bR,out)=bQ c.2.2:=by
 subst e;exact⟨rfl,rfl⟩
theorem ajX{f:Nat}(h:gE P Bx.bZ fW1 (ael f)):(abT f).Ok P Bx.bZ:=aR.Ok.cons (pA.sum mNo) (aR.Ok.cons Bx.afX.sum (aR.Ok.cons Bx.rX.sum (aR.Ok.cons (ajV.sum mG1) (aR.Ok.cons (h.sum aqv) aR.Ok.nil))))
theorem anq{L:List au}(h:L.length=9):∀y∈ah1,L.length<=y.2.m:=λy hy=>by
 simp only[ah1,mem_singleton]at hy;subst hy;exact Nat.le_of_eq h
theorem ar5{f:Nat}(T:(abT f).Ok P Bx.bZ){th:Th}{m:As}{fu aa:Int}{fr fs gn:Ws}{n ae:Int}{iX:Ws}{jX:Ws}(hd:Ds.bz th m fu)(h1:1<=ae/\ae<=17)(h2:18<=ae+((f+1:Nat):Int))
 {X:Ctx} (hX:X.H=lk ((ael (f+1)).heap ((th,m,fu,aa,fr,fs,gn),n,ae,iX,jX))) (hz:eO Bx.bZ X) (h:gF th m n ae=0):
 ∀(j k:Nat) (bR:Ws) (out:Ws),k+j=(bh th m n ae).length->Bx.okW bR->0<=0->ej pM th m (f+1) ae iX jX n=sw (ej pM th m f (ae+1)) ((bh th m n ae).drop k) bR out->
    Safe P fW1 X (eH (ael (f+1)) ((th,m,fu,aa,fr,fs,gn),n,ae,iX,jX)) (aqw th m fu aa fr fs gn bR out (bh th m n ae) ae (k:Int))
 |0,k,bR,out,hk,hw,ho,e=>by
  rw[List.drop_of_length_le (by omega)]at e;have⟨f1,f2⟩:=fvG (fu:=fu) (aa:=aa) (fr:=fr) (fs:=fs) (gn:=gn) e;exact Ds.dk hz hX (anq rfl) T Tryz.func132 (ar3 f th m fu aa fr fs gn bR out (bh th m n ae) ae k) ⟨λh=>absurd (of_decide_eq_true h) (by omega),λ_=>bN 9 rfl (le_refl _) f2 f1⟩
 |j+1,k,bR,out,hk,hw,ho,e=>by
  have⟨_,_,n2,_,_,n5,_⟩:=fF h;rw[drop_cons dB (by omega),sw]at e;have pg:=tW h k;have⟨i1,i2⟩:=ah5 hd f (ae+1) bR out ((bh th m n ae).getD k dB).2.1 hw ho;refine Ds.dk hz hX (anq rfl) T Tryz.func132 (ar3 f th m fu aa fr fs gn bR out (bh th m n ae) ae k) ⟨λ_=>⟨by omega,by omega,uJ (by omega) (by omega),rfl,rfl,hd,pg,⟨by omega,by omega⟩,by omega,hw,ho,λh4=> ?_,λh4=>⟨⟨by omega,by omega⟩, ?_⟩⟩,λh=>absurd (of_decide_eq_false h) (by omega)⟩;have h4:(ej pM th m f (ae+1) bR out ((bh th m n ae).getD k dB).2.1).2.2≠0:=bne_iff_ne.1 h4;rw[if_pos h4]at e;have⟨f1,f2⟩:=fvG (fu:=fu) (aa:=aa) (fr:=fr) (fs:=fs) (gn:=gn) e;exact bN 9 rfl (le_refl _) f2 f1;have h4:¬(ej pM th m f (ae+1) bR out ((bh th m n ae).getD k dB).2.1).2.2≠0:=λhh=>Bool.false_ne_true (h4.symm.trans (bne_iff_ne.2 hh));rw[if_neg h4]at e;exact ar5 T hd h1 h2 hX hz h j (k+1) _ _ (by omega) i1 i2 e
theorem aan:∀f,gE P Bx.bZ fW1 (ael f)
 |0=>by
  rintro⟨⟨(th:Th),(m:As),(fu:Int),(aa:Int),(fr:Ws),(fs:Ws),(gn:Ws)⟩,(n:Int),(ae:Int),(bR:Ws),(out:Ws)⟩ ⟨_,_,(h1:1<=ae/\ae<=17),(h2:18<=ae+((0:Nat):Int)),_⟩;omega
 |f+1=>by
  have T:=ajX (aan f);refine aK Tryz.func132 (by kernel_rfl) (λx=>le_of_ble_eq_true (by kernel_rfl)) ?_;rintro⟨⟨(th:Th),(m:As),(fu:Int),(aa:Int),(fr:Ws),(fs:Ws),(gn:Ws)⟩,(n:Int),(ae:Int),(iX:Ws),(jX:Ws)⟩ ⟨(hd:Ds.bz th m fu),(hn:0<=n/\n<=65536),(h1:1<=ae/\ae<=17),(h2:18<=ae+((f+1:Nat):Int)),(hw:Bx.okW iX),(ho:0<=0),_⟩ X hX hz;refine Ds.dk hz hX (anq rfl) T Tryz.func132 (awC f th m fu aa fr fs gn iX jX n ae) ⟨rfl,rfl,hd,uJ (by omega) (by omega),λh=> ?_,λh=>⟨λh3=> ?_,λh3=> ?_⟩⟩;have h:gF th m n ae≠0:=by simpa using h
  have⟨f1,f2⟩:=fvG (fu:=fu) (aa:=aa) (fr:=fr) (fs:=fs) (gn:=gn) (show ej pM th m (f+1) ae iX jX n=(iX,jX,gF th m n ae)by rw[ej,if_pos h]);exact bN 9 rfl (le_refl _) f2 f1;have h:gF th m n ae=0:=by simpa using h
  have⟨f1,f2⟩:=fvG (fu:=fu) (aa:=aa) (fr:=fr) (fs:=fs) (gn:=gn) (show ej pM th m (f+1) ae iX jX n=(iX,jX,4)by rw[ej,if_neg (by rw[h];simp),if_pos h3]);exact bN 9 rfl (le_refl _) f2 f1;have h:gF th m n ae=0:=by simpa using h
  have⟨_,n1,n2,_,_,_,_⟩:=fF h;have e:ej pM th m (f+1) ae iX jX n=sw (ej pM th m f (ae+1)) (bh th m n ae) (Bx.dz iX n) (pM jX n (cv th m n ae)):=by rw[ej,if_neg (by rw[h];simp),if_neg (by rw[h3];simp)]
  have⟨i1,i2⟩:=ah4 hd h hw h3 ho;exact⟨rfl,rfl,ar5 T hd h1 h2 hX hz h _ 0 _ _ (zero_add _) i1 i2 (by rw[List.drop_zero];exact e)⟩
def wkT{σ:Type}(on:σ->Int->List En->σ)(th:Th)(m:As)(aa:Int)(out:σ):σ×Int:=if aa=0 then(out,0)else((ej on th m 17 1 Bx.aL out aa).2.1,(ej on th m 17 1 Bx.aL out aa).2.2)
def lsT(th:Th)(m:As)(aa:Int)(ax:ByteArray):List En:=(wkT (sC ax) th m aa []).1
def yW(th:Th)(m:As)(aa:Int)(ax:ByteArray):Int:=(wkT (sC ax) th m aa []).2
def pgT(th:Th)(m:As)(aa:Int):Ws:=(wkT pM th m aa Bx.aL).1
def sI(th:Th)(m:As)(aa:Int):Int:=(wkT pM th m aa Bx.aL).2
def qV(th:Th)(m:As)(aa:Int)(ax:ByteArray):List En:=if yW th m aa ax≠0 then []else lsT th m aa ax
def dT(th:Th)(m:As)(aa:Int):Ws:=if sI th m aa≠0 then Bx.aL else pgT th m aa
abbrev aqx:Spec XD:=⟨λ_=>[.an 0 0,.fn fL1 [.an 4 0,.an 5 0]],λ((th,m,fu,aa,fr,fs,gn),ax)=>hT th m fu aa fr fs gn++[uV ax,.ay [.aq 6] eLE,.aq (.az cE []) Lf.eE],
 λ((th,m,fu,aa,_),_)=>[Ds.bz th m fu,0<=aa/\aa<=65536],λ((th,m,fu,aa,fr,fs,gn),ax)=>hT th m fu aa fr fs gn++[uV ax,.ay [.aq 7] eLE,.aB,.aq (.az cE (lsT th m aa ax)) Lf.eE],λ((th,m,_,aa,_),ax)=>bQ (yW th m aa ax)⟩
abbrev aqy:Spec XT:=⟨λ_=>[.an 0 0,.fn fG1 [.an 4 0]],λ(th,m,fu,aa,fr,fs,gn)=>hT th m fu aa fr fs gn++[.ay [.aw .u64 16 Bx.aL] eSt],
 λ(th,m,fu,aa,_)=>[Ds.bz th m fu,0<=aa/\aa<=65536],λ(th,m,fu,aa,fr,fs,gn)=>hT th m fu aa fr fs gn++[.ay [.aw .u64 16 (pgT th m aa)] eSt],λ(th,m,_,aa,_)=>bQ (sI th m aa)⟩
def auq:aR:=[(fW1,cC (aek 17) aqq)]
def aur:aR:=[(fW1,cC (ael 17) aqv)]
abbrev sLs:Spec XD:=⟨λ(_,ax)=>[.an 0 0,.s (.ag ax)],λ((th,m,fu,aa,fr,fs,gn),_)=>hT th m fu aa fr fs gn,λ((th,m,fu,aa,_),_)=>[Ds.bz th m fu,0<=aa/\aa<=65536],
 λ((th,m,fu,aa,fr,fs,gn),ax)=>hT th m fu aa fr fs gn++[.aq (.az cE (qV th m aa ax)) Lf.eE],λ((th,m,_,aa,_),ax)=>.bD [.aq 4,bQ (yW th m aa ax)]⟩
abbrev sPg:Spec XT:=⟨λ_=>[.an 0 0],λ(th,m,fu,aa,fr,fs,gn)=>hT th m fu aa fr fs gn,λ(th,m,fu,aa,_)=>[Ds.bz th m fu,0<=aa/\aa<=65536],
 λ(th,m,fu,aa,fr,fs,gn)=>hT th m fu aa fr fs gn,λ(th,m,_,aa,_)=>.bD [.aw .u64 16 (dT th m aa),bQ (sI th m aa)]⟩
def awD:List AV->RM (XD×List Nat)
 |[t,.fn _ [.an p 0,.an q 0]]=>(mT [t]).bind λ(X,σ)=>.aA p λo=>match o with
  |some (.ay [.s (.ag ax)] _)=>.aA q λo=>match o with
   |some (.ay [.aq r] _)=>.ret ((X,ax),σ++[p,q,r])
   |_=>.fail "no row"
  |_=>.fail "no text"
 |_=>.fail "walk"
def awE:List AV->RM (XT×List Nat)
 |[t,.fn _ [.an p 0]]=>(mT [t]).bind λ(X,σ)=>.ret (X,σ++[p])
 |_=>.fail "walk"
def anr:aR:=[(84,cC aqx awD)]
def awF:aR:=[(84,cC aqy awE)]
def aqz:List (Nat×Norm):=[(4,⟨[],[0,3,6],4,[(5,0,false,.az cE [],Lf.eE)]⟩)]
noncomputable def cLs(th:Th)(m:As)(fu aa:Int)(fr fs gn:Ws)(ax:ByteArray):cn:=⟨sl 17 [(0,.an 0 0),(3,.an 4 0),(6,.an 5 0)],hT th m fu aa fr fs gn++[uV ax,.ay [.aq 6] eLE,.aq (.az cE []) Lf.eE],hr Tryz.f33 4,{}⟩
theorem awG(th:Th)(m:As)(fu aa:Int)(fr fs gn:Ws)(ax:ByteArray):run P auq.sum Tryz.f84 [] (start Tryz.f84 [.an 0 0,.fn fL1 [.an 4 0,.an 5 0]] (hT th m fu aa fr fs gn++[uV ax,.ay [.aq 7] eLE,.aB,.aq (.az cE []) Lf.eE]))=
 Tree.ite (aa==0) (.ret (hT th m fu aa fr fs gn++[.ay [.s (.ag ax)] 9,.ay [.aq 7] 59,.aB,.aq (.az [.ag,.ag] []) 66,.ay [.an 0 0] 33,.ay [.fn 87 [.an 4 0,.an 5 0]] 150,.ay [.aw .u64 16 (replicate 16 0)] 37,.ay [.fn 132 [.an 8 0,.an 10 0,.an 9 0,.an 11 0]] 203]) (.s (.aZ .i64 0))) (.ab (bx (some [AV.s (.int .i64 aa),.s (.int .i64 1),.an 4 0,.an 5 0,.an 6 0,.an 7 0])) (.ab (bx (some (hT th m fu aa fr fs gn++[.ay [.an 0 0] 33,.ay [.aw .u64 16 (replicate 16 0)] 37,.ay [.fn 87 [.an 8 0,.an 9 0]] 150,.ay [.fn 132 [.an 4 0,.an 5 0,.an 6 0,.an 7 0]] 203,.ay [.s (.ag ax)] 9,.ay [.aq 10] 59,.aq (.az [.ag,.ag] []) 66]))) (.ab (Ds.bz th m fu) (.ab ((0:Int)<=aa/\aa<=65536) (.ab ((1:Int)<=1/\(1:Int)<=17) (.ab ((18:Int)<=1+(↑(17:Nat):Int)) (.ab (Bx.okW (replicate 16 0)) (.ab ((0:Nat)<=(126:Nat)*0) (.ret (hT th m fu aa fr fs gn++[.ay [.s (.ag ax)] 9,.ay [.aq 12] 59,.aB,.aB,.ay [.an 0 0] 33,.ay [.fn 87 [.an 4 0,.an 5 0]] 150,.ay [.aw .u64 16 (aqn th m 17 1 (replicate 16 0) ax [] aa)] 37,.ay [.fn 132 [.an 8 0,.an 10 0,.an 9 0,.an 11 0]] 203,.aq (.az [.ag,.ag] (aqo th m 17 1 (replicate 16 0) ax [] aa)) 66]) (.s (.int .i64 (aqp th m 17 1 (replicate 16 0) ax [] aa)))))))))))):=by kernel_rfl
theorem awH(th:Th)(m:As)(fu aa:Int)(fr fs gn:Ws):run P aur.sum Tryz.f84 [] (start Tryz.f84 [.an 0 0,.fn fG1 [.an 4 0]] (hT th m fu aa fr fs gn++[.ay [.aw .u64 16 Bx.aL] eSt]))=
 Tree.ite (aa==0) (.ret (hT th m fu aa fr fs gn++[.ay [.aw .u64 16 Bx.aL] 37,.ay [.an 0 0] 33,.ay [.fn 85 [.an 4 0]] 150,.ay [.aw .u64 16 (replicate 16 0)] 37,.ay [.fn 132 [.an 5 0,.an 7 0,.an 6 0,.an 8 0]] 203]) (.s (.aZ .i64 0))) (.ab (bx (some [AV.s (.int .i64 aa),.s (.int .i64 1),.an 4 0,.an 5 0,.an 6 0,.an 7 0])) (.ab (bx (some (hT th m fu aa fr fs gn++[.ay [.an 0 0] 33,.ay [.aw .u64 16 (replicate 16 0)] 37,.ay [.fn 85 [.an 8 0]] 150,.ay [.fn 132 [.an 4 0,.an 5 0,.an 6 0,.an 7 0]] 203,.ay [.aw .u64 16 Bx.aL] 37]))) (.ab (Ds.bz th m fu) (.ab ((0:Int)<=aa/\aa<=65536) (.ab ((1:Int)<=1/\(1:Int)<=17) (.ab ((18:Int)<=1+(↑(17:Nat):Int)) (.ab (Bx.okW (replicate 16 0)) (.ab ((0:Nat)<=0) (.ret (hT th m fu aa fr fs gn++[.ay [.aw .u64 16 (aqt th m 17 1 (replicate 16 0) Bx.aL aa)] 37,.ay [.an 0 0] 33,.ay [.fn 85 [.an 4 0]] 150,.ay [.aw .u64 16 (aqs th m 17 1 (replicate 16 0) Bx.aL aa)] 37,.ay [.fn 132 [.an 5 0,.an 7 0,.an 6 0,.an 8 0]] 203]) (.s (.int .i64 (aqu th m 17 1 (replicate 16 0) Bx.aL aa)))))))))))):=by kernel_rfl
theorem ayz(th:Th)(m:As)(fu aa:Int)(fr fs gn:Ws)(ax:ByteArray):run P anr.sum Tryz.f33 aqz (start Tryz.f33 [.an 0 0,.s (.ag ax)] (hT th m fu aa fr fs gn))=
 Tree.at (cLs th m fu aa fr fs gn ax):=by kernel_rfl
theorem ayA(th:Th)(m:As)(fu aa:Int)(fr fs gn:Ws)(ax:ByteArray):run P anr.sum Tryz.f33 aqz (cLs th m fu aa fr fs gn ax)=
 Tree.ab (bx (some [AV.an 0 0,.fn 87 [.an 4 0,.an 5 0]])) (.ab (bx (some (hT th m fu aa fr fs gn++[.ay [.s (.ag ax)] 9,.ay [.aq 6] 59,.aq (.az [.ag,.ag] []) 66]))) (.ab (Ds.bz th m fu) (.ab ((0:Int)<=aa/\aa<=65536) (.ite (yW th m aa ax !=0) (.ret (hT th m fu aa fr fs gn++[.ay [.s (.ag ax)] 9,.ay [.aq 7] 59,.aB,.aq (.az [.ag,.ag] (lsT th m aa ax)) 66]) (.bD [.emp,.s (.int .i64 (yW th m aa ax))])) (.ret (hT th m fu aa fr fs gn++[.ay [.s (.ag ax)] 9,.ay [.aq 7] 59,.aB,.aq (.az [.ag,.ag] (lsT th m aa ax)) 66]) (.bD [.aq 7,.s (.aZ .i64 0)])))))):=by kernel_rfl
theorem ayB(th:Th)(m:As)(fu aa:Int)(fr fs gn:Ws):run P awF.sum Tryz.f31 [] (start Tryz.f31 [.an 0 0] (hT th m fu aa fr fs gn))=
 Tree.ab (bx (some [AV.an 0 0,.fn 85 [.an 4 0]])) (.ab (some (hT th m fu aa fr fs gn++[.ay [.aw .u64 16 (replicate 16 0)] 37])=some (hT th m fu aa fr fs gn++[.ay [.aw .u64 16 Bx.aL] 37])) (.ab (Ds.bz th m fu) (.ab ((0:Int)<=aa/\aa<=65536) (.ite (sI th m aa !=0) (.ret (hT th m fu aa fr fs gn++[.ay [.aw .u64 16 (replicate 16 0)] 37,.ay [.aw .u64 16 (pgT th m aa)] 37]) (.bD [.aw .u64 16 (replicate 16 0),.s (.int .i64 (sI th m aa))])) (.ret (hT th m fu aa fr fs gn++[.ay [.aw .u64 16 (pgT th m aa)] 37,.ay [.aw .u64 16 (pgT th m aa)] 37]) (.bD [.aw .u64 16 (pgT th m aa),.s (.aZ .i64 0)])))))):=by kernel_rfl
theorem ans{th:Th}{m:As}{fu aa:Int}{fr fs gn:Ws}{ax:ByteArray}{c:List En×Int}(e:c=wkT (sC ax) th m aa []):
 aqx.eG ((th,m,fu,aa,fr,fs,gn),ax)=hT th m fu aa fr fs gn++[uV ax,.ay [.aq 7] eLE,.aB,.aq (.az cE c.1) Lf.eE]/\aqx.out ((th,m,fu,aa,fr,fs,gn),ax)=bQ c.2:=by
 subst e;exact⟨rfl,rfl⟩
theorem ant{th:Th}{m:As}{fu aa:Int}{fr fs gn:Ws}{c:Ws×Int}(e:c=wkT pM th m aa Bx.aL):
 aqy.eG (th,m,fu,aa,fr,fs,gn)=hT th m fu aa fr fs gn++[.ay [.aw .u64 16 c.1] eSt]/\aqy.out (th,m,fu,aa,fr,fs,gn)=bQ c.2:=by
 subst e;exact⟨rfl,rfl⟩
theorem anu:gE P Bx.bZ 84 aqx:=by
 refine aK Tryz.func84 (by kernel_rfl) (λx=>le_of_ble_eq_true (by kernel_rfl)) ?_;rintro⟨⟨(th:Th),(m:As),(fu:Int),(aa:Int),(fr:Ws),(fs:Ws),(gn:Ws)⟩,(ax:ByteArray)⟩ ⟨(hd:Ds.bz th m fu),(hr:0<=aa/\aa<=65536),_⟩ X hX hz;refine qN 6 (c:=start Tryz.f84 [.an 0 0,.fn fL1 [.an 4 0,.an 5 0]] (hT th m fu aa fr fs gn++[uV ax,.ay [.aq 7] eLE,.aB,.aq (.az cE []) Lf.eE])) rfl ?_;refine Ds.dk hz hX (by intro y hy;cases hy) (aR.Ok.cons ((aam 17).sum aqq) aR.Ok.nil) Tryz.func84 (awG th m fu aa fr fs gn ax) ⟨λh=> ?_,λh=>⟨rfl,rfl,hd,hr,⟨by omega,by omega⟩,by omega,Bx.fh.1,le_refl _, ?_⟩⟩;have h:aa=0:=by simpa using h
 have⟨f1,f2⟩:=ans (fu:=fu) (fr:=fr) (fs:=fs) (gn:=gn) (c:=([],0)) (show _=wkT (sC ax) th m aa []by unfold wkT;rw[if_pos h]);exact bN 7 rfl (le_refl _) f2 f1;have h:¬aa=0:=by simpa using h
 have⟨f1,f2⟩:=ans (fu:=fu) (fr:=fr) (fs:=fs) (gn:=gn) (c:=((ej (sC ax) th m 17 1 Bx.aL [] aa).2.1,(ej (sC ax) th m 17 1 Bx.aL [] aa).2.2)) (show _=wkT (sC ax) th m aa []by unfold wkT;rw[if_neg h]);exact bN 7 rfl (le_refl _) f2 f1
theorem anv:gE P Bx.bZ 84 aqy:=by
 refine aK Tryz.func84 (by kernel_rfl) (λx=>le_of_ble_eq_true (by kernel_rfl)) ?_;rintro⟨(th:Th),(m:As),(fu:Int),(aa:Int),(fr:Ws),(fs:Ws),(gn:Ws)⟩ ⟨(hd:Ds.bz th m fu),(hr:0<=aa/\aa<=65536),_⟩ X hX hz;refine Ds.dk hz hX (by intro y hy;cases hy) (aR.Ok.cons ((aan 17).sum aqv) aR.Ok.nil) Tryz.func84 (awH th m fu aa fr fs gn) ⟨λh=> ?_,λh=>⟨rfl,rfl,hd,hr,⟨by omega,by omega⟩,by omega,Bx.fh.1,le_refl _, ?_⟩⟩;have h:aa=0:=by simpa using h
 have⟨f1,f2⟩:=ant (fu:=fu) (fr:=fr) (fs:=fs) (gn:=gn) (c:=(Bx.aL,0)) (show _=wkT pM th m aa Bx.aL by unfold wkT;rw[if_pos h]);exact bN 5 rfl (le_refl _) f2 f1;have h:¬aa=0:=by simpa using h
 have⟨f1,f2⟩:=ant (fu:=fu) (fr:=fr) (fs:=fs) (gn:=gn) (c:=((ej pM th m 17 1 Bx.aL Bx.aL aa).2.1,(ej pM th m 17 1 Bx.aL Bx.aL aa).2.2)) (show _=wkT pM th m aa Bx.aL by unfold wkT;rw[if_neg h]);exact bN 5 rfl (le_refl _) f2 f1
theorem aqA:gE P Bx.bZ 33 sLs:=by
 refine gx Tryz.func33 (by kernel_rfl) (λx=>le_of_ble_eq_true (by kernel_rfl)) ?_;rintro⟨⟨(th:Th),(m:As),(fu:Int),(aa:Int),(fr:Ws),(fs:Ws),(gn:Ws)⟩,(ax:ByteArray)⟩ ⟨(hd:Ds.bz th m fu),(hr:0<=aa/\aa<=65536),_⟩ X hX hz
 have hm:∀y∈aqz,(hT th m fu aa fr fs gn).length<=y.2.m:=λy hy=>by
  simp only[aqz,mem_singleton]at hy;subst hy;exact le_refl _
 have T:anr.Ok P Bx.bZ:=aR.Ok.cons (anu.sum awD) aR.Ok.nil;refine Ds.dk hz hX hm T Tryz.func33 (ayz th m fu aa fr fs gn ax) ?_;refine Ds.dk hz hX hm T Tryz.func33 (ayA th m fu aa fr fs gn ax) ⟨rfl,rfl,hd,hr,λh=> ?_,λh=> ?_⟩;have h:yW th m aa ax≠0:=bne_iff_ne.1 h;refine lK (h:=hT th m fu aa fr fs gn++[.aq (.az cE []) Lf.eE]) ⟨[(0,.az cE [],Lf.eE)],[0,1],4,[]⟩ rfl (le_refl _) (p6.same _) rfl ?_;show hT th m fu aa fr fs gn++[.aq (.az cE (qV th m aa ax)) Lf.eE]=_;unfold qV;rw[if_pos h];rfl;have h:¬yW th m aa ax≠0:=λhh=>Bool.false_ne_true (h.symm.trans (bne_iff_ne.2 hh));refine lK (h:=hT th m fu aa fr fs gn++[.aq (.az cE (lsT th m aa ax)) Lf.eE]) ⟨[],[0,1],4,[]⟩ rfl (le_refl _) (p6.same _) ?_ ?_;show AV.bD [.aq 4,bQ (yW th m aa ax)]=_;rw[show yW th m aa ax=0 from Decidable.byContradiction h];rfl;show hT th m fu aa fr fs gn++[.aq (.az cE (qV th m aa ax)) Lf.eE]=_;unfold qV;rw[if_neg h]
theorem aem:gE P Bx.bZ 31 sPg:=by
 refine aK Tryz.func31 (by kernel_rfl) (λx=>le_of_ble_eq_true (by kernel_rfl)) ?_;rintro⟨(th:Th),(m:As),(fu:Int),(aa:Int),(fr:Ws),(fs:Ws),(gn:Ws)⟩ ⟨(hd:Ds.bz th m fu),(hr:0<=aa/\aa<=65536),_⟩ X hX hz;refine Ds.dk hz hX (by intro y hy;cases hy) (aR.Ok.cons (anv.sum awE) aR.Ok.nil) Tryz.func31 (ayB th m fu aa fr fs gn) ⟨rfl,rfl,hd,hr,λh=> ?_,λh=> ?_⟩;have h:sI th m aa≠0:=bne_iff_ne.1 h;refine bN (h:=hT th m fu aa fr fs gn) 4 rfl (le_refl _) ?_ rfl;show AV.bD [.aw .u64 16 (dT th m aa),bQ (sI th m aa)]=_;unfold dT;rw[if_pos h];rfl;have h:¬sI th m aa≠0:=λhh=>Bool.false_ne_true (h.symm.trans (bne_iff_ne.2 hh));refine bN (h:=hT th m fu aa fr fs gn) 4 rfl (le_refl _) ?_ rfl;show AV.bD [.aw .u64 16 (dT th m aa),bQ (sI th m aa)]=_;unfold dT;rw[if_neg h,show sI th m aa=0 from Decidable.byContradiction h];rfl
def opF(th:Th)(free:Ws):Ws:=Bx.cf .and free (Bx.cf .andNot (Bx.bw (Ds.fg th)) (Bx.bw 2))
abbrev XO:Type:=Th×As×Int×Int×Ws
abbrev sOp:Spec XO:=⟨λ(_,_,_,aa,free)=>[.an 0 0,bQ aa,.aw .u64 16 free],λ(th,m,fu,_)=>Ds.hD th m fu,λ(th,m,fu,_)=>[Ds.bz th m fu],λ(th,m,fu,aa,free)=>Ds.hD th m fu++[fm 0 aa (opF th free) Bx.aL Bx.aL],λ_=>.an 3 0⟩
def mOp:List AV->RM (XO×List Nat)
 |[d,r,.aw .u64 16 free]=>(Ds.xb [d]).bind λ((th,m,fu),σ)=>match r.cP with
  |some (_,_,aa)=>.ret ((th,m,fu,aa,free),σ)
  |none=>.fail "no root"
 |_=>.fail "open"
abbrev awI:=cC sOp mOp
abbrev aen:=cC Ds.sPn Ds.xb
abbrev aus:=cU [Bx.bS] [Bx.eU] (λ_=>[]) (λ(n,())=>(Bx.bw n,()))
abbrev anw:=cU [Bx.eU,Bx.eU] [Bx.eU] (λ_=>[]) (λ(a,b,())=>(Bx.cf .andNot a b,()))
abbrev awJ:=cU [Bx.eU,Bx.eU] [Bx.eU] (λ_=>[]) (λ(a,b,())=>(Bx.cf .and a b,()))
def awK:aR:=[(65,aen),(64,aus),(66,anw),(63,awJ)]
abbrev sRt:Spec XT:=⟨λ_=>[.an 0 0],λ(th,m,fu,aa,fr,fs,gn)=>hT th m fu aa fr fs gn,λ_=>[],λ(th,m,fu,aa,fr,fs,gn)=>hT th m fu aa fr fs gn,λ(_,_,_,aa,_)=>bQ aa⟩
def th0(n:Int):Th:=replicate n.toNat (CL.d Ds.cS)
def mGt:List AV->RM (XD×List Nat)
 |[t,.s (.ag ad)]=>(mT [t]).bind λ(X,σ)=>.ret ((X,ad),σ)
 |_=>.fail "get"
theorem ayC(th:Th)(m:As)(fu aa:Int)(free:Ws):run P awK.sum Tryz.f13 [] (start Tryz.f13 [.an 0 0,bQ aa,.aw .u64 16 free] (Ds.hD th m fu))=
 Tree.ab (bx (some [AV.an 0 0])) (.ab (bx (some (Ds.hD th m fu))) (.ab (Ds.bz th m fu) (.ret (Ds.hD th m fu++[.ay [.aw .u64 16 free] 37,fm 0 aa (Bx.cf BinOp.and free (Bx.cf BinOp.andNot (Bx.bw (Ds.fg th)) (Bx.bw 2))) (replicate 16 0) (replicate 16 0)]) (.an 4 0)))):=by kernel_rfl
theorem ayD(th:Th)(m:As)(fu aa:Int)(fr fs gn:Ws):run P (aR.sum []) Tryz.f23 [] (start Tryz.f23 [.an 0 0] (hT th m fu aa fr fs gn))=
 Tree.ret (hT th m fu aa fr fs gn) (.s (.int .i64 aa)):=by kernel_rfl
theorem aqB{Z:bB}:gE P Z 13 sOp:=by
 refine aK Tryz.func13 (by kernel_rfl) (λx=>le_of_ble_eq_true (by kernel_rfl)) ?_;rintro⟨(th:Th),(m:As),(fu:Int),(aa:Int),(free:Ws)⟩ ⟨(hd:Ds.bz th m fu),_⟩ X hX hz;exact Ds.dk hz hX (by intro y hy;cases hy) (aR.Ok.cons (Ds.adg.sum Ds.xb) (aR.Ok.cons Bx.rZ.sum (aR.Ok.cons Bx.vu.sum (aR.Ok.cons Bx.ahJ.sum aR.Ok.nil)))) Tryz.func13 (ayC th m fu aa free) ⟨rfl,rfl,hd,bN 3 rfl (le_refl _) rfl rfl⟩
theorem aqC{Z:bB}:gE P Z 23 sRt:=by
 refine aK Tryz.func23 (by kernel_rfl) (λx=>le_of_ble_eq_true (by kernel_rfl)) ?_;rintro⟨(th:Th),(m:As),(fu:Int),(aa:Int),(fr:Ws),(fs:Ws),(gn:Ws)⟩ _ X hX hz;exact Ds.dk hz hX (by intro y hy;cases hy) aR.Ok.nil Tryz.func23 (ayD th m fu aa fr fs gn) (bN 4 rfl (le_refl _) rfl rfl)
abbrev aut:TypeId:=155
abbrev er(i:Nat)(wh:Int)(on:Bool)(ep pg:Int)(bu:Ws)(t:AV):au:=.ay [.an i 0,bQ wh,.s (.bool on),bQ ep,bQ pg,.aw .u64 16 bu,t] aut
abbrev hS0(th:Th)(m:As)(fu wh:Int)(on:Bool)(ep pg:Int)(bu:Ws):List au:=[er 1 wh on ep pg bu (.s .jz),Ds.jw 2 3 fu,.aq (.az Ds.cS th) Ds.eS,.map Ds.kS m]
abbrev jR(th:Th)(m:As)(fu wh:Int)(on:Bool)(ep pg:Int)(bu:Ws)(aa:Int)(fr fs gn:Ws):List au:=[er 1 wh on ep pg bu (.an 2 0),Ds.jw 3 4 fu,fm 1 aa fr fs gn,.aq (.az Ds.cS th) Ds.eS,.map Ds.kS m]
abbrev ar6:=cC sPg mT
abbrev awL:=cU [Bx.eU] [bS] (λ(ws,())=>[Bx.okW ws]) (λ(ws,())=>(Bx.iM ws,()))
def anx:aR:=[(65,aen),(64,aus),(66,anw),(63,awJ),(13,awI),(31,ar6),(93,awL)]
theorem ayE(th:Th)(m:As)(fu wh:Int)(on:Bool)(ep pg:Int)(bu:Ws):run P anx.sum Tryz.f89 [] (start Tryz.f89 [.an 0 0] (hS0 th m fu wh on ep pg bu))=
 Tree.ab (bx (some [AV.an 0 0])) (.ab (bx (some (Ds.hD th m fu))) (.ab (Ds.bz th m fu) (.ab (bx (some [AV.an 0 0,.s (.int .i64 pg),.aw .u64 16 (replicate 16 0)])) (.ab (bx (some (Ds.hD th m fu))) (.ab (Ds.bz th m fu) (.ab (bx (some [AV.an 0 0])) (.ab (bx (some (hT th m fu pg (opF th (replicate 16 0)) Bx.aL Bx.aL))) (.ab (Ds.bz th m fu) (.ab ((0:Int)<=pg/\pg<=65536) (.ite (sI th m pg !=0) (.ret (hS0 th m fu wh on ep pg bu++[.ay [.aw .u64 16 (Bx.bw (Ds.fg th))] 37,fm 1 pg (opF th (replicate 16 0)) Bx.aL Bx.aL,.ay [.aw .u64 16 (dT th m pg)] 37]) (.s (.aT false))) (.ab (Bx.okW (Bx.cf BinOp.and (dT th m pg) (Bx.bw 2))) (.ite (decide (Bx.iM (Bx.cf BinOp.and (dT th m pg) (Bx.bw 2))>0)) (.ret (hS0 th m fu wh on ep pg bu++[.ay [.aw .u64 16 (Bx.bw (Ds.fg th))] 37,fm 1 pg (opF th (replicate 16 0)) Bx.aL Bx.aL,.ay [.aw .u64 16 (dT th m pg)] 37]) (.s (.aT false))) (.ab (Bx.okW (Bx.cf BinOp.andNot (dT th m pg) (Bx.bw (Ds.fg th)))) (.ite (decide (Bx.iM (Bx.cf BinOp.andNot (dT th m pg) (Bx.bw (Ds.fg th)))>0)) (.ret (hS0 th m fu wh on ep pg bu++[.ay [.aw .u64 16 (Bx.bw (Ds.fg th))] 37,fm 1 pg (opF th (replicate 16 0)) Bx.aL Bx.aL,.ay [.aw .u64 16 (dT th m pg)] 37]) (.s (.aT false))) (.ab (bx (some [AV.an 0 0,.s (.int .i64 pg),.aw .u64 16 (Bx.cf BinOp.andNot (Bx.cf BinOp.andNot (Bx.bw (Ds.fg th)) (Bx.bw 2)) (dT th m pg))])) (.ab (bx (some (Ds.hD th m fu))) (.ab (Ds.bz th m fu) (.ret [er 1 wh on ep pg (dT th m pg) (.an 7 0),Ds.jw 2 3 fu,.aq (.az Ds.cS th) Ds.eS,.map Ds.kS m,.ay [.aw .u64 16 (Bx.bw (Ds.fg th))] 37,fm 1 pg (opF th (replicate 16 0)) Bx.aL Bx.aL,.ay [.aw .u64 16 (dT th m pg)] 37,fm 1 pg (opF th (Bx.cf BinOp.andNot (Bx.cf BinOp.andNot (Bx.bw (Ds.fg th)) (Bx.bw 2)) (dT th m pg))) Bx.aL Bx.aL] (.s (.aT true)))))))))))))))))))):=by kernel_rfl
theorem ayF(th:Th)(m:As)(fu wh:Int)(on:Bool)(ep pg:Int)(bu:Ws)(aa:Int)(fr fs gn:Ws):run P anx.sum Tryz.f89 [] (start Tryz.f89 [.an 0 0] (jR th m fu wh on ep pg bu aa fr fs gn))=
 Tree.ab (bx (some [AV.an 0 0]))
 (.ab (bx (some (Ds.hD th m fu))) (.ab (Ds.bz th m fu) (.ab (bx (some [AV.an 0 0,.s (.int .i64 pg),.aw .u64 16 (replicate 16 0)])) (.ab (bx (some (Ds.hD th m fu))) (.ab (Ds.bz th m fu) (.ab (bx (some [AV.an 0 0])) (.ab (bx (some (hT th m fu pg (opF th (replicate 16 0)) Bx.aL Bx.aL))) (.ab (Ds.bz th m fu) (.ab ((0:Int)<=pg/\pg<=65536) (.ite (sI th m pg !=0) (.ret (jR th m fu wh on ep pg bu aa fr fs gn++[.ay [.aw .u64 16 (Bx.bw (Ds.fg th))] 37,fm 1 pg (opF th (replicate 16 0)) Bx.aL Bx.aL,.ay [.aw .u64 16 (dT th m pg)] 37]) (.s (.aT false))) (.ab (Bx.okW (Bx.cf BinOp.and (dT th m pg) (Bx.bw 2))) (.ite (decide (Bx.iM (Bx.cf BinOp.and (dT th m pg) (Bx.bw 2))>0)) (.ret (jR th m fu wh on ep pg bu aa fr fs gn++[.ay [.aw .u64 16 (Bx.bw (Ds.fg th))] 37,fm 1 pg (opF th (replicate 16 0)) Bx.aL Bx.aL,.ay [.aw .u64 16 (dT th m pg)] 37]) (.s (.aT false))) (.ab (Bx.okW (Bx.cf BinOp.andNot (dT th m pg) (Bx.bw (Ds.fg th)))) (.ite (decide (Bx.iM (Bx.cf BinOp.andNot (dT th m pg) (Bx.bw (Ds.fg th)))>0)) (.ret (jR th m fu wh on ep pg bu aa fr fs gn++[.ay [.aw .u64 16 (Bx.bw (Ds.fg th))] 37,fm 1 pg (opF th (replicate 16 0)) Bx.aL Bx.aL,.ay [.aw .u64 16 (dT th m pg)] 37]) (.s (.aT false))) (.ab (bx (some [AV.an 0 0,.s (.int .i64 pg),.aw .u64 16 (Bx.cf BinOp.andNot (Bx.cf BinOp.andNot (Bx.bw (Ds.fg th)) (Bx.bw 2)) (dT th m pg))])) (.ab (bx (some (Ds.hD th m fu))) (.ab (Ds.bz th m fu) (.ret [er 1 wh on ep pg (dT th m pg) (.an 8 0),Ds.jw 3 4 fu,fm 1 aa fr fs gn,.aq (.az Ds.cS th) Ds.eS,.map Ds.kS m,.ay [.aw .u64 16 (Bx.bw (Ds.fg th))] 37,fm 1 pg (opF th (replicate 16 0)) Bx.aL Bx.aL,.ay [.aw .u64 16 (dT th m pg)] 37,fm 1 pg (opF th (Bx.cf BinOp.andNot (Bx.cf BinOp.andNot (Bx.bw (Ds.fg th)) (Bx.bw 2)) (dT th m pg))) Bx.aL Bx.aL] (.s (.aT true)))))))))))))))))))):=by kernel_rfl
def mGs:List AV->RM ((Th×As×Int×Int×Bool×Int×Int)×List Nat)
 |[.an id 0,n,.agg [on,ep,pg]]=>(Ds.xb [.an id 0]).bind λ((th,m,fu),σ)=>match n.cP,on.fT,ep.cP,pg.cP with
  |some (_,_,n),some (_,on),some (_,_,ep),some (_,_,pg)=>.ret ((th,m,fu,n,on,ep,pg),σ)
  |_,_,_,_=>.fail "no number"
 |_=>.fail "no disk"
abbrev ar7:=cC Ds.sGs mGs
abbrev ar8:=cC Ds.sFl Ds.xb
abbrev awM:=cC Ds.sGo Ds.mRd
def anz:aR:=[(65,aen),(90,ar7),(49,ar8)]
def aqD:List (Nat×Norm):=[(fK+6,⟨[],[],3,[]⟩),(aaX+8003,⟨[],[0,15,16,17,22,23,24],3,[]⟩)]
abbrev cMk:List CK:=[.bool,.int .i64,.int .i64]
abbrev mkO(x:CL cMk):Bool:=x.1
abbrev mkE(x:CL cMk):Int:=x.2.1
abbrev mkP(x:CL cMk):Int:=x.2.2.1
noncomputable def cFo(th:Th)(m:As)(fu i k:Int)(on:Bool)(ep pg:Int)(l:List (CL cMk)):cn:=⟨sl 32 [(0,.an 0 0),(15,.aq 3),(16,bQ 2),(17,bQ i),(22,.an 0 0),(23,bQ k),(24,.agg [.s (.bool on),bQ ep,bQ pg])],Ds.hD th m fu++[.aq (.az cMk l) 153],uR Tryz.f38 8 3,⟨none,false,0,[],8⟩⟩
theorem awN(th:Th)(m:As)(fu:Int):run P anz.sum Tryz.f38 aqD (start Tryz.f38 [.an 0 0] (Ds.hD th m fu))=
 Tree.ab (bx (some [AV.an 0 0])) (.ab (bx (some (Ds.hD th m fu))) (.ab (Ds.bz th m fu) (.ite (decide (Ds.fg th<3)) (.ret (Ds.hD th m fu) (.s (.aZ .i64 1))) (.ite true (.ab ((0:Int)<=0) (.ab ((0:Int)<(↑(2:Nat):Int)) (.at (cFo th m fu 0 0 true 1 0 [(true,(1:Int),(0:Int),()),(false,(0:Int),(0:Int),())])))) (.ab (bx (some [AV.an 0 0])) (.ab (bx (some (Ds.hD th m fu))) (.ab (Ds.bz th m fu) (.ret (Ds.hD (Ds.lJ th m fu) (Ds.nF m fu) (Ds.dL fu)++[.aq (.az cMk [(true,(1:Int),(0:Int),()),(false,(0:Int),(0:Int),())]) 153]) (.s (.int .i64 (Ds.yB fu))))))))))):=by kernel_rfl
theorem awO(th:Th)(m:As)(fu i k:Int)(on:Bool)(ep pg:Int)(l:List (CL cMk)):run P anz.sum Tryz.f38 aqD (cFo th m fu i k on ep pg l)=
 Tree.ab (bx (some [AV.an 0 0,.s (.int .i64 k),.agg [.s (.bool on),.s (.int .i64 ep),.s (.int .i64 pg)]])) (.ab (bx (some (Ds.hD th m fu))) (.ab (Ds.bz th m fu) (.ab (aG k) (.ite (Ds.yD th fu k on ep pg !=0) (.ret (Ds.hD th (Ds.kz th m fu k on ep pg) (Ds.pv th fu k on ep pg)++[.aq (.az cMk l) 153]) (.s (.int .i64 (Ds.yD th fu k on ep pg)))) (.ab (aG (i+1)) (.ite (decide (i+1<2)) (.ab ((0:Int)<=i+1) (.ab (i+1<(↑l.length:Int)) (.at (.mk (sl 32 [(0,.an 0 0),(15,.aq 3),(16,.s (.int .i64 2)),(17,.s (.int .i64 (i+1))),(22,.an 0 0),(23,.s (.int .i64 (i+1))),(24,.agg [.s (.bool (mkO (el l (i+1)))),.s (.int .i64 (mkE (el l (i+1)))),.s (.int .i64 (mkP (el l (i+1))))])]) (Ds.hD th (Ds.kz th m fu k on ep pg) (Ds.pv th fu k on ep pg)++[.aq (.az cMk l) 153]) (uR Tryz.f38 8 3) (.mk none false 0 [] 8))))) (.ab (bx (some [AV.an 0 0])) (.ab (bx (some (Ds.hD th (Ds.kz th m fu k on ep pg) (Ds.pv th fu k on ep pg)))) (.ab (Ds.bz th (Ds.kz th m fu k on ep pg) (Ds.pv th fu k on ep pg)) (.ret (Ds.hD (Ds.lJ th (Ds.kz th m fu k on ep pg) (Ds.pv th fu k on ep pg)) (Ds.nF (Ds.kz th m fu k on ep pg) (Ds.pv th fu k on ep pg)) (Ds.dL (Ds.pv th fu k on ep pg))++[.aq (.az cMk l) 153]) (.s (.int .i64 (Ds.yB (Ds.pv th fu k on ep pg)))))))))))))):=by kernel_rfl
def sS(th:Th)(s:S5)(l:Bool)(es:List En)(bs:List Br):S5:=
 ⟨(bO th s.m s.fu s.fr s.fs l es bs).1,(bO th s.m s.fu s.fr s.fs l es bs).2.1,(bO th s.m s.fu s.fr s.fs l es bs).2.2.1,(bO th s.m s.fu s.fr s.fs l es bs).2.2.2.1,s.gn⟩
def sL(th:Th)(s:S5)(l:Bool)(es:List En)(bs:List Br):List Br:=(bO th s.m s.fu s.fr s.fs l es bs).2.2.2.2.1
def sE(th:Th)(s:S5)(l:Bool)(es:List En)(bs:List Br):Int:=(bO th s.m s.fu s.fr s.fs l es bs).2.2.2.2.2
def Bad(th:Th)(s t:S5)(k:Nat)(e:Int):Prop:=∃N,sn th s t N []/\N.length<=k/\((e=41/\∀p,In s.fr p->p∈N)\/(e=42/\t.fu=0))
theorem oV(bs:List Br):af (af bs)=af bs:=by cases bs<;>rfl
theorem agf{bs:List Br}{k:Nat}(h:af bs=bs):af (bs.take k)=bs.take k:=by
 cases bs with
 |nil=>simp[af]
 |cons b r=>
  cases k with
  |zero=>rfl
  |succ k=>
   simp only[af,List.cons.injEq]at h;simp[af,h.1]
theorem abU{th:Th}{s:S5}{l:Bool}{es:List En}{bs:List Br}(ho:zC th s)(hm:dM l es (af bs)=true)(hz:bI es (af bs)<=254):
 (wE th s l es bs=0/\∃n,sn th s (wS th s l es bs) [n] []/\wB th s l es bs=(dD l es bs,n,())/\Rd th (wS th s l es bs).m n l es (af bs))\/(wE th s l es bs≠0/\Bad th s (wS th s l es bs) 0 (wE th s l es bs)):=by
 rcases auh ho hm hz with h|⟨h1,h2,h3⟩|⟨h1,h2,h3⟩;exact .inl h;exact .inr ⟨by rw[h1];decide,[],by rw[h2];exact iQ ho,le_refl _,.inl ⟨h1,λp hp=>absurd hp (h3 p)⟩⟩;exact .inr ⟨by rw[h1];decide,[],h2,le_refl _,.inr ⟨h1,h3⟩⟩
theorem ah6{th:Th}{s:S5}{l:Bool}{es:List En}{bs:List Br}(ho:zC th s)(h:es.length+bs.length=0):sE th s l es bs=0/\sL th s l es bs=[]/\sn th s (sS th s l es bs) [] []:=by
 have e:bO th s.m s.fu s.fr s.fs l es bs=(s.m,s.fu,s.fr,s.fs,[],0):=by unfold bO;rw[if_pos h]
 refine⟨by unfold sE;rw[e],by unfold sL;rw[e], ?_⟩;have:sS th s l es bs=s:=by unfold sS;rw[e]
 rw[this];exact iQ ho
theorem anA{th:Th}{s:S5}{l:Bool}{es:List En}{bs:List Br}(ho:zC th s)(h:0<es.length+bs.length)(hm:dM l es (af bs)=true)(hz:bI es (af bs)<=254):
 (sE th s l es bs=0/\∃n,sn th s (sS th s l es bs) [n] []/\sL th s l es bs=[(dD l es (af bs),n,())]/\Rd th (sS th s l es bs).m n l es (af bs))\/(sE th s l es bs≠0/\Bad th s (sS th s l es bs) 1 (sE th s l es bs)):=by
 have e1:sE th s l es bs=wE th s l es (af bs):=by unfold sE wE bO;rw[if_neg (by omega),if_pos hz]
 have e2:sS th s l es bs=wS th s l es (af bs):=by unfold sS wS bO;rw[if_neg (by omega),if_pos hz]
 have e3:sL th s l es bs=[wB th s l es (af bs)]:=by unfold sL wB bO;rw[if_neg (by omega),if_pos hz]
 rw[e1,e2,e3];have:=abU (bs:=af bs) ho (by rw[oV];exact hm) (by rw[oV];exact hz);rw[oV]at this;rcases this with⟨a,n,b,c,d⟩|⟨a,N,b,c,d⟩;exact .inl ⟨a,n,b,by rw[c],d⟩;exact .inr ⟨a,N,b,Nat.le_succ_of_le c,d⟩
theorem anB{th:Th}{s:S5}{l:Bool}{es:List En}{bs:List Br}(ho:zC th s)(h:0<es.length+bs.length)(hz:¬bI es (af bs)<=254)(ok:eb l es (af bs)=true)
 (z1:bI (bE l es (af bs)) (af (bH l es (af bs)))<=254) (z2:bI (dw l es (af bs)) (af (dH l es (af bs)))<=254)
 (m1:dM (cz l es (af bs)) (bE l es (af bs)) (af (bH l es (af bs)))=true) (m2:dM (cz l es (af bs)) (dw l es (af bs)) (af (dH l es (af bs)))=true):
 (sE th s l es bs=0/\∃a b,sn th s (sS th s l es bs) [a,b] []/\sL th s l es bs=[(dD (cz l es (af bs)) (bE l es (af bs)) (bH l es (af bs)),a,()),(dD (cz l es (af bs)) (dw l es (af bs)) (dH l es (af bs)),b,())]/\
   Rd th (sS th s l es bs).m a (cz l es (af bs)) (bE l es (af bs)) (af (bH l es (af bs)))/\Rd th (sS th s l es bs).m b (cz l es (af bs)) (dw l es (af bs)) (af (dH l es (af bs))))\/(sE th s l es bs≠0/\Bad th s (sS th s l es bs) 1 (sE th s l es bs)):=by
 have hsp:¬spC l es (af bs)≠0:=by unfold spC;rw[if_pos ok];simp
 have ed:bO th s.m s.fu s.fr s.fs l es bs=if wE th s (cz l es (af bs)) (bE l es (af bs)) (bH l es (af bs))≠0 then
  ((wS th s (cz l es (af bs)) (bE l es (af bs)) (bH l es (af bs))).m,(wS th s (cz l es (af bs)) (bE l es (af bs)) (bH l es (af bs))).fu,(wS th s (cz l es (af bs)) (bE l es (af bs)) (bH l es (af bs))).fr,(wS th s (cz l es (af bs)) (bE l es (af bs)) (bH l es (af bs))).fs,[],wE th s (cz l es (af bs)) (bE l es (af bs)) (bH l es (af bs)))
  else((wS th (wS th s (cz l es (af bs)) (bE l es (af bs)) (bH l es (af bs))) (cz l es (af bs)) (dw l es (af bs)) (dH l es (af bs))).m,(wS th (wS th s (cz l es (af bs)) (bE l es (af bs)) (bH l es (af bs))) (cz l es (af bs)) (dw l es (af bs)) (dH l es (af bs))).fu,
   (wS th (wS th s (cz l es (af bs)) (bE l es (af bs)) (bH l es (af bs))) (cz l es (af bs)) (dw l es (af bs)) (dH l es (af bs))).fr,(wS th (wS th s (cz l es (af bs)) (bE l es (af bs)) (bH l es (af bs))) (cz l es (af bs)) (dw l es (af bs)) (dH l es (af bs))).fs,
   [wB th s (cz l es (af bs)) (bE l es (af bs)) (bH l es (af bs)),wB th (wS th s (cz l es (af bs)) (bE l es (af bs)) (bH l es (af bs))) (cz l es (af bs)) (dw l es (af bs)) (dH l es (af bs))],wE th (wS th s (cz l es (af bs)) (bE l es (af bs)) (bH l es (af bs))) (cz l es (af bs)) (dw l es (af bs)) (dH l es (af bs))):=by
  unfold bO;rw[if_neg (by omega),if_neg hz,if_neg hsp];rfl
 generalize cz l es (af bs)=L at *;generalize bE l es (af bs)=E1 at *;generalize dw l es (af bs)=E2 at *;generalize bH l es (af bs)=B1 at *;generalize dH l es (af bs)=B2 at *;rcases abU ho m1 z1 with⟨a,n,b,c,d⟩|⟨a,N,b,c,d⟩;rw[if_neg (by rw[a];simp)]at ed;have ho2:=b.ok;have e2:sS th s l es bs=wS th (wS th s L E1 B1) L E2 B2:=by unfold sS;rw[ed];rfl
 have e3:sL th s l es bs=[wB th s L E1 B1,wB th (wS th s L E1 B1) L E2 B2]:=by unfold sL;rw[ed]
 have e4:sE th s l es bs=wE th (wS th s L E1 B1) L E2 B2:=by unfold sE;rw[ed]
 rw[e2,e3,e4];rcases abU ho2 m2 z2 with⟨a2,n2,b2,c2,d2⟩|⟨a2,N2,b2,c2,d2⟩;refine .inl ⟨a2,n,n2,fL b b2 (λp hp=>by cases hp),by rw[c,c2], ?_,d2⟩;exact Rd.same d (b2.rd n (λhh=>((b.fr n).1 hh).2 mem_cons_self));refine .inr ⟨a2,[n]++N2,fL b b2 (λp hp=>by cases hp),by rw[length_append,List.length_singleton];omega,d2.imp (λh=>⟨h.1,λp hp=> ?_⟩) id⟩;by_cases hpn:p∈[n];exact List.mem_append_left _ hpn;exact mem_append_right _ (h.2 p ((b.fr p).2 ⟨hp,hpn⟩));rw[if_pos a]at ed;have e2:sS th s l es bs=wS th s L E1 B1:=by unfold sS;rw[ed];rfl
 have e4:sE th s l es bs=wE th s L E1 B1:=by unfold sE;rw[ed]
 rw[e2,e4];exact .inr ⟨a,N,b,Nat.le_succ_of_le c,d⟩
structure For (th:Th) (m:As) (h:Nat) (F:List (Kd h)):Prop where
 bare:cI F=F
 rep:∀k∈F,rep th m h k.2
 ok:∀k∈F,pJ h k.2
 sep:adT h F
 ad:∀k∈F,k.1.size<=24
 pg:∀k∈F,2<=pg h k.2/\pg h k.2<1024
theorem ah7{th:Th}{m:As}{h:Nat}:For th m h []:=⟨rfl,λk hk=>(by cases hk),λk hk=>(by cases hk),⟨List.Pairwise.nil,λk hk=>(by cases hk)⟩,λk hk=>(by cases hk),λk hk=>(by cases hk)⟩
theorem ah8{th:Th}{m:As}{h:Nat}{t:TN h}(h1:rep th m h t)(h2:pJ h t)(h3:2<=pg h t/\pg h t<1024):For th m h [(empty,t)]:=
 ⟨rfl,λk hk=>by rw[mem_singleton.1 hk];exact h1,λk hk=>by rw[mem_singleton.1 hk];exact h2,⟨List.pairwise_singleton _ _,λk hk e _=>by rw[mem_singleton.1 hk];exact ij _⟩,
   λk hk=>by rw[mem_singleton.1 hk];exact zero_le _,λk hk=>by rw[mem_singleton.1 hk];exact h3⟩
theorem ah9{th:Th}{m:As}{h:Nat}{t u:TN h}{s:ByteArray}(h1:rep th m h t)(h2:pJ h t)(h3:2<=pg h t/\pg h t<1024)(g1:rep th m h u)(g2:pJ h u)(g3:2<=pg h u/\pg h u<1024)
 (hs:s.size<=24) (a:∀e∈eV h t,slt e.1 s=true) (b:∀e∈eV h u,slt e.1 s=false):For th m h [(empty,t),(s,u)]:=by
 have two:∀{p:Kd h->Prop},p (empty,t)->p (s,u)->∀k∈[((empty,t):Kd h),(s,u)],p k:=λhp hq k hk=>by
  rcases mem_cons.1 hk with rfl|hk;exact hp;rw[mem_singleton.1 hk];exact hq
 refine⟨rfl,two h1 g1,two h2 g2,⟨?_,two (p:=λk=>∀e∈eV h k.2,slt e.1 k.1=false) (λe _=>ij _) b⟩,two (zero_le _) hs,two h3 g3⟩;rw[pairwise_cons];exact⟨λk hk e he=>by rw[mem_singleton.1 hk];exact a e he,List.pairwise_singleton _ _⟩
theorem For.same{th:Th}{s t:S5}{N V:List Int}(e:sn th s t N V){h:Nat}{F:List (Kd h)}(f:For th s.m h F)(hp:∀p∈cD h F,¬In s.fr p):For th t.m h F:=
 ⟨f.bare,λk hk=>e.rep h (f.rep k hk) λp kD=>hp p (mem_flatMap.2 ⟨k,hk,kD⟩),f.ok,f.sep,f.ad,f.pg⟩
theorem tY{th:Th}{s:S5}(ho:zC th s){n:Int}(h:In s.fr n):2<=n/\n<1024:=⟨(ho.pg n h).1,(mN ho.fr h).2⟩
theorem aqE{th:Th}{s:S5}{es:List En}(ho:zC th s)(kv:kB es=true)(hsp:¬bI es []<=254->eb true es []=true/\bI (bE true es []) []<=254/\bI (dw true es []) []<=254/\
 ∃k,0<k/\k<es.length/\bE true es []=es.take k/\dw true es []=es.drop k/\bH true es []=[]/\dH true es []=[]/\cz true es []=true):
 (sE th s true es []=0/\∃(N:List Int) (k0:ByteArray) (F:List (Kd 0)),sn th s (sS th s true es []) N []/\N.length<=2/\sL th s true es []=l7 k0 (F.map (du 0))/\For th (sS th s true es []).m 0 F/\cw 0 F=es/\cD 0 F=N/\F.length<=2/\(bI es []<=254->F.length<=1))\/
 (sE th s true es []≠0/\Bad th s (sS th s true es []) 1 (sE th s true es [])):=by
 have hm:=awo kv;by_cases h0:es.length=0;have⟨a,b,c⟩:=ah6 (l:=true) (es:=es) (bs:=[]) ho (by rw[h0];rfl);obtain rfl:es=[]:=List.eq_nil_of_length_eq_zero h0;exact .inl ⟨a,[],empty,[],c,zero_le _,b,ah7,rfl,rfl,zero_le _,λ_=>zero_le _⟩;by_cases hz:bI es []<=254;rcases anA (l:=true) (es:=es) (bs:=[]) ho (by simp only[length_nil];omega) hm hz with⟨a,n,b,c,d⟩|h;refine .inl ⟨a,[n],dD true es [],[(empty,(n,es))],b,by simp,c,ah8 d ⟨λe=>h0 (by show es.length=0;rw[show es=[]from e];rfl),kv,hz⟩ (tY ho (b.sub n mem_cons_self)), ?_,rfl,by simp,λ_=>by simp⟩;show es++[]=es;rw[append_nil];exact .inr h;have⟨ok,z1,z2,k,k0,k1,e1,e2,e3,e4,e5⟩:=hsp hz;have bn:af ([]:List Br)=[]:=rfl;have hmt:=adP hm k;have hmd:=adQ hm k;rw[List.take_nil]at hmt;rw[List.drop_nil]at hmd;have ad:=anB (l:=true) (es:=es) (bs:=[]) ho (by simp only[length_nil];omega) hz ok (by rw[bn,e3];exact z1) (by rw[bn,e4];exact z2) (by rw[bn,e3,e1,e5];exact hmt) (by rw[bn,e4,e2,e5];exact hmd);rw[bn,e1,e2,e3,e4,e5]at ad;rw[e1]at z1;rw[e2]at z2;rcases ad with⟨a,n,n2,b,c,d1,d2⟩|h;have⟨m1,m2⟩:=xO.1 kv;have ayG:es.drop k≠[]:=λe=>by have:=congrArg List.length e;rw[length_drop,length_nil]at this;omega
 have auu:es.take k≠[]:=λe=>by have:=congrArg List.length e;rw[length_take,length_nil]at this;omega
 have hk:dD true (es.drop k) []=(es.getD k dE).1:=by
  unfold dD;rw[if_pos rfl,lu,add_zero]
 have hki:es.getD k dE=es[k]:=bt k1
 have low:∀i,i<k->slt (es.getD i dE).1 (es.getD k dE).1=true:=λi hi=>by
  have:=m2 i k hi (by simpa using k1);rw[dq es qB dE i,dq es qB dE k]at this;exact this
 have high:∀i,k<=i->i<es.length->slt (es.getD i dE).1 (es.getD k dE).1=false:=λi hi hl=>by
  by_cases e:i=k;rw[e];exact eI _;have:=m2 k i (by omega) (by simpa using hl);rw[dq es qB dE i,dq es qB dE k]at this;exact tw this
 refine .inl ⟨a,[n,n2],dD true (es.take k) [],[(empty,(n,es.take k)),(dD true (es.drop k) [],(n2,es.drop k))],b,by simp,c, ?_, ?_,rfl,by simp,λh=>absurd h hz⟩;refine ah9 (h:=0) d1 ⟨auu,z6 kv k,z1⟩ (tY ho (b.sub n mem_cons_self)) d2 ⟨ayG,z8 kv k,z2⟩ (tY ho (b.sub n2 (mem_cons_of_mem _ mem_cons_self))) ?_ (λe he=> ?_) (λe he=> ?_);rw[hk,hki];exact(m1 _ (getElem_mem k1)).2.1;obtain⟨i,hi,rfl⟩:=List.getElem_of_mem (show e∈es.take k from he);rw[length_take]at hi;rw[hk,List.getElem_take];have:=low i (by omega);rw[bt (by omega)]at this;exact this;obtain⟨i,hi,rfl⟩:=List.getElem_of_mem (show e∈es.drop k from he);rw[length_drop]at hi;rw[hk,List.getElem_drop];have:=high (k+i) (by omega) (by omega);rw[bt (by omega)]at this;exact this;show es.take k++(es.drop k++[])=es;rw[append_nil,List.take_append_drop];exact .inr h
theorem aia{th:Th}{s:S5}{h:Nat}{Q:List (Kd h)}{bs:List Br}(ho:zC th s)(hb:af bs=Q.map (du h))(hQ:Q≠[])(f:For th s.m h Q)(hp:∀p∈cD h Q,¬In s.fr p)(kv:iq (Q.map (du h))=true)(cq:nH h Q<=281):
 (sE th s false [] bs=0/\∃(N:List Int) (k0:ByteArray) (F:List (Kd (h+1))),sn th s (sS th s false [] bs) N []/\N.length<=2/\sL th s false [] bs=l7 k0 (F.map (du (h+1)))/\For th (sS th s false [] bs).m (h+1) F/\cw (h+1) F=cw h Q/\
   (cD (h+1) F).Perm (N++cD h Q)/\((nH h Q<=254/\F.length=1/\fN (h+1) F=3^(h+1)*(19+ovr (nH h Q))+fN h Q)\/(254<nH h Q/\F.length=2/\fN (h+1) F=3^(h+1)*38+fN h Q)))\/
 (sE th s false [] bs≠0/\Bad th s (sS th s false [] bs) 1 (sE th s false [] bs)):=by
 have hl:0<bs.length:=by
  have e:(af bs).length=bs.length:=aac bs;rw[hb,length_map]at e;have:=List.length_pos_iff.2 hQ;omega
 have hm:=apV kv;have hs0:nH h Q=bI [] (Q.map (du h)):=rfl;have stay:∀{t:S5} {N:List Int},sn th s t N []->∀k∈Q,rep th t.m h k.2:=λe k hk=>e.rep h (f.rep k hk) λp kD=>hp p (mem_flatMap.2 ⟨k,hk,kD⟩);by_cases hz:nH h Q<=254;rcases anA (l:=false) (es:=[]) (bs:=bs) ho (by simp only[length_nil];omega) (by rw[hb];exact hm) (by rw[hb];exact hz)with⟨a,n,b,c,d⟩|h;rw[hb]at c d;refine .inl ⟨a,[n],dD false [] (Q.map (du h)),[(empty,(n,Q))],b,by simp,c,ah8 (h:=h+1) ⟨d,stay b⟩ ⟨hQ,f.bare,kv,hz,f.sep,f.ok⟩ (tY ho (b.sub n mem_cons_self)), ?_, ?_,.inl ⟨hz,rfl, ?_⟩⟩;show cw h Q++[]=_;rw[append_nil];show(n::cD h Q++[]).Perm (n::cD h Q);rw[append_nil];rw[jr];rfl;exact .inr h;have⟨ok,z1,z2,k,k0,k1,e1,e2,e3,e4,e5⟩:=am1 kv (by rw[<-hs0];omega) (by rw[<-hs0];exact cq);have hbt:af ((Q.map (du h)).take k)=(Q.map (du h)).take k:=agf (by rw[kP,f.bare]);have anC:=z7 kv k;have anD:=aai (aaa kv k)
 have zd:bI [] (af ((Q.map (du h)).drop k))<=154:=by
  have s1:=so (af ((Q.map (du h)).drop k));have s2:=so ((Q.map (du h)).drop k);have s3:=tT ((Q.map (du h)).drop k);rw[e2]at z2;omega
 have ad:=anB (l:=false) (es:=[]) (bs:=bs) ho (by simp only[length_nil];omega) (by rw[hb];exact hz) (by rw[hb];exact ok);rw[hb,e1,e2,e3,e4,e5,hbt]at ad;rw[e1]at z1;have ad:=ad (by omega) (by omega) (apV anC) (apV anD);rcases ad with⟨a,n,n2,b,c,d1,d2⟩|h;have eT:(Q.map (du h)).take k=(Q.take k).map (du h):=by rw[List.map_take]
 have eD:af ((Q.map (du h)).drop k)=(cI (Q.drop k)).map (du h):=by rw[<-List.map_drop,kP]
 rw[length_map]at k1;have eQ:Q=Q.take k++Q.drop k:=(List.take_append_drop k Q).symm;obtain⟨q,r,eqd⟩:∃q r,Q.drop k=q::r:=List.exists_cons_of_ne_nil (λe=>by have:=congrArg List.length e;rw[length_drop,length_nil]at this;omega);have auu:Q.take k≠[]:=λe=>by have:=congrArg List.length e;rw[length_take,length_nil]at this;omega
 have hqm:q∈Q:=by rw[eQ,eqd];exact mem_append_right _ mem_cons_self
 have hk:dD false [] ((Q.map (du h)).drop k)=q.1:=by
  unfold dD;rw[if_neg (by simp),<-List.map_drop,eqd];rfl
 have sp:=f.sep;have sp1:=sp.1;rw[eQ,List.pairwise_append]at sp1;have up:=(gP.1 kv).2;rw[eQ,map_append,List.pairwise_append]at up;have mT:∀x∈Q.take k,x∈Q:=λx hx=>List.mem_of_mem_take hx;have mD:∀x∈Q.drop k,x∈Q:=λx hx=>List.mem_of_mem_drop hx
 have okA:pJ (h+1) (n,Q.take k):=by
  refine⟨auu, ?_,by rw[<-eT];exact anC,by rw[nH,<-eT];omega,⟨sp1.1,λx hx=>sp.2 x (mT x hx)⟩,λx hx=>f.ok x (mT x hx)⟩;show cI (Q.take k)=Q.take k;have:=f.bare;cases Q with
  |nil=>exact absurd rfl hQ
  |cons x y=>
   cases k with
   |zero=>omega
   |succ k=>simp only[cI,List.cons.injEq]at this;simp[cI,this.1]
 have okB:pJ (h+1) (n2,cI (Q.drop k)):=by
  refine⟨by rw[eqd];exact List.cons_ne_nil _ _,xL _,by rw[<-eD];exact anD,by rw[nH,<-eD];omega,⟨?_,λx hx e he=> ?_⟩,λx hx=> ?_⟩;have p2:=sp1.2.1;rw[eqd]at p2 ⊢;rw[pairwise_cons]at p2;rw[cI,pairwise_cons];exact p2;have⟨x',zg,e2,e3⟩:=im hx;rcases e3 with e3|e3;rw[e3];exact ij _;subst e3;exact sp.2 x (mD x zg) e he;have⟨x',zg,e2,_⟩:=im hx;rw[<-e2];exact f.ok x' (mD x' zg)
 have ayH:rep th (sS th s false [] bs).m (h+1) (n,Q.take k):=⟨by rw[<-eT];exact d1,λx hx=>stay b x (mT x hx)⟩
 have ayI:rep th (sS th s false [] bs).m (h+1) (n2,cI (Q.drop k)):=⟨by rw[<-eD];exact d2,λx hx=>by
  have⟨x',zg,e2,_⟩:=im hx;rw[<-e2];exact stay b x' (mD x' zg)⟩
 refine .inl ⟨a,[n,n2],_,[(empty,(n,Q.take k)),(q.1,(n2,cI (Q.drop k)))],b,by simp,by rw[c,hk];rfl,ah9 ayH okA (tY ho (b.sub n mem_cons_self)) ayI okB (tY ho (b.sub n2 (mem_cons_of_mem _ mem_cons_self))) (f.ad q hqm) (λe he=> ?_) (λe he=> ?_), ?_, ?_,.inr ⟨by omega,rfl, ?_⟩⟩;have he:e∈cw h (Q.take k):=he;have⟨x,hx,hxe⟩:=mem_flatMap.1 he;exact sp1.2.2 x hx q (by rw[eqd];exact mem_cons_self) e hxe;have he:e∈cw h (cI (Q.drop k)):=he;rw[qL]at he;have⟨x,hx,hxe⟩:=mem_flatMap.1 he;have h1:=sp.2 x (mD x hx) e hxe;rw[eqd]at hx;rcases mem_cons.1 hx with rfl|hx;exact h1;have u:=up.2.1;rw[eqd,map_cons,pairwise_cons]at u;have u:=u.1 (du h x) (List.mem_map_of_mem hx);cases hh:slt e.1 q.1;rfl;have h2:slt e.1 x.1=true:=dc hh u;rw[h2]at h1;cases h1;show cw h (Q.take k)++(cw h (cI (Q.drop k))++[])=_;rw[append_nil,qL,<-kN,<-eQ];show(n::cD h (Q.take k)++(n2::cD h (cI (Q.drop k))++[])).Perm (n::n2::cD h Q);rw[append_nil,aag];have e:cD h Q=cD h (Q.take k)++cD h (Q.drop k):=by rw[<-sj,<-eQ]
 rw[e];refine List.Perm.cons n ?_;exact List.perm_middle;rw[jr,jr];show 3^(h+1)*(19+ovr (nH h (Q.take k)))+fN h (Q.take k)+(3^(h+1)*(19+ovr (nH h (cI (Q.drop k))))+fN h (cI (Q.drop k))+0)=_;have o1:ovr (nH h (Q.take k))=0:=by unfold ovr;rw[nH,<-eT];omega
 have o2:ovr (nH h (cI (Q.drop k)))=0:=by unfold ovr;rw[nH,<-eD];omega
 have e:fN h Q=fN h (Q.take k)+fN h (Q.drop k):=by rw[<-sk,<-eQ]
 rw[o1,o2,aah,e];omega;exact .inr h
def lC(ad:ByteArray):Option ByteArray->List En->List En
 |some v,l=>bX l ad v
 |none,l=>cN l ad
theorem vD{x:En}{r:List En}{ad v:ByteArray}(h:slt x.1 ad=true):bX (x::r) ad v=x::bX r ad v:=by
 unfold bX;rw[abB h,ahG h];split<;>simp
theorem vE{x:En}{r:List En}{ad v:ByteArray}(h:slt x.1 ad=false):bX (x::r) ad v=(ad,v,())::(if x.1=ad then r else x::r):=by
 unfold bX;rw[afW h,amk h];by_cases e:x.1=ad;rw[decide_eq_true e,if_pos rfl,if_pos e];rfl;rw[decide_eq_false e,if_neg (by simp),if_neg e];rfl
theorem anE{ad v:ByteArray}:bX [] ad v=[(ad,v,())]:=rfl
theorem ajY{X W:List En}{ad v:ByteArray}(h:∀x∈X,slt x.1 ad=true):bX (X++W) ad v=X++bX W ad v:=by
 induction X with
 |nil=>rfl
 |cons x r ih=>rw[cons_append,vD (h x mem_cons_self),ih λy hy=>h y (mem_cons_of_mem _ hy)];rfl
theorem agh{Y Z:List En}{ad v:ByteArray}(h:∀z∈Z,slt ad z.1=true):bX (Y++Z) ad v=bX Y ad v++Z:=by
 induction Y with
 |nil=>
  rw[nil_append,anE];cases Z with
  |nil=>rfl
  |cons z r=>
   have hz:=h z mem_cons_self;rw[vE (tw hz),if_neg (λe=>aln hz e.symm)];rfl
 |cons y r ih=>
  cases hy:slt y.1 ad;rw[cons_append,vE hy,vE hy];by_cases e:y.1=ad;rw[if_pos e,if_pos e];rfl;rw[if_neg e,if_neg e];rfl;rw[cons_append,vD hy,vD hy,ih];rfl
theorem aao{X:List En}{ad:ByteArray}(h:∀x∈X,x.1≠ad):cN X ad=X:=by
 unfold cN;rw[List.filter_eq_self];intro x hx;simp only[yJ,decide_eq_false (h x hx),Bool.not_false]
theorem aib{X Y Z:List En}{ad:ByteArray}{op:Option ByteArray}(h1:∀x∈X,slt x.1 ad=true)(h2:∀z∈Z,slt ad z.1=true):lC ad op (X++Y++Z)=X++lC ad op Y++Z:=by
 cases op with
 |some v=>
  show bX (X++Y++Z) ad v=X++bX Y ad v++Z;rw[agh h2,ajY h1]
 |none=>
  have e1:=aao (X:=X) (ad:=ad) λx hx e=>by have:=h1 x hx;rw[e,eI]at this;cases this
  have e2:=aao (X:=Z) (ad:=ad) λx hx e=>by have:=h2 x hx;rw[e,eI]at this;cases this
  show cN (X++Y++Z) ad=X++cN Y ad++Z;unfold cN at e1 e2 ⊢;rw[List.filter_append,List.filter_append,e1,e2]
theorem anF{X Y Z:List En}{ad:ByteArray}(h1:∀x∈X,slt x.1 ad=true)(h2:∀z∈Z,slt ad z.1=true):iV (X++Y++Z) ad=iV Y ad:=by
 have e:=aib (op:=none) h1 h2 (Y:=Y);have e:cN (X++Y++Z) ad=X++cN Y ad++Z:=e;unfold iV;rw[e];simp only[length_append];by_cases c:(cN Y ad).length<Y.length;rw[decide_eq_true (by omega),decide_eq_true (by omega)];rw[decide_eq_false (by omega),decide_eq_false (by omega)]
theorem aic{X Y Z:List En}{ad:ByteArray}{op:Option ByteArray}(h1:∀x∈X,slt x.1 ad=true)(h2:∀z∈Z,slt ad z.1=true):sH ad op (X++Y++Z)=sH ad op Y:=by
 cases op with
 |some v=>rfl
 |none=>
  show(if iV (X++Y++Z) ad=true then(0:Int)else 5)=if iV Y ad=true then 0 else 5
  rw[anF h1 h2]
theorem aid(ad:ByteArray)(op:Option ByteArray)(l:List En):sH ad op l=0\/sH ad op l=5:=by
 cases op with
 |some v=>exact .inl rfl
 |none=>
  show(if iV l ad=true then(0:Int)else 5)=0\/(if iV l ad=true then(0:Int)else 5)=5;split;exact .inl rfl;exact .inr rfl
theorem anG{ad:ByteArray}{op:Option ByteArray}{l:List En}(h:sH ad op l=0):doE ad op l=lC ad op l:=by
 cases op with
 |some v=>rfl
 |none=>
  have h:(if iV l ad=true then(0:Int)else 5)=0:=h;show(if iV l ad=true then cN l ad else [])=cN l ad;split at h;rename_i hb;rw[if_pos hb];cases h
theorem abV{ad:ByteArray}{op:Option ByteArray}{l:List En}{e:En}(h:e∈lC ad op l):e∈l\/(e.1=ad/\∃v,op=some v/\e.2.1=v):=by
 cases op with
 |some v=>
  have h:e∈bX l ad v:=h;unfold bX at h;rcases mem_append.1 h with h|h;exact .inl (List.mem_of_mem_take h);rcases mem_cons.1 h with rfl|h;exact .inr ⟨rfl,v,rfl,rfl⟩;exact .inl (List.mem_of_mem_drop h)
 |none=>exact .inl (List.mem_filter.1 (show e∈cN l ad from h)).1
theorem aqF{ad:ByteArray}{op:Option ByteArray}{l:List En}(hk:1<=ad.size/\ad.size<=24)(hv:∀v,op=some v->v.size<=100)(h:kB l=true):kB (lC ad op l)=true:=by
 rw[xO]at h ⊢;refine⟨λe he=> ?_, ?_⟩;rcases abV he with h1|⟨h1,v,h2,h3⟩;exact h.1 e h1;rw[h1,h3];exact⟨hk.1,hk.2,hv v h2⟩;cases op with
 |some v=>exact apl ad v h.2
 |none=>exact apm ad h.2
theorem x9{es:List En}{ad:ByteArray}:bI (cN es ad) []<=bI es []:=by
 rw[xP,xP];unfold cN
 induction es with
 |nil=>simp
 |cons x r ih=>
  rw[List.filter_cons];have:=am0 x;split;rw[map_cons,sum_cons,map_cons,sum_cons];omega;rw[map_cons,sum_cons];omega
def cS(th:Th)(ad:ByteArray)(op:Option ByteArray)(f:Nat)(s:S5)(n ae:Int):S5:=
 ⟨qH th ad op f s.m s.fu s.fr s.fs s.gn n ae,qI th ad op f s.m s.fu s.fr s.fs s.gn n ae,qJ th ad op f s.m s.fu s.fr s.fs s.gn n ae,sg th ad op f s.m s.fu s.fr s.fs s.gn n ae,tP th ad op f s.m s.fu s.fr s.fs s.gn n ae⟩
def cL(th:Th)(ad:ByteArray)(op:Option ByteArray)(f:Nat)(s:S5)(n ae:Int):List Br:=uW th ad op f s.m s.fu s.fr s.fs s.gn n ae
def cE'(th:Th)(ad:ByteArray)(op:Option ByteArray)(f:Nat)(s:S5)(n ae:Int):Int:=tQ th ad op f s.m s.fu s.fr s.fs s.gn n ae
def lvT(s:S5)(n:Int):S5:=⟨s.m,s.fu,s.fr,jW s.fs n,qE s.fs s.gn n⟩
def opP(op:Option ByteArray):Nat:=match op with|some _=>81|none=>0
structure awP (th:Th) (ad:ByteArray) (op:Option ByteArray) (s t:S5) (h:Nat) (old:List En) (ps:List Int) (po:Nat) (l:List Br) (N V rest:List Int) (k0:ByteArray) (F:List (Kd h)):Prop where
 pE:sn th s t N V
 len:N.length<=2*(h+1)
 l:l=l7 k0 (F.map (du h))
 fr:For th t.m h F
 eV:cw h F=lC ad op old
 old:ps.Perm (V++rest)
 new:(cD h F).Perm (N++rest)
 two:F.length<=2
 del:op=none->F.length<=1
 vA:fN h F+(F.length - 1)*(81*3^h)<=po+opP op
structure awQ (th:Th) (ad:ByteArray) (op:Option ByteArray) (s t:S5) (h:Nat) (old:List En) (ps:List Int) (e:Int) (N V:List Int):Prop where
 pE:sn th s t N V
 len:N.length<=2*h+1
 sub:∀p∈V,p∈ps
 how:(e=5/\sH ad op old=5)\/(e=41/\∀p,In s.fr p->p∈N)\/(e=42/\t.fu=0)
def agi(th:Th)(ad:ByteArray)(op:Option ByteArray)(s t:S5)(h:Nat)(old:List En)(ps:List Int)(po:Nat)(l:List Br)(e:Int):Prop:=
 (e=0/\sH ad op old=0/\∃N V rest k0 F,awP th ad op s t h old ps po l N V rest k0 F)\/(e≠0/\∃N V,awQ th ad op s t h old ps e N V)
theorem anH{th:Th}{ad:ByteArray}{op:Option ByteArray}{s s1 t:S5}{h:Nat}{old:List En}{ps N V:List Int}{e:Int}{k:Nat}(h1:sn th s s1 N V)(hN:N.length+k<=2*h+1)(hV:∀p∈V,p∈ps)(hb:Bad th s1 t k e):∃N V,awQ th ad op s t h old ps e N V:=by
 have⟨N2,b1,b2,b3⟩:=hb;refine⟨N++N2,V++[],fL h1 b1 (λp hp=>by cases hp),by rw[length_append];omega,λp hp=>hV p (by simpa using hp),.inr (b3.imp (λx=>⟨x.1,λp hp=> ?_⟩) id)⟩;by_cases hpn:p∈N;exact List.mem_append_left _ hpn;exact mem_append_right _ (x.2 p ((h1.fr p).2 ⟨hp,hpn⟩))
theorem aie{th:Th}{ad:ByteArray}{op:Option ByteArray}{es:List En}(hk:1<=ad.size/\ad.size<=24)(hv:∀v,op=some v->v.size<=100)(kv:kB es=true)(hz:bI es []<=254){s s1:S5}{V ps:List Int}(h1:sn th s s1 [] V)(hV:ps.Perm V)(hc:sH ad op es=0){h:Nat}:
 agi th ad op s (sS th s1 true (lC ad op es) []) 0 es ps h (sL th s1 true (lC ad op es) []) (sE th s1 true (lC ad op es) []):=by
 have ho:=h1.ok;have awR:=aqF (op:=op) hk hv kv;have hsp:¬bI (lC ad op es) []<=254->eb true (lC ad op es) []=true/\bI (bE true (lC ad op es) []) []<=254/\bI (dw true (lC ad op es) []) []<=254/\
  ∃k,0<k/\k<(lC ad op es).length/\bE true (lC ad op es) []=(lC ad op es).take k/\dw true (lC ad op es) []=(lC ad op es).drop k/\bH true (lC ad op es) []=[]/\dH true (lC ad op es) []=[]/\cz true (lC ad op es) []=true:=λhn=>by
  cases op with
  |some v=>exact am2 awR hz hn
  |none=>exact absurd (Int.le_trans x9 hz) hn
 rcases aqE ho awR hsp with⟨a,N,k0,F,b,c,d,e,g,i,j,k⟩|⟨a,b⟩;refine .inl ⟨a,hc,[]++N,V++[],[],k0,F,fL h1 b (λp hp=>by cases hp),by simp;omega,d,e,g, ?_, ?_,j,λhn=>k ?_, ?_⟩;rw[append_nil,append_nil];exact hV;rw[i,nil_append,append_nil];subst hn;exact Int.le_trans x9 hz
 have p0:fN 0 F=0:=by
  have:∀F:List (Kd 0),fN 0 F=0:=λF=>by
   induction F with
   |nil=>rfl
   |cons x r ih=>rw[jr,ih];rfl
  exact this F
 rw[p0];cases op with
 |some v=>show 0+(F.length - 1)*(81*3^0)<=h+81;rw[Nat.pow_zero];omega
 |none=>
  have:=k (Int.le_trans x9 hz);show 0+(F.length - 1)*(81*3^0)<=h+0;rw[show F.length - 1=0 from by omega];omega
 exact .inr ⟨a,anH h1 (by simp) (λp hp=>(hV.mem_iff).2 hp) b⟩
theorem anI{th:Th}{ad:ByteArray}{op:Option ByteArray}(hk:1<=ad.size/\ad.size<=24)(hv:∀v,op=some v->v.size<=100){s:S5}{t:TN 0}{f:Nat}{ae:Int}(ho:zC th s)(hr:rep th s.m 0 t)(ht:pJ 0 t)(hd:ae<=16):
 agi th ad op s (cS th ad op (f+1) s (pg 0 t) ae) 0 (eV 0 t) (nG 0 t) (vA 0 t) (cL th ad op (f+1) s (pg 0 t) ae) (cE' th ad op (f+1) s (pg 0 t) ae):=by
 have⟨n,es⟩:=t;have hr:Rd th s.m n true es []:=hr;have⟨e1,e2,e3,e4⟩:=hr.nd hd;have⟨_,kv,hz⟩:=(show es≠[]/\kB es=true/\bI es []<=254 from ht);show agi th ad op s (cS th ad op (f+1) s n ae) 0 es [n] 0 (cL th ad op (f+1) s n ae) (cE' th ad op (f+1) s n ae);have h1:=aga ho n;by_cases hc:sH ad op es=0
 have e:xG th ad op (f+1) s.m s.fu s.fr s.fs s.gn n ae=iN (qE s.fs s.gn n) (bO th s.m s.fu s.fr (jW s.fs n) true (lC ad op es) []):=by
  rw[gT,if_neg (by rw[e1];simp),if_pos e2,e3,e4,if_neg (by rw[hc];simp),anG hc]
 have g:=aie (op:=op) (s1:=lvT s n) (h:=0) hk hv kv hz h1 (List.Perm.refl [n]) hc;have c1:cS th ad op (f+1) s n ae=sS th (lvT s n) true (lC ad op es) []:=by unfold cS qH qI qJ sg tP;rw[e];rfl
 have c2:cL th ad op (f+1) s n ae=sL th (lvT s n) true (lC ad op es) []:=by unfold cL uW;rw[e];rfl
 have c3:cE' th ad op (f+1) s n ae=sE th (lvT s n) true (lC ad op es) []:=by unfold cE' tQ;rw[e];rfl
 rw[c1,c2,c3];exact g;have h5:sH ad op es=5:=(aid ad op es).resolve_left hc
 have e:xG th ad op (f+1) s.m s.fu s.fr s.fs s.gn n ae=(s.m,s.fu,s.fr,s.fs,s.gn,[],5):=by
  rw[gT,if_neg (by rw[e1];simp),if_pos e2,e3,if_pos hc,h5]
 have c1:cS th ad op (f+1) s n ae=s:=by unfold cS qH qI qJ sg tP;rw[e]
 have c3:cE' th ad op (f+1) s n ae=5:=by unfold cE' tQ;rw[e]
 rw[c1,c3];exact .inr ⟨by decide,[],[],iQ ho,by simp,λp hp=>(by cases hp),.inl ⟨rfl,h5⟩⟩
theorem ajZ{th:Th}{m:As}{h:Nat}{A B F:List (Kd h)}{k:Kd h}{ad:ByteArray}{op:Option ByteArray}(hQ:cI (A++k::B)=A++k::B)(kv:iq ((A++k::B).map (du h))=true)(hs:adT h (A++k::B))(hT:∀x∈A++k::B,pJ h x.2)
 (hA:∀x∈A,rep th m h x.2) (hB:∀x∈B,rep th m h x.2) (f:For th m h F) (fe:cw h F=lC ad op (eV h k.2)) (uQ:slt ad k.1=false) (ri:∀b∈B,slt ad b.1=true):
 For th m h (cI (A++cR k.1 F++B))/\iq ((cI (A++cR k.1 F++B)).map (du h))=true/\cw h (cI (A++cR k.1 F++B))=lC ad op (cw h (A++k::B))/\sH ad op (cw h (A++k::B))=sH ad op (eV h k.2)/\
  (F.length<=1->nH h (cI (A++cR k.1 F++B))<=nH h (A++k::B))/\(F.length<=2->nH h (cI (A++cR k.1 F++B))<=nH h (A++k::B)+27):=by
 have⟨o1,o2⟩:=gP.1 kv;have mk:∀x∈A++k::B,(du h x)∈(A++k::B).map (du h):=λx hx=>List.mem_map_of_mem hx;have inA:∀x∈A,x∈A++k::B:=λx hx=>List.mem_append_left _ hx;have ink:k∈A++k::B:=mem_append_right _ mem_cons_self;have inB:∀x∈B,x∈A++k::B:=λx hx=>mem_append_right _ (mem_cons_of_mem _ hx);rw[map_append,map_cons,List.pairwise_append,pairwise_cons]at o2;have⟨oA,⟨okB,oB⟩,oAB⟩:=o2;have⟨s1,s2⟩:=hs;rw[List.pairwise_append,pairwise_cons]at s1;have⟨sA,⟨skB,sB⟩,sAB⟩:=s1
 have eA:∀x∈cw h A,slt x.1 k.1=true:=λx hx=>by
  have⟨a,ha,hxa⟩:=mem_flatMap.1 hx;exact sAB a ha k mem_cons_self x hxa
 have eAk:∀x∈cw h A,slt x.1 ad=true:=λx hx=>fD (eA x hx) uQ
 have eBk:∀x∈cw h B,slt ad x.1=true:=λx hx=>by
  have⟨b,hb,hxb⟩:=mem_flatMap.1 hx;exact fD (ri b hb) (s2 b (inB b hb) x hxb)
 have kF:∀e∈cw h F,slt e.1 k.1=false:=λe he=>by
  rw[fe]at he;rcases abV he with h1|⟨h1,_⟩;exact s2 k ink e h1;rw[h1];exact uQ
 have fB:∀e∈cw h F,∀b∈B,slt e.1 b.1=true:=λe he b hb=>by
  rw[fe]at he;rcases abV he with h1|⟨h1,_⟩;exact skB b hb e h1;rw[h1];exact ri b hb
 have inF:∀{x:Kd h},x∈F->∀e∈eV h x.2,e∈cw h F:=λhx e he=>mem_flatMap.2 ⟨_,hx,he⟩;have some_:∀{x:Kd h},x∈F->∃e,e∈eV h x.2:=λhx=>List.exists_mem_of_ne_nil _ (si h (f.ok _ hx))
 have yX:∀x∈cR k.1 F,(x.1=k.1\/slt k.1 x.1=true)/\x.1.size<=24/\(2<=pg h x.2/\pg h x.2<1024)/\rep th m h x.2/\pJ h x.2/\(∀e∈eV h x.2,slt e.1 x.1=false)/\(∀e∈eV h x.2,e∈cw h F):=λx hx=>by
  cases F with
  |nil=>cases hx
  |cons y r=>
   rcases mem_cons.1 hx with rfl|hx;have y0:y∈y::r:=mem_cons_self;exact⟨.inl rfl,(o1 _ (mk k ink)).1,f.pg y y0,f.rep y y0,f.ok y y0,λe he=>kF e (inF (x:=y) y0 e he),λe he=>inF (x:=y) y0 e he⟩;have x0:x∈y::r:=mem_cons_of_mem _ hx;refine⟨.inr ?_,f.ad x x0,f.pg x x0,f.rep x x0,f.ok x x0,f.sep.2 x x0,inF x0⟩;have p:=f.sep.1;rw[pairwise_cons]at p;have⟨e,he⟩:=some_ (x:=y) mem_cons_self;have a1:=p.1 x hx e he;have a2:=kF e (inF mem_cons_self e he);rcases ig k.1 e.1 with h1|h1|h1;exact dc h1 a1;rw[h1];exact a1;rw[h1]at a2;cases a2
 have ayJ:∀x∈cR k.1 F,∀b∈B,slt x.1 b.1=true:=λx hx b hb=>by
  have⟨_,_,_,_,ok,g1,g2⟩:=yX x hx;have⟨e,he⟩:=List.exists_mem_of_ne_nil _ (si h ok);have a1:=fB e (g2 e he) b hb;rcases ig x.1 e.1 with h1|h1|h1;exact dc h1 a1;rw[h1];exact a1;rw[g1 e he]at h1;cases h1
 have up2:(cR k.1 F).Pairwise λa b=>slt a.1 b.1=true:=by
  cases F with
  |nil=>exact List.Pairwise.nil
  |cons y r=>
   have p:=f.sep.1;rw[pairwise_cons]at p;rw[cR,pairwise_cons];refine⟨λx hx=>((yX x (mem_cons_of_mem _ hx)).1.resolve_left λe=> ?_), ?_⟩;have⟨e',he⟩:=some_ (x:=y) mem_cons_self;have a1:=p.1 x hx e' he;rw[e,kF e' (inF mem_cons_self e' he)]at a1;cases a1;refine List.Pairwise.imp_of_mem (λ{a b} ha hb hab=> ?_) p.2;have⟨e',he⟩:=some_ (x:=a) (mem_cons_of_mem _ ha);have a1:=hab e' he;have a2:=f.sep.2 a (mem_cons_of_mem _ ha) e' he;rcases ig a.1 e'.1 with h1|h1|h1;exact dc h1 a1;rw[h1];exact a1;rw[a2]at h1;cases h1
 have sp2:(cR k.1 F).Pairwise λa b=>∀e∈eV h a.2,slt e.1 b.1=true:=by
  cases F with
  |nil=>exact List.Pairwise.nil
  |cons y r=>
   have p:=f.sep.1;rw[pairwise_cons]at p;rw[cR,pairwise_cons];exact p
 have aqG:∀{p:Kd h->Prop},(∀x∈A,p x)->(∀x∈cR k.1 F,p x)->(∀x∈B,p x)->∀x∈A++cR k.1 F++B,p x:=λh1 h2 h3 x hx=>by
  rcases mem_append.1 hx with hx|hx;rcases mem_append.1 hx with hx|hx;exact h1 x hx;exact h2 x hx;exact h3 x hx
 have okJ:iq ((A++cR k.1 F++B).map (du h))=true:=by
  rw[gP];constructor;intro b hb;obtain⟨x,hx,rfl⟩:=mem_map.1 hb;exact aqG (p:=λx=>(du h x).1.size<=24/\2<=(du h x).2.1/\(du h x).2.1<1024) (λx hx=>o1 _ (mk x (inA x hx))) (λx hx=>⟨(yX x hx).2.1,(yX x hx).2.2.1⟩) (λx hx=>o1 _ (mk x (inB x hx))) x hx;rw[map_append,map_append,List.pairwise_append,List.pairwise_append];refine⟨⟨oA, ?_,λa ha b hb=> ?_⟩,oB,λa ha b hb=> ?_⟩;rw[List.pairwise_map];exact up2;obtain⟨x,hx,rfl⟩:=mem_map.1 hb;have a1:=oAB a ha (du h k) mem_cons_self;rcases(yX x hx).1 with e|e;show slt a.1 x.1=true;rw[e];exact a1;exact dc a1 e;obtain⟨y,hy,rfl⟩:=mem_map.1 hb;rcases mem_append.1 ha with ha|ha;exact oAB a ha (du h y) (mem_cons_of_mem _ (List.mem_map_of_mem hy));obtain⟨x,hx,rfl⟩:=mem_map.1 ha;exact ayJ x hx y hy
 have spJ:(A++cR k.1 F++B).Pairwise λa b=>∀e∈eV h a.2,slt e.1 b.1=true:=by
  rw[List.pairwise_append,List.pairwise_append];refine⟨⟨sA,sp2,λa ha b hb e he=> ?_⟩,sB,λa ha b hb e he=> ?_⟩;have a1:=sAB a ha k mem_cons_self e he;rcases(yX b hb).1 with e1|e1;rw[e1];exact a1;exact dc a1 e1;rcases mem_append.1 ha with ha|ha;exact sAB a ha b (mem_cons_of_mem _ hb) e he;exact fB e ((yX a ha).2.2.2.2.2.2 e he) b hb
 have ayK:∀x∈A++cR k.1 F++B,∀e∈eV h x.2,slt e.1 x.1=false:=aqG (λx hx=>s2 x (inA x hx)) (λx hx=>(yX x hx).2.2.2.2.2.1) (λx hx=>s2 x (inB x hx));have eE:cw h (A++k::B)=cw h A++eV h k.2++cw h B:=by rw[kN,jq,append_assoc]
 have szs:nH h (cI (A++cR k.1 F++B))<=1+(iW (A.map (du h))+iW ((cR k.1 F).map (du h))+iW (B.map (du h)))/\nH h (A++k::B)=1+(iW (A.map (du h))+(qC (du h k)+iW (B.map (du h)))):=by
  rw[af9,af9,<-kP];have a1:=tT ((A++cR k.1 F++B).map (du h));rw[map_append,map_append,xN,xN]at a1;rw[map_append (l₁:=A),map_cons,xN (A.map (du h)),dS];refine⟨?_,rfl⟩;rw[map_append,map_append];omega
 refine⟨⟨xL _,λx hx=> ?_,λx hx=> ?_,⟨?_,λx hx e he=> ?_⟩,λx hx=> ?_,λx hx=> ?_⟩, ?_, ?_, ?_,λhl=> ?_,λhl=> ?_⟩;have⟨y,hy,e,_⟩:=im hx;rw[<-e];exact aqG (p:=λx=>rep th m h x.2) hA (λx hx=>(yX x hx).2.2.2.1) hB y hy;have⟨y,hy,e,_⟩:=im hx;rw[<-e];exact aqG (p:=λx=>pJ h x.2) (λx hx=>hT x (inA x hx)) (λx hx=>(yX x hx).2.2.2.2.1) (λx hx=>hT x (inB x hx)) y hy;generalize A++cR k.1 F++B=J at spJ;cases J with
 |nil=>exact List.Pairwise.nil
 |cons x r=>
  rw[pairwise_cons]at spJ;rw[cI,pairwise_cons];exact spJ
 have⟨y,hy,e1,e2⟩:=im hx;rcases e2 with e2|e2;rw[e2];exact ij _;subst e2;exact ayK x hy e he;have⟨y,hy,e1,e2⟩:=im hx;rcases e2 with e2|e2;rw[e2];exact zero_le _;subst e2;exact((gP.1 okJ).1 _ (List.mem_map_of_mem hy)).1;have⟨y,hy,e,_⟩:=im hx;rw[<-e];exact((gP.1 okJ).1 _ (List.mem_map_of_mem hy)).2;rw[<-kP];exact aai okJ;rw[qL,kN,kN,ajR,fe,eE,aib eAk eBk];rw[eE,aic eAk eBk];have⟨z1,z2⟩:=szs;rw[z2];refine Int.le_trans z1 ?_
 have:iW ((cR k.1 F).map (du h))<=qC (du h k):=by
  cases F with
  |nil=>show(0:Int)<=_;have:=xM (du h k);omega
  |cons y r=>
   cases r with
   |nil=>rw[cR,map_cons,dS];show qC (du h (k.1,y.2))+0<=_;rw[Int.add_zero];exact Int.le_refl _
   |cons z r=>simp only[length_cons]at hl;omega
 omega;have⟨z1,z2⟩:=szs;rw[z2];refine Int.le_trans z1 ?_
 have:iW ((cR k.1 F).map (du h))<=qC (du h k)+27:=by
  cases F with
  |nil=>show(0:Int)<=_;have:=xM (du h k);omega
  |cons y r=>
   cases r with
   |nil=>rw[cR,map_cons,dS];show qC (du h k)+0<=_;omega
   |cons z r=>
    cases r with
    |nil=>
     have:=f.ad z (mem_cons_of_mem _ mem_cons_self);rw[cR,map_cons,map_cons,dS,dS];show qC (du h k)+(qC (du h z)+0)<=_;have:qC (du h z)=3+(z.1.size:Int):=rfl;omega
    |cons w r=>simp only[length_cons]at hl;omega
 omega
theorem aeo{h:Nat}{Q:List (Kd h)}{ad:ByteArray}(hQ:Q≠[])(hb:cI Q=Q)(kv:iq (Q.map (du h))=true):
 ∃A k B,Q=A++k::B/\(br (Q.map (du h)) ad).toNat=A.length/\slt ad k.1=false/\(∀b∈B,slt ad b.1=true):=by
 have hs:=atk kv;have hn:nw (Q.map (du h))≠[]:=by cases Q with|nil=>exact absurd rfl hQ|cons q r=>simp
 have⟨p,e,hp,h0,h1⟩:=xn (ks:=nw (Q.map (du h))) (ad:=ad) hs hn;have hl:(nw (Q.map (du h))).length=Q.length:=by simp
 rw[hl]at hp h1
 have ek:∀i,i<Q.length->(nw (Q.map (du h))).getD i empty=(Q.getD i (empty,Q.head hQ |>.2)).1:=λi hi=>by
  rw[bt (by simpa using hi),bt hi];simp[du]
 refine⟨Q.take p,Q[p],Q.drop (p+1), ?_, ?_, ?_,λb hb=> ?_⟩;rw[List.getElem_cons_drop,List.take_append_drop];unfold br;rw[e,length_take,toNat_natCast];omega;rcases h0 with h0|h0;subst h0
 have:Q[0].1=empty:=by
  cases Q with
  |nil=>exact absurd rfl hQ
  |cons q r=>
   simp only[cI,List.cons.injEq]at hb;show q.1=_;rw[<-hb.1]
 rw[this];exact ij _;rw[ek p hp,bt hp]at h0;exact h0;obtain⟨i,hi,rfl⟩:=List.getElem_of_mem hb;rw[length_drop]at hi;have:=h1 (p+1+i) (by omega) (by omega);rw[ek _ (by omega),bt (by omega)]at this;rw[List.getElem_drop];exact this
theorem anJ{P x y a b F n m:Nat}(c:Nat)(h1:F+(n - 1)*(81*P)<=m+c)(hn:n<=2)(hz:(n<=1->y<=x)/\(n<=2->y<=x+27)):3*P*(19+y)+(a+F+b)<=3*P*(19+x)+(a+m+b)+c:=by
 have k:3*P*(19+y)<=3*P*(19+x)+(n - 1)*(81*P):=by
  rcases lt_or_ge 1 n with h|h;have e:n=2:=by omega
  subst e;have:=Nat.mul_le_mul_left (3*P) (show 19+y<=(19+x)+27 from by have:=hz.2 (le_refl _);omega);rw[Nat.mul_add (3*P) (19+x) 27]at this;omega;have:=Nat.mul_le_mul_left (3*P) (show 19+y<=19+x from by have:=hz.1 h;omega);omega
 omega
theorem aj0{P x a b F m:Nat}(c:Nat)(h1:F+(2 - 1)*(81*P)<=m+c)(hx:73<=x):3*P*38+(a+F+b)+(2 - 1)*(81*(3*P))<=3*P*(19+x)+(a+m+b)+c:=by
 have:=Nat.mul_le_mul_left (3*P) (show 92<=19+x from by omega);omega
theorem aep{th:Th}{ad:ByteArray}{op:Option ByteArray}(hk:1<=ad.size/\ad.size<=24)(hv:∀v,op=some v->v.size<=100):∀(h:Nat) {s:S5} {t:TN h} {f:Nat} {ae:Int},zC th s->rep th s.m h t->pJ h t->(∀p∈nG h t,¬In s.fr p)->h<f->ae+(h:Int)<=16->
 agi th ad op s (cS th ad op f s (pg h t) ae) h (eV h t) (nG h t) (vA h t) (cL th ad op f s (pg h t) ae) (cE' th ad op f s (pg h t) ae)
 |0,s,t,f,ae,ho,hr,ht,hp,hf,hd=>by
  cases f with
  |zero=>omega
  |succ f=>exact anI hk hv ho hr ht (by omega)
 |h+1,s,t,f,ae,ho,hr,ht,hp,hf,hd=>by
  cases f with
  |zero=>omega
  |succ f=>
  have⟨n,Q⟩:=t;have⟨hr1,yz⟩:=(show Rd th s.m n false [] (Q.map (du h))/\∀k∈Q,rep th s.m h k.2 from hr);have⟨hQ,hQb,kv,cq,hsp,hT⟩:=(show Q≠[]/\cI Q=Q/\iq (Q.map (du h))=true/\nH h Q<=254/\adT h Q/\∀k∈Q,pJ h k.2 from ht);have⟨e1,e2,e3,e4⟩:=hr1.nd (ae:=ae) (by omega);have⟨A,k,B,eQ,ep,uQ,ri⟩:=aeo (ad:=ad) hQ hQb kv;have cX:Q.map (du h)≠[]:=by cases Q with|nil=>exact absurd rfl hQ|cons q r=>simp
  have egd:(Q.map (du h)).getD A.length dB=du h k:=by rw[eQ];simp[List.getD]
  have etk:(Q.map (du h)).take A.length=A.map (du h):=by rw[eQ];simp
  have edp:(Q.map (du h)).drop (A.length+1)=B.map (du h):=by
   rw[eQ,map_append,map_cons,<-List.drop_drop]
   have e:(A.map (du h)++du h k::B.map (du h)).drop A.length=du h k::B.map (du h):=by
    have:=List.drop_left (l₁:=A.map (du h)) (l₂:=du h k::B.map (du h));rw[length_map]at this;exact this
   rw[e];rfl
  have epg:cD h Q=cD h A++(nG h k.2++cD h B):=by rw[eQ,sj,kO]
  have hpn:¬In s.fr n:=hp n mem_cons_self;have hpA:∀p∈cD h A,¬In s.fr p:=λp kD=>hp p (mem_cons_of_mem _ (show p∈cD h Q from by rw[epg];exact List.mem_append_left _ kD));have hpk:∀p∈nG h k.2,¬In s.fr p:=λp kD=>hp p (mem_cons_of_mem _ (show p∈cD h Q from by rw[epg];exact mem_append_right _ (List.mem_append_left _ kD)));have hpB:∀p∈cD h B,¬In s.fr p:=λp kD=>hp p (mem_cons_of_mem _ (show p∈cD h Q from by rw[epg];exact mem_append_right _ (mem_append_right _ kD)));have kin:k∈Q:=by rw[eQ];exact mem_append_right _ mem_cons_self
  have ih:=aep hk hv h (s:=s) (t:=k.2) (f:=f) (ae:=ae+1) ho (yz k kin) (hT k kin) hpk (by omega) (by omega);have epk:(du h k).2.1=pg h k.2:=rfl;have ekk:(du h k).1=k.1:=rfl;show agi th ad op s (cS th ad op (f+1) s n ae) (h+1) (cw h Q) (n::cD h Q) (3^(h+1)*(19+ovr (nH h Q))+fN h Q) (cL th ad op (f+1) s n ae) (cE' th ad op (f+1) s n ae)
  have ed:xG th ad op (f+1) s.m s.fu s.fr s.fs s.gn n ae=if cE' th ad op f s (pg h k.2) (ae+1)≠0 then
   ((cS th ad op f s (pg h k.2) (ae+1)).m,(cS th ad op f s (pg h k.2) (ae+1)).fu,(cS th ad op f s (pg h k.2) (ae+1)).fr,(cS th ad op f s (pg h k.2) (ae+1)).fs,(cS th ad op f s (pg h k.2) (ae+1)).gn,[],cE' th ad op f s (pg h k.2) (ae+1))
   else iN (lvT (cS th ad op f s (pg h k.2) (ae+1)) n).gn (bO th (lvT (cS th ad op f s (pg h k.2) (ae+1)) n).m (lvT (cS th ad op f s (pg h k.2) (ae+1)) n).fu (lvT (cS th ad op f s (pg h k.2) (ae+1)) n).fr (lvT (cS th ad op f s (pg h k.2) (ae+1)) n).fs false [] (A.map (du h)++l7 k.1 (cL th ad op f s (pg h k.2) (ae+1))++B.map (du h))):=by
   rw[gT,if_neg (by rw[e1];simp),if_neg (by rw[e2];simp),e4,if_neg cX,e3,ep,egd,etk,edp,epk,ekk];rfl
  generalize cS th ad op f s (pg h k.2) (ae+1)=s2 at ih ed;generalize cL th ad op f s (pg h k.2) (ae+1)=l2 at ih ed;generalize cE' th ad op f s (pg h k.2) (ae+1)=x2 at ih ed;rcases ih with⟨hx,hc,N,V,rest,k0,F,g⟩|⟨hx,N,V,g⟩;rw[if_neg (by rw[hx];simp),g.l,ajP,adU,<-map_append,<-map_append]at ed;have hnN:n ∉ N:=λhh=>hpn (g.pE.sub n hh)
  have l1:sn th s (lvT s2 n) N (V++[n]):=by
   have:=fL g.pE (aga g.pE.ok n) (λp kD=>by rw[mem_singleton.1 kD];exact hnN);rw[append_nil]at this;exact this
  have ho3:=l1.ok;have⟨j1,j2,j3,j4,j5,j6⟩:=ajZ (th:=th) (m:=(lvT s2 n).m) (A:=A) (B:=B) (F:=F) (k:=k) (ad:=ad) (op:=op) (by rw[<-eQ];exact hQb) (by rw[<-eQ];exact kv) (by rw[<-eQ];exact hsp) (by rw[<-eQ];exact hT)
   (λx hx=>g.pE.rep h (yz x (by rw[eQ];exact List.mem_append_left _ hx)) λp kD=>hpA p (mem_flatMap.2 ⟨x,hx,kD⟩))
   (λx hx=>g.pE.rep h (yz x (by rw[eQ];exact mem_append_right _ (mem_cons_of_mem _ hx))) λp kD=>hpB p (mem_flatMap.2 ⟨x,hx,kD⟩)) g.fr g.eV uQ ri
  rw[<-eQ]at j3 j4 j5 j6;have awS:af ((A++cR k.1 F++B).map (du h))=(cI (A++cR k.1 F++B)).map (du h):=kP _;have pgJ:cD h (cI (A++cR k.1 F++B))=cD h A++cD h F++cD h B:=by rw[aag,sj,sj,amY]
  have awT:fN h (cI (A++cR k.1 F++B))=fN h A+fN h F+fN h B:=by rw[aah,sk,sk,amZ]
  have ayL:fN h Q=fN h A+vA h k.2+fN h B:=by rw[eQ,sk,jr];omega
  have awU:∀p∈cD h (cI (A++cR k.1 F++B)),¬In (lvT s2 n).fr p:=λp kD dv=>by
   have⟨i1,i2⟩:=(l1.fr p).1 dv;rw[pgJ]at kD;rcases mem_append.1 kD with kD|kD;rcases mem_append.1 kD with kD|kD;exact hpA p kD i1;rcases mem_append.1 ((g.new.mem_iff).1 kD)with kD|kD;exact i2 kD;exact hpk p ((g.old.mem_iff).2 (mem_append_right _ kD)) i1;exact hpB p kD i1
  have c1:cS th ad op (f+1) s n ae=sS th (lvT s2 n) false [] ((A++cR k.1 F++B).map (du h)):=by unfold cS qH qI qJ sg tP;rw[ed];rfl
  have c2:cL th ad op (f+1) s n ae=sL th (lvT s2 n) false [] ((A++cR k.1 F++B).map (du h)):=by unfold cL uW;rw[ed];rfl
  have c3:cE' th ad op (f+1) s n ae=sE th (lvT s2 n) false [] ((A++cR k.1 F++B).map (du h)):=by unfold cE' tQ;rw[ed];rfl
  rw[c1,c2,c3]
  have old:(n::cD h Q).Perm ((V++[n])++(rest++(cD h A++cD h B))):=by
   rw[epg]
   have a1:(cD h A++(nG h k.2++cD h B)).Perm (nG h k.2++(cD h A++cD h B)):=by
    rw[<-append_assoc,<-append_assoc];exact List.Perm.append_right _ List.perm_append_comm
   have a2:(nG h k.2++(cD h A++cD h B)).Perm ((V++rest)++(cD h A++cD h B)):=List.Perm.append_right _ g.old;have a3:=(List.Perm.cons n (a1.trans a2));refine a3.trans ?_;rw[append_assoc,append_assoc V [n],List.singleton_append];exact List.perm_middle.symm
  have awV:(cD h (cI (A++cR k.1 F++B))).Perm (N++(rest++(cD h A++cD h B))):=by
   rw[pgJ]
   have a1:(cD h A++cD h F++cD h B).Perm (cD h F++(cD h A++cD h B)):=by
    rw[<-append_assoc];exact List.Perm.append_right _ List.perm_append_comm
   refine a1.trans ?_;rw[<-append_assoc N];exact List.Perm.append_right _ g.new
  by_cases hJ:cI (A++cR k.1 F++B)=[]
  have h0:(A++cR k.1 F++B)=[]:=by
   cases hx:A++cR k.1 F++B with
   |nil=>rfl
   |cons x r=>rw[hx]at hJ;cases hJ
  have⟨a,b,c⟩:=ah6 (l:=false) (es:=[]) (bs:=(A++cR k.1 F++B).map (du h)) ho3 (by rw[h0];rfl);have p0:=awV;rw[hJ]at p0;refine .inl ⟨a,by rw[j4];exact hc,N++[],(V++[n])++[],rest++(cD h A++cD h B),empty,[],fL l1 c (λp hp=>by cases hp), ?_,b,ah7, ?_, ?_, ?_,zero_le _,λ_=>zero_le _, ?_⟩;rw[append_nil];have:=g.len;omega;rw[<-j3,hJ];rfl;rw[append_nil];exact old;rw[append_nil];exact p0;show 0+(0 - 1)*_<=_;rw[Nat.zero_sub,Nat.zero_mul];exact zero_le _;have z27:=j6 g.two;rcases aia ho3 awS hJ j1 awU j2 (by omega)with⟨a,N2,k2,F2,b,c,d,e,i,i2,i3⟩|⟨a,b⟩;refine .inl ⟨a,by rw[j4];exact hc,N++N2,(V++[n])++[],rest++(cD h A++cD h B),k2,F2,fL l1 b (λp hp=>by cases hp), ?_,d,e,by rw[i,j3],by rw[append_nil];exact old, ?_, ?_,λhn=> ?_, ?_⟩;rw[length_append];have:=g.len;omega;refine i2.trans ?_;refine(List.Perm.append_left N2 awV).trans ?_;rw[<-append_assoc];exact List.Perm.append_right _ List.perm_append_comm;rcases i3 with⟨_,i3,_⟩|⟨_,i3,_⟩<;>omega;rcases i3 with⟨_,i3,_⟩|⟨i4,i3,_⟩;omega;have:=j5 (g.del hn);omega;have gp:=g.vA;have e3:3^(h+1)=3*3^h:=by rw[Nat.pow_succ,Nat.mul_comm]
  rw[e3,ayL];rcases i3 with⟨_,i4,i5⟩|⟨i6,i4,i5⟩;rw[i5,i4,awT,e3,Nat.sub_self,Nat.zero_mul,add_zero];refine anJ (opP op) gp g.two ⟨λhl=> ?_,λhl=> ?_⟩;have:=j5 hl;unfold ovr;omega;unfold ovr;omega
  have h2:F.length=2:=by
   rcases lt_or_ge 1 F.length with hl|hl;have:=g.two;omega;have:=j5 hl;omega
  rw[h2]at gp;rw[i5,i4,awT,e3];exact aj0 (opP op) gp (by unfold ovr;omega);exact .inr ⟨a,anH l1 (by have:=g.len;omega) (λp hp=>(old.mem_iff).2 (List.mem_append_left _ hp)) b⟩;rw[if_pos hx]at ed;have c1:cS th ad op (f+1) s n ae=s2:=by unfold cS qH qI qJ sg tP;rw[ed]
  have c3:cE' th ad op (f+1) s n ae=x2:=by unfold cE' tQ;rw[ed]
  rw[c1,c3];refine .inr ⟨hx,N,V,g.pE,by have:=g.len;omega,λp kD=>mem_cons_of_mem _ ?_, ?_⟩;rw[epg];exact mem_append_right _ (List.mem_append_left _ (g.sub p kD));rcases g.how with⟨a,b⟩|a;refine .inl ⟨a, ?_⟩;have sAB:=hsp.1;rw[eQ,List.pairwise_append]at sAB
  have eAk:∀x∈cw h A,slt x.1 ad=true:=λx hx=>by
   have⟨y,hy,hxy⟩:=mem_flatMap.1 hx;exact fD (sAB.2.2 y hy k mem_cons_self x hxy) uQ
  have eBk:∀x∈cw h B,slt ad x.1=true:=λx hx=>by
   have⟨y,hy,hxy⟩:=mem_flatMap.1 hx;exact fD (ri y hy) (hsp.2 y (by rw[eQ];exact mem_append_right _ (mem_cons_of_mem _ hy)) x hxy)
  rw[eQ,kN,jq,<-append_assoc,aic eAk eBk];exact b;exact .inr a
def ba(th:Th)(m:As)(aa:Int)(h:Nat)(E:List En)(ps:List Int)(po:Nat):Prop:=
 (aa=0/\h=0/\E=[]/\ps=[]/\po=0)\/∃t:TN h,aa=pg h t/\2<=aa/\aa<1024/\rep th m h t/\pJ h t/\E=eV h t/\ps=nG h t/\po=vA h t
def tS(th:Th)(ad:ByteArray)(op:Option ByteArray)(s:S5)(aa:Int):S5:=
 ⟨yT th ad op s.m s.fu aa s.fr s.fs s.gn,yU th ad op s.m s.fu aa s.fr s.fs s.gn,yV th ad op s.m s.fu aa s.fr s.fs s.gn,ad3 th ad op s.m s.fu aa s.fr s.fs s.gn,ad4 th ad op s.m s.fu aa s.fr s.fs s.gn⟩
structure aif (th:Th) (ad:ByteArray) (op:Option ByteArray) (s t:S5) (h:Nat) (old:List En) (ps:List Int) (po:Nat) (l:List Br) (N V rest:List Int) (k0:ByteArray) (h2:Nat) (F:List (Kd h2)):Prop where
 pE:sn th s t N V
 l:l=l7 k0 (F.map (du h2))
 fr:For th t.m h2 F
 eV:cw h2 F=lC ad op old
 old:ps.Perm (V++rest)
 new:(cD h2 F).Perm (N++rest)
 one:F.length<=1
 vA:fN h2 F<=po+opP op
 hh:h2<=h+1
 len:N.length<=2*h+4
structure auv (th:Th) (ad:ByteArray) (op:Option ByteArray) (s t:S5) (h:Nat) (old:List En) (e:Int) (N V:List Int):Prop where
 pE:sn th s t N V
 len:N.length<=2*h+3
 how:(e=5/\sH ad op old=5)\/(e=41/\∀p,In s.fr p->p∈N)\/(e=42/\t.fu=0)
def stC(c:Chg):S5:=⟨c.1,c.2.1,c.2.2.1,c.2.2.2.1,c.2.2.2.2.1⟩
theorem For.okB{th:Th}{m:As}{h:Nat}{F:List (Kd h)}(f:For th m h F):iq (F.map (du h))=true:=by
 rw[gP];refine⟨λb hb=> ?_, ?_⟩;obtain⟨x,hx,rfl⟩:=mem_map.1 hb;exact⟨f.ad x hx,f.pg x hx⟩;rw[List.pairwise_map];refine List.Pairwise.imp_of_mem (λ{a b} ha hb hab=> ?_) f.sep.1;have⟨e,he⟩:=List.exists_mem_of_ne_nil _ (si h (f.ok a ha));have a1:=hab e he;have a2:=f.sep.2 a ha e he;show slt a.1 b.1=true;rcases ig a.1 e.1 with h1|h1|h1;exact dc h1 a1;rw[h1];exact a1;rw[a2]at h1;cases h1
theorem anK{th:Th}{ad:ByteArray}{op:Option ByteArray}(hk:1<=ad.size/\ad.size<=24)(hv:∀v,op=some v->v.size<=100){s:S5}{aa:Int}{h:Nat}{E:List En}{ps:List Int}{po:Nat}(ho:zC th s)(H:ba th s.m aa h E ps po)(hp:∀p∈ps,¬In s.fr p)(hh:h<=15):
 agi th ad op s (tS th ad op s aa) h E ps po (xY th ad op s.m s.fu aa s.fr s.fs s.gn) (xZ th ad op s.m s.fu aa s.fr s.fs s.gn):=by
 rcases H with⟨h1,h2,h3,h4,h5⟩|⟨t,h1,h2,_,h3,h4,h5,h6,h7⟩;subst h2 h3 h4 h5;rcases aid ad op []with hc|hc
 have e:jO th ad op s.m s.fu aa s.fr s.fs s.gn=iN s.gn (bO th s.m s.fu s.fr s.fs true (lC ad op []) []):=by
  unfold jO;rw[if_neg (by rw[h1];simp),if_neg (by rw[hc];simp),anG hc]
 have c1:tS th ad op s aa=sS th s true (lC ad op []) []:=by unfold tS yT yU yV ad3 ad4;rw[e];rfl
 have c2:xY th ad op s.m s.fu aa s.fr s.fs s.gn=sL th s true (lC ad op []) []:=by unfold xY;rw[e];rfl
 have c3:xZ th ad op s.m s.fu aa s.fr s.fs s.gn=sE th s true (lC ad op []) []:=by unfold xZ;rw[e];rfl
 rw[c1,c2,c3];exact aie hk hv rfl (by decide) (iQ ho) (List.Perm.refl _) hc
 have e:jO th ad op s.m s.fu aa s.fr s.fs s.gn=(s.m,s.fu,s.fr,s.fs,s.gn,[],5):=by
  unfold jO;rw[if_neg (by rw[h1];simp),if_pos (by rw[hc];simp),hc]
 have c1:tS th ad op s aa=s:=by unfold tS yT yU yV ad3 ad4;rw[e]
 have c3:xZ th ad op s.m s.fu aa s.fr s.fs s.gn=5:=by unfold xZ;rw[e]
 rw[c1,c3];exact .inr ⟨by decide,[],[],iQ ho,by simp,λp hp=>(by cases hp),.inl ⟨rfl,hc⟩⟩;subst h5 h6 h7
 have e:jO th ad op s.m s.fu aa s.fr s.fs s.gn=xG th ad op 17 s.m s.fu s.fr s.fs s.gn (pg h t) 1:=by
  unfold jO;rw[if_pos (by omega),h1]
 have g:=aep (op:=op) hk hv h (s:=s) (t:=t) (f:=17) (ae:=1) ho h3 h4 hp (by omega) (by omega);have c1:tS th ad op s aa=cS th ad op 17 s (pg h t) 1:=by unfold tS yT yU yV ad3 ad4;rw[e];rfl
 have c2:xY th ad op s.m s.fu aa s.fr s.fs s.gn=cL th ad op 17 s (pg h t) 1:=by unfold xY;rw[e];rfl
 have c3:xZ th ad op s.m s.fu aa s.fr s.fs s.gn=cE' th ad op 17 s (pg h t) 1:=by unfold xZ;rw[e];rfl
 rw[c1,c2,c3];exact g
theorem aqH{th:Th}{ad:ByteArray}{op:Option ByteArray}{s:S5}{h:Nat}{E:List En}{ps:List Int}{po:Nat}{c:Chg}(hp:∀p∈ps,¬In s.fr p)(H:agi th ad op s (stC c) h E ps po c.2.2.2.2.2.1 c.2.2.2.2.2.2):
 ((upT th c).2.2.2.2.2.2=0/\sH ad op E=0/\∃N V rest k0 h2 F,aif th ad op s (stC (upT th c)) h E ps po (upT th c).2.2.2.2.2.1 N V rest k0 h2 F)\/((upT th c).2.2.2.2.2.2≠0/\∃N V,auv th ad op s (stC (upT th c)) h E (upT th c).2.2.2.2.2.2 N V):=by
 rcases H with⟨hx,hc,N,V,rest,k0,F,g⟩|⟨hx,N,V,g⟩;have bK:c.2.2.2.2.2.1.length=F.length:=by rw[g.l,xR,length_map]
 by_cases h2:F.length=2;have hu:upT th c=iN c.2.2.2.2.1 (bO th c.1 c.2.1 c.2.2.1 c.2.2.2.1 false [] c.2.2.2.2.2.1):=if_pos ⟨hx,by rw[bK,h2];decide⟩
 have hb:af c.2.2.2.2.2.1=F.map (du h):=by
  rw[g.l,adU,kP,ajQ,g.fr.bare]
 have hpF:∀p∈cD h F,¬In (stC c).fr p:=λp kD dv=>by
  have⟨i1,i2⟩:=(g.pE.fr p).1 dv;rcases mem_append.1 ((g.new.mem_iff).1 kD)with kD|kD;exact i2 kD;exact hp p ((g.old.mem_iff).2 (mem_append_right _ kD)) i1
 have cq:nH h F<=55:=by
  have e:=af9 F
  have e2:iW (F.map (du h))<=54:=by
   match F,h2,g.fr with
   |[a,b],_,f=>
    have k1:=f.ad a mem_cons_self;have k2:=f.ad b (mem_cons_of_mem _ mem_cons_self);rw[map_cons,map_cons,dS,dS];show qC (du h a)+(qC (du h b)+0)<=54;have e3:qC (du h a)=3+(a.1.size:Int):=rfl;have e4:qC (du h b)=3+(b.1.size:Int):=rfl;omega
  omega
 have cX:F≠[]:=λe=>by rw[e]at h2;cases h2
 have hw:=aia (s:=stC c) (bs:=c.2.2.2.2.2.1) g.pE.ok hb cX g.fr hpF g.fr.okB (by omega);have c1:stC (upT th c)=sS th (stC c) false [] c.2.2.2.2.2.1:=by rw[hu];rfl
 have c2:(upT th c).2.2.2.2.2.1=sL th (stC c) false [] c.2.2.2.2.2.1:=by rw[hu];rfl
 have c3:(upT th c).2.2.2.2.2.2=sE th (stC c) false [] c.2.2.2.2.2.1:=by rw[hu];rfl
 rw[c1,c2,c3];rcases hw with⟨a,N2,k2,F2,b,cc,d,e,i,i2,i3⟩|⟨a,N2,b1,b2,b3⟩;refine .inl ⟨a,hc,N++N2,V++[],rest,k2,h+1,F2,fL g.pE b (λp hp=>by cases hp),d,e,by rw[i,g.eV],by rw[append_nil];exact g.old, ?_, ?_, ?_,le_refl _,by rw[length_append];have:=g.len;omega⟩;refine i2.trans ?_;refine(List.Perm.append_left N2 g.new).trans ?_;rw[<-append_assoc];exact List.Perm.append_right _ List.perm_append_comm;rcases i3 with⟨_,i3,_⟩|⟨i3,_⟩<;>omega;have gp:=g.vA;rw[h2]at gp;rcases i3 with⟨_,_,i3⟩|⟨i3,_⟩;have o0:ovr (nH h F)=0:=by unfold ovr;omega
 rw[i3,o0,Nat.pow_succ];omega;omega;refine .inr ⟨a,N++N2,V++[],fL g.pE b1 (λp hp=>by cases hp),by rw[length_append];have:=g.len;omega,.inr (b3.imp (λx=>⟨x.1,λp kD=> ?_⟩) id)⟩;by_cases hpn:p∈N;exact List.mem_append_left _ hpn;exact mem_append_right _ (x.2 p ((g.pE.fr p).2 ⟨kD,hpn⟩));have hu:upT th c=c:=tX (λa=>h2 (by have:=a.2;rw[bK]at this;have:=g.two;omega));rw[hu];have gp:=g.vA;have g2:=g.two;refine .inl ⟨hx,hc,N,V,rest,k0,h,F,g.pE,g.l,g.fr,g.eV,g.old,g.new,by omega, ?_,by omega,by have:=g.len;omega⟩;have:F.length - 1=0:=by omega
 rw[this,Nat.zero_mul,add_zero]at gp;exact gp;have hu:upT th c=c:=tX (λa=>hx a.1);rw[hu];exact .inr ⟨hx,N,V,g.pE,by have:=g.len;omega,g.how⟩
theorem ya{th:Th}:∀(h:Nat) {s:S5} {t:TN h} {f:Nat} {ae:Int},zC th s->rep th s.m h t->pJ h t->2<=pg h t/\pg h t<1024->h<f->ae+(h:Int)<=16->
 yS th s.m f s.fs s.gn (pg h t) ae=0/\∃(h2:Nat) (t2:TN h2) (W:List Int),yR th s.m f s.fs s.gn (pg h t) ae=pg h2 t2/\(2<=pg h2 t2/\pg h2 t2<1024)/\sn th s ⟨s.m,s.fu,s.fr,xW th s.m f s.fs s.gn (pg h t) ae,xX th s.m f s.fs s.gn (pg h t) ae⟩ [] W/\
  rep th s.m h2 t2/\pJ h2 t2/\eV h2 t2=eV h t/\(nG h t).Perm (W++nG h2 t2)/\vA h2 t2<=vA h t/\h2<=h
 |0,s,t,f,ae,ho,hr,ht,hp,hf,hd=>by
  cases f with
  |zero=>omega
  |succ f=>
   have eR:Rd th s.m (pg 0 t) true t.2 []:=hr;have⟨e1,e2,e3,e4⟩:=eR.nd (ae:=ae) (by omega);have e:pL th s.m (f+1) s.fs s.gn (pg 0 t) ae=(s.fs,s.gn,pg 0 t,0):=by rw[pL,if_neg (by rw[e1];simp),if_pos (.inl e2)]
   refine⟨by unfold yS;rw[e],0,t,[],by unfold yR;rw[e],hp, ?_,hr,ht,rfl,List.Perm.refl _,le_refl _,le_refl _⟩;unfold xW xX;rw[e];exact iQ ho
 |h+1,s,t,f,ae,ho,hr,ht,hp,hf,hd=>by
  cases f with
  |zero=>omega
  |succ f=>
   have⟨n,Q⟩:=t;have⟨hr1,yz⟩:=(show Rd th s.m n false [] (Q.map (du h))/\∀k∈Q,rep th s.m h k.2 from hr);have⟨hQ,hQb,kv,cq,hsp,hT⟩:=(show Q≠[]/\cI Q=Q/\iq (Q.map (du h))=true/\nH h Q<=254/\adT h Q/\∀k∈Q,pJ h k.2 from ht);have⟨e1,e2,e3,e4⟩:=hr1.nd (ae:=ae) (by omega);show yS th s.m (f+1) s.fs s.gn n ae=0/\∃(h2:Nat) (t2:TN h2) (W:List Int),yR th s.m (f+1) s.fs s.gn n ae=pg h2 t2/\(2<=pg h2 t2/\pg h2 t2<1024)/\sn th s ⟨s.m,s.fu,s.fr,xW th s.m (f+1) s.fs s.gn n ae,xX th s.m (f+1) s.fs s.gn n ae⟩ [] W/\
    rep th s.m h2 t2/\pJ h2 t2/\eV h2 t2=cw h Q/\(n::cD h Q).Perm (W++nG h2 t2)/\vA h2 t2<=3^(h+1)*(19+ovr (nH h Q))+fN h Q/\h2<=h+1
   by_cases h1:Q.length=1
   match Q,h1 with
   |[k],_=>
    have kin:k∈[k]:=mem_cons_self
    have e:pL th s.m (f+1) s.fs s.gn n ae=pL th s.m f (jW s.fs n) (qE s.fs s.gn n) (pg h k.2) (ae+1):=by
     rw[pL,if_neg (by rw[e1];simp),if_neg (by rintro(a|a);rw[e2]at a;cases a;rw[e4]at a;exact a rfl),e4];rfl
    have l1:=aga ho n;have pk:2<=pg h k.2/\pg h k.2<1024:=((gP.1 kv).1 (du h k) (List.mem_map_of_mem kin)).2;have⟨a,h2,t2,W,b,b2,c,d,d2,d3,d4,d5,d6⟩:=ya h (s:=lvT s n) (t:=k.2) (f:=f) (ae:=ae+1) l1.ok (yz k kin) (hT k kin) pk (by omega) (by omega);refine⟨by unfold yS at a ⊢;rw[e];exact a,h2,t2,[n]++W,by unfold yR at b ⊢;rw[e];exact b,b2, ?_,d,d2, ?_, ?_, ?_,by omega⟩;have:=fL l1 c (λp _=>List.not_mem_nil);unfold xW xX at this ⊢;rw[e];exact this;show eV h2 t2=eV h k.2++[];rw[append_nil,d3];show(n::(nG h k.2++[])).Perm (n::(W++nG h2 t2));rw[append_nil];exact d4.cons n;show vA h2 t2<=3^(h+1)*(19+ovr (nH h [k]))+fN h [k];have:fN h [k]=vA h k.2:=by rw[jr];rfl
    omega
   have e:pL th s.m (f+1) s.fs s.gn n ae=(s.fs,s.gn,n,0):=by
    rw[pL,if_neg (by rw[e1];simp),if_pos (.inr (by rw[e4,length_map];exact h1))]
   refine⟨by unfold yS;rw[e],h+1,(n,Q),[],by unfold yR;rw[e];rfl,hp, ?_,hr,ht,rfl,List.Perm.refl _,le_refl _,le_refl _⟩;unfold xW xX;rw[e];exact iQ ho
structure Inv (F0:Int->Prop) (fr fs:Ws) (ps:List Int):Prop where
 nd:ps.Nodup
 cov:∀p,F0 p↔In fr p\/In fs p
 dis:∀p,In fr p->¬In fs p
 sub:∀p,In fs p->p∈ps
 top:∀p∈ps,F0 p->In fs p
structure TI (th:Th) (F0:Int->Prop) (m:As) (fu aa:Int) (fr fs gn:Ws) (h:Nat) (E:List En) (ps:List Int) (po:Nat):Prop where
 ok:zC th ⟨m,fu,fr,fs,gn⟩
 gz:gn=Bx.aL
 f0:∀p,F0 p->2<=p/\Ds.vn th p=true
 holds:ba th m aa h E ps po
 inv:Inv F0 fr fs ps
def Low(th:Th)(fu:Int)(fr:Ws)(m m':As)(b:Nat):Prop:=fu= -1->∃N:List Int,N.length<=b/\(∀p∈N,∀q,In fr q->q<p->q∈N)/\∀p,p ∉ N->Ds.gS th m' p=Ds.gS th m p/\Ds.fR th m' p=Ds.fR th m p
structure auw (th:Th) (ad:ByteArray) (op:Option ByteArray) (m:As) (fu:Int) (fr:Ws) (h:Nat) (E:List En) (m':As) (fJ e:Int):Prop where
 d:Ds.bz th m' fJ
 rd:∀p,¬In fr p->Ds.gS th m' p=Ds.gS th m p/\Ds.fR th m' p=Ds.fR th m p
 lo:Low th fu fr m m' 32
 sec:∀x:Int,¬In fr (x / 4)->cW m' x=cW m x
 fu:fu= -1->fJ= -1
 how:(e=5/\sH ad op E=5)\/(e=41/\∃N:List Int,N.length<=2*h+3/\∀p,In fr p->p∈N)\/(e=42/\fJ=0)
structure aeq (th:Th) (F0:Int->Prop) (ad:ByteArray) (op:Option ByteArray) (m:As) (fu:Int) (fr:Ws) (ps:List Int) (E:List En) (po:Nat) (r:Chs) (h':Nat) (ps':List Int) (po':Nat):Prop where
 ti:TI th F0 r.1 r.2.1 r.2.2.1 r.2.2.2.1 r.2.2.2.2.1 r.2.2.2.2.2.1 h' (lC ad op E) ps' po'
 po:po'<=po+opP op
 rd:∀p,¬F0 p->Ds.gS th r.1 p=Ds.gS th m p/\Ds.fR th r.1 p=Ds.fR th m p
 lo:Low th fu fr m r.1 32
 fu:fu= -1->r.2.1= -1
 new:∀p∈ps',p∈ps\/In fr p
 sec:∀x:Int,¬F0 (x / 4)->cW r.1 x=cW m x
theorem awW:∀(h:Nat) {t:TN (h+1)},19*3^(h+1)<=vA (h+1) t:=λh t=>by
 have:3^(h+1)*19<=3^(h+1)*(19+ovr (nH h t.2)):=Nat.mul_le_mul_left _ (by omega);rw[amX];omega
theorem ba.agj{th:Th}{m:As}{aa:Int}{h:Nat}{E:List En}{ps:List Int}{po:Nat}(H:ba th m aa h E ps po)(hp:po<19*3^15):h<=14:=by
 rcases H with⟨_,h2,_⟩|⟨t,_,_,_,_,_,_,_,h7⟩;omega;cases h with
 |zero=>omega
 |succ h=>
  have a:=awW h (t:=t);rw[<-h7]at a;have b:3^(h+1)<3^15:=by omega
  have:=(Nat.pow_lt_pow_iff_right (show 1<3 by omega)).1 b;omega
theorem TI.free{th:Th}{F0:Int->Prop}{m:As}{fu aa:Int}{fr fs gn:Ws}{h:Nat}{E:List En}{ps:List Int}{po:Nat}(T:TI th F0 m fu aa fr fs gn h E ps po):∀p∈ps,¬In fr p:=λp hp hf=>T.inv.dis p hf (T.inv.top p hp ((T.inv.cov p).2 (.inl hf)))
theorem aer{th:Th}{F0:Int->Prop}{s t u:S5}{N V W rest ps pk ps':List Int}(hf0:∀p,F0 p->2<=p/\Ds.vn th p=true)(hg:∀p,¬In s.gn p)(I:Inv F0 s.fr s.fs ps)(e1:sn th s t N V)(e2:sn th t u [] W)(o:ps.Perm (V++rest))(n:pk.Perm (N++rest))(l:pk.Perm (W++ps')):
 Inv F0 (Bx.cf .or u.fr u.gn) u.fs ps'/\zC th ⟨u.m,u.fu,Bx.cf .or u.fr u.gn,u.fs,Bx.aL⟩:=by
 have ho:=e2.ok;have frI:∀p,In (Bx.cf .or u.fr u.gn) p↔In u.fr p\/In u.gn p:=λp=>awg ho.fr ho.gn;have ufr:∀p,In u.fr p↔In s.fr p/\p ∉ N:=λp=>by rw[e2.fr,e1.fr];exact⟨λx=>x.1,λx=>⟨x,List.not_mem_nil⟩⟩
 have tfs:=e1.fs;have ufs:∀p,In u.fs p↔In t.fs p/\p ∉ W:=λp=>by rw[e2.fs];exact⟨λx=>x.elim id (λy=>by cases y),.inl⟩
 have ugn:∀p,In u.gn p↔(In s.fs p/\p∈V)\/(In t.fs p/\p∈W):=λp=>by
  rw[e2.gn,e1.gn];exact⟨λx=>x.elim (λy=>y.elim (λz=>absurd z (hg p)) .inl) .inr,λx=>x.elim (λy=>.inl (.inr y)) .inr⟩
 have ndo:=(o.nodup_iff).1 I.nd;have⟨nV,nR,dVR⟩:=nodup_append.1 ndo
 have ndn:(N++rest).Nodup:=nodup_append.2 ⟨e1.nd,nR,λa ha b hb hab=>by
  subst hab;have hps:a∈ps:=(o.mem_iff).2 (mem_append_right _ hb);have hfr:=e1.sub a ha;exact I.dis a hfr (I.top a hps ((I.cov a).2 (.inl hfr)))⟩
 have ndl:=(l.nodup_iff).1 ((n.nodup_iff).2 ndn);have⟨nW,nP,dWP⟩:=nodup_append.1 ndl
 have mem:∀p,(p∈N\/p∈rest)↔(p∈W\/p∈ps'):=λp=>by
  rw[<-mem_append,<-mem_append,<-n.mem_iff,l.mem_iff]
 have awX:∀p,F0 p↔In (Bx.cf .or u.fr u.gn) p\/In u.fs p:=λp=>by
  rw[I.cov,frI,ufr,ugn,ufs,tfs];constructor;rintro(a|a);by_cases hN:p∈N;by_cases hW:p∈W;exact .inl (.inr (.inr ⟨.inr hN,hW⟩));exact .inr ⟨.inr hN,hW⟩;exact .inl (.inl ⟨a,hN⟩);by_cases hV:p∈V;exact .inl (.inr (.inl ⟨a,hV⟩));by_cases hW:p∈W;exact .inl (.inr (.inr ⟨.inl ⟨a,hV⟩,hW⟩));exact .inr ⟨.inl ⟨a,hV⟩,hW⟩;rintro((a|a|⟨a|a,_⟩)|⟨a|a,_⟩);exact .inl a.1;exact .inr a.1;exact .inr a.1;exact .inl (e1.sub p a);exact .inr a.1;exact .inl (e1.sub p a)
 refine⟨⟨nP,awX,λp hp hq=> ?_,λp hp=> ?_,λp hp hf=> ?_⟩,⟨ho.d,(Bx.iL (.inl rfl) ho.fr ho.gn).1,ho.fs,Bx.fh.1,λp hp=>hf0 p ((awX p).2 (.inl hp))⟩⟩;rw[frI,ufr,ugn]at hp;rw[ufs,tfs]at hq;have⟨hq,hw⟩:=hq;rcases hp with⟨a,b⟩|⟨a,b⟩|⟨_,b⟩;rcases hq with⟨c,_⟩|c;exact I.dis p a c;exact b c;rcases hq with⟨_,c⟩|c;exact c b;exact I.dis p (e1.sub p c) a;exact hw b;rw[ufs,tfs]at hp;have⟨hp,hw⟩:=hp;have:p∈N\/p∈rest:=hp.elim (λx=>.inr ((mem_append.1 ((o.mem_iff).1 (I.sub p x.1))).resolve_left x.2)) .inl;exact((mem p).1 this).resolve_left hw;rw[ufs,tfs];have hw:p ∉ W:=λhw=>dWP p hw p hp rfl;refine⟨?_,hw⟩;rcases(mem p).2 (.inr hp)with a|a;exact .inr a;exact .inl ⟨I.top p ((o.mem_iff).2 (mem_append_right _ a)) hf,λhv=>dVR p hv p a rfl⟩
theorem aih{th:Th}{F0:Int->Prop}{m:As}{fu aa:Int}{fr fs gn:Ws}{h:Nat}{E:List En}{ps:List Int}{po:Nat}(T:TI th F0 m fu aa fr fs gn h E ps po):∀p,¬In gn p:=λp=>by rw[T.gz];exact eZ
theorem ar9{h:Nat}{l:List Br}{k0:ByteArray}{F:List (Kd h)}(e:l=l7 k0 (F.map (du h))):l.length=F.length:=by rw[e,xR,length_map]
theorem aqI{th:Th}{F0:Int->Prop}{ad:ByteArray}{op:Option ByteArray}{m:As}{fu aa:Int}{fr fs gn:Ws}{h:Nat}{E:List En}{ps:List Int}{po:Nat}(T:TI th F0 m fu aa fr fs gn h E ps po)(hh:h<=14){c:Chg}(hx:c.2.2.2.2.2.2=0){N V rest:List Int}{k0:ByteArray}{h2:Nat}
 (g:aif th ad op ⟨m,fu,fr,fs,gn⟩ (stC c) h E ps po c.2.2.2.2.2.1 N V rest k0 h2 []):∃r,kE th aa fr fs gn c=r/\r.2.2.2.2.2.2=0/\∃h' ps' po',aeq th F0 ad op m fu fr ps E po r h' ps' po':=by
 have ed2:kE th aa fr fs gn c=(c.1,c.2.1,0,Bx.cf .or c.2.2.1 c.2.2.2.2.1,c.2.2.2.1,Bx.aL,0):=by
  unfold kE oU;rw[if_neg (λa=>by rw[ar9 g.l]at a;cases a.2),if_neg (by rw[hx];simp)]
 have⟨I,ok⟩:=aer T.f0 (aih T) T.inv g.pE (iQ g.pE.ok) g.old (g.new) (ps':=[]) (by exact List.Perm.refl _);have hH:ba th c.1 0 0 (lC ad op E) [] 0:=.inl ⟨rfl,rfl,g.eV.symm,rfl,rfl⟩;have hrd:∀p,¬F0 p->Ds.gS th c.1 p=Ds.gS th m p/\Ds.fR th c.1 p=Ds.fR th m p:=λp hp=>g.pE.rd p (λhf=>hp ((T.inv.cov p).2 (.inl hf)));have hT:TI th F0 c.1 c.2.1 0 (Bx.cf .or c.2.2.1 c.2.2.2.2.1) c.2.2.2.1 Bx.aL 0 (lC ad op E) [] 0:=⟨ok,rfl,T.f0,hH,I⟩;exact⟨_,ed2,rfl,0,[],0,hT,zero_le _,hrd,λhf=>⟨N,by have:=g.len;omega,g.pE.lo hf⟩,g.pE.fu,λp hp=>(by cases hp),λx hx=>g.pE.sec x (λhf=>hx ((T.inv.cov _).2 (.inl hf)))⟩
theorem aqJ{th:Th}{F0:Int->Prop}{ad:ByteArray}{op:Option ByteArray}{m:As}{fu aa:Int}{fr fs gn:Ws}{h:Nat}{E:List En}{ps:List Int}{po:Nat}(T:TI th F0 m fu aa fr fs gn h E ps po)(hh:h<=14){c:Chg}(hx:c.2.2.2.2.2.2=0){N V rest:List Int}{k0:ByteArray}{h2:Nat}{k:Kd h2}
 (g:aif th ad op ⟨m,fu,fr,fs,gn⟩ (stC c) h E ps po c.2.2.2.2.2.1 N V rest k0 h2 [k]):∃r,kE th aa fr fs gn c=r/\r.2.2.2.2.2.2=0/\∃h' ps' po',aeq th F0 ad op m fu fr ps E po r h' ps' po':=by
 have kin:k∈[k]:=mem_cons_self;have awY:(c.2.2.2.2.2.1.getD 0 dB).2.1=pg h2 k.2:=by rw[g.l];rfl
 have hb2:h2<=15:=by have:=g.hh;omega
 have⟨a,h3,t3,W,b,b2,cc,d1,d2,d3,d4,d5,d6⟩:=ya h2 (s:=stC c) (t:=k.2) (f:=17) (ae:=1) g.pE.ok (g.fr.rep k kin) (g.fr.ok k kin) (g.fr.pg k kin) (by omega) (by omega)
 have ed2:kE th aa fr fs gn c=(c.1,c.2.1,pg h3 t3,Bx.cf .or c.2.2.1 (xX th c.1 17 c.2.2.2.1 c.2.2.2.2.1 (pg h2 k.2) 1),xW th c.1 17 c.2.2.2.1 c.2.2.2.2.1 (pg h2 k.2) 1,Bx.aL,0):=by
  unfold kE oU;have b':yR th c.1 17 c.2.2.2.1 c.2.2.2.2.1 (pg h2 k.2) 1=pg h3 t3:=b;have a':yS th c.1 17 c.2.2.2.1 c.2.2.2.2.1 (pg h2 k.2) 1=0:=a;rw[if_pos ⟨hx,ar9 g.l⟩,awY,a',b',if_neg (by simp)]
 have hn:(nG h2 k.2).Perm (N++rest):=by
  have:=g.new;rw[kO]at this;exact(append_nil (nG h2 k.2))▸this
 have⟨I,ok⟩:=aer T.f0 (aih T) T.inv g.pE cc g.old hn d4
 have hE:eV h3 t3=lC ad op E:=by
  rw[d3,<-g.eV,jq];exact(append_nil _).symm
 have hpo:vA h3 t3<=po+opP op:=by
  have:=g.vA;rw[jr]at this;have e0:fN h2 ([]:List (Kd h2))=0:=rfl;omega
 have hH:ba th c.1 (pg h3 t3) h3 (lC ad op E) (nG h3 t3) (vA h3 t3):=.inr ⟨t3,rfl,b2.1,b2.2,d1,d2,hE.symm,rfl,rfl⟩;have hrd:∀p,¬F0 p->Ds.gS th c.1 p=Ds.gS th m p/\Ds.fR th c.1 p=Ds.fR th m p:=λp hp=>g.pE.rd p (λhf=>hp ((T.inv.cov p).2 (.inl hf)));have hT:TI th F0 c.1 c.2.1 (pg h3 t3) (Bx.cf .or c.2.2.1 (xX th c.1 17 c.2.2.2.1 c.2.2.2.2.1 (pg h2 k.2) 1)) (xW th c.1 17 c.2.2.2.1 c.2.2.2.2.1 (pg h2 k.2) 1) Bx.aL h3 (lC ad op E) (nG h3 t3) (vA h3 t3):=⟨ok,rfl,T.f0,hH,I⟩;exact⟨_,ed2,rfl,h3,nG h3 t3,vA h3 t3,hT,hpo,hrd,λhf=>⟨N,by have:=g.len;omega,g.pE.lo hf⟩,g.pE.fu,λp hp=>(mem_append.1 ((hn.mem_iff).1 ((d4.mem_iff).2 (mem_append_right _ hp)))).elim (λx=>.inr (g.pE.sub p x)) (λx=>.inl ((g.old.mem_iff).2 (mem_append_right _ x))),λx hx=>g.pE.sec x (λhf=>hx ((T.inv.cov _).2 (.inl hf)))⟩
theorem aqK{th:Th}{F0:Int->Prop}{ad:ByteArray}{op:Option ByteArray}{m:As}{fu aa:Int}{fr fs gn:Ws}{h:Nat}{E:List En}{ps:List Int}{po:Nat}(T:TI th F0 m fu aa fr fs gn h E ps po)(hh:h<=14){c:Chg}(hx:c.2.2.2.2.2.2≠0){N V:List Int}(g:auv th ad op ⟨m,fu,fr,fs,gn⟩ (stC c) h E c.2.2.2.2.2.2 N V):
 ∃m' fJ e,e≠0/\kE th aa fr fs gn c=(m',fJ,aa,fr,fs,gn,e)/\auw th ad op m fu fr h E m' fJ e:=by
 refine⟨c.1,c.2.1,c.2.2.2.2.2.2,hx, ?_,g.pE.ok.d,λp hp=>g.pE.rd p hp,λhf=>⟨N,by have:=g.len;omega,g.pE.lo hf⟩,g.pE.sec,g.pE.fu, ?_⟩;unfold kE oU;rw[if_neg (λa=>hx a.1),if_pos hx];exact g.how.imp id (λx=>x.imp (λy=>⟨y.1,N,g.len,y.2⟩) id)
theorem aj1{th:Th}{F0:Int->Prop}{ad:ByteArray}{op:Option ByteArray}{m:As}{fu aa:Int}{fr fs gn:Ws}{h:Nat}{E:List En}{ps:List Int}{po:Nat}(T:TI th F0 m fu aa fr fs gn h E ps po)(hh:h<=14){c:Chg}
 (H2:(c.2.2.2.2.2.2=0/\sH ad op E=0/\∃N V rest k0 h2 F,aif th ad op ⟨m,fu,fr,fs,gn⟩ (stC c) h E ps po c.2.2.2.2.2.1 N V rest k0 h2 F)\/(c.2.2.2.2.2.2≠0/\∃N V,auv th ad op ⟨m,fu,fr,fs,gn⟩ (stC c) h E c.2.2.2.2.2.2 N V)):
 ((kE th aa fr fs gn c).2.2.2.2.2.2=0/\sH ad op E=0/\∃h' ps' po',aeq th F0 ad op m fu fr ps E po (kE th aa fr fs gn c) h' ps' po')\/
 (∃m' fJ e,e≠0/\kE th aa fr fs gn c=(m',fJ,aa,fr,fs,gn,e)/\auw th ad op m fu fr h E m' fJ e):=by
 rcases H2 with⟨hx,hc,N,V,rest,k0,h2,F,g⟩|⟨hx,N,V,g⟩;left;rcases F with _|⟨k,_|⟨k2,r⟩⟩;have⟨r,e,h1,h2⟩:=aqI T hh hx g;rw[e];exact⟨h1,hc,h2⟩;have⟨r,e,h1,h2⟩:=aqJ T hh hx g;rw[e];exact⟨h1,hc,h2⟩;exact absurd g.one (by simp);exact .inr (aqK T hh hx g)
theorem anL{th:Th}{F0:Int->Prop}{ad:ByteArray}{op:Option ByteArray}{m:As}{fu aa:Int}{fr fs gn:Ws}{h:Nat}{E:List En}{ps:List Int}{po:Nat}(T:TI th F0 m fu aa fr fs gn h E ps po)(hk:1<=ad.size/\ad.size<=24)(hv:∀v,op=some v->v.size<=100)(hh:h<=14):
 ((lL th ad op m fu aa fr fs gn).2.2.2.2.2.2=0/\sH ad op E=0/\∃h' ps' po',aeq th F0 ad op m fu fr ps E po (lL th ad op m fu aa fr fs gn) h' ps' po')\/
 (∃m' fJ e,e≠0/\lL th ad op m fu aa fr fs gn=(m',fJ,aa,fr,fs,gn,e)/\auw th ad op m fu fr h E m' fJ e):=
 aj1 T hh (aqH (c:=jO th ad op m fu aa fr fs gn) T.free (anK (s:=⟨m,fu,fr,fs,gn⟩) (ad:=ad) (op:=op) hk hv T.ok T.holds T.free (by omega)))
def tZ{σ:Type}(on:σ->Int->List En->σ):(h:Nat)->TN h->σ->σ
 |0,t,out=>on out t.1 t.2
 |h+1,t,out=>t.2.foldl (λo k=>tZ on h k.2 o) (on out t.1 [])
theorem aes{X:List En}{ad:ByteArray}(h:∀x∈X,x.1≠ad):X.find? (yJ ad)=none:=by
 rw[List.find?_eq_none];intro x hx;simp[yJ,h x hx]
theorem aqL{X Y Z:List En}{ad:ByteArray}(h1:∀x∈X,slt x.1 ad=true)(h2:∀z∈Z,slt ad z.1=true):oQ (X++Y++Z) ad=oQ Y ad/\nj (X++Y++Z) ad=nj Y ad:=by
 have e1:=aes (X:=X) (ad:=ad) λx hx e=>by have:=h1 x hx;rw[e,eI]at this;cases this
 have e2:=aes (X:=Z) (ad:=ad) λx hx e=>by have:=h2 x hx;rw[e,eI]at this;cases this
 have e:(X++Y++Z).find? (yJ ad)=Y.find? (yJ ad):=by
  rw[List.find?_append,List.find?_append,e1,e2];cases Y.find? (yJ ad)<;>rfl
 unfold oQ nj;rw[e];exact⟨rfl,rfl⟩
theorem aet{th:Th}{m:As}{ad:ByteArray}:∀(h:Nat) {t:TN h} {f:Nat} {ae:Int},rep th m h t->pJ h t->h<f->ae+(h:Int)<=16->abR th m ad f (pg h t) ae=(oQ (eV h t) ad,nj (eV h t) ad,0)
 |0,t,f,ae,hr,ht,hf,hd=>by
  cases f with
  |zero=>omega
  |succ f=>
   have eR:Rd th m (pg 0 t) true t.2 []:=hr;have⟨e1,e2,e3,e4⟩:=eR.nd (ae:=ae) (by omega);rw[abR,if_neg (by rw[e1];simp),if_pos e2,e3];rfl
 |h+1,t,f,ae,hr,ht,hf,hd=>by
  cases f with
  |zero=>omega
  |succ f=>
   have⟨n,Q⟩:=t;have⟨hr1,yz⟩:=(show Rd th m n false [] (Q.map (du h))/\∀k∈Q,rep th m h k.2 from hr);have⟨hQ,hQb,kv,cq,hsp,hT⟩:=(show Q≠[]/\cI Q=Q/\iq (Q.map (du h))=true/\nH h Q<=254/\adT h Q/\∀k∈Q,pJ h k.2 from ht);have⟨e1,e2,e3,e4⟩:=hr1.nd (ae:=ae) (by omega);have⟨A,k,B,eQ,ep,uQ,ri⟩:=aeo (ad:=ad) hQ hQb kv;have cX:Q.map (du h)≠[]:=by cases Q with|nil=>exact absurd rfl hQ|cons q r=>simp
   have egd:(Q.map (du h)).getD A.length dB=du h k:=by rw[eQ];simp[List.getD]
   have kin:k∈Q:=by rw[eQ];exact mem_append_right _ mem_cons_self
   show abR th m ad (f+1) n ae=(oQ (cw h Q) ad,nj (cw h Q) ad,0);rw[abR,if_neg (by rw[e1];simp),if_neg (by rw[e2];simp),e4,if_neg cX,ep,egd];have ih:=aet (ad:=ad) h (f:=f) (ae:=ae+1) (yz k kin) (hT k kin) (by omega) (by omega);show abR th m ad f (pg h k.2) (ae+1)=_;rw[ih];have sAB:=hsp.1;rw[eQ,List.pairwise_append]at sAB
   have eAk:∀x∈cw h A,slt x.1 ad=true:=λx hx=>by
    have⟨y,hy,hxy⟩:=mem_flatMap.1 hx;exact fD (sAB.2.2 y hy k mem_cons_self x hxy) uQ
   have eBk:∀x∈cw h B,slt ad x.1=true:=λx hx=>by
    have⟨y,hy,hxy⟩:=mem_flatMap.1 hx;exact fD (ri y hy) (hsp.2 y (by rw[eQ];exact mem_append_right _ (mem_cons_of_mem _ hy)) x hxy)
   have e:cw h Q=cw h A++eV h k.2++cw h B:=by rw[eQ,kN,jq,append_assoc]
   have⟨f1,f2⟩:=aqL (Y:=eV h k.2) eAk eBk;rw[e,f1,f2]
theorem aqM{th:Th}{m:As}{aa:Int}{ad:ByteArray}{h:Nat}{E:List En}{ps:List Int}{po:Nat}(H:ba th m aa h E ps po)(hh:h<=15):gtT th m aa ad=if iR ad none=false then(empty,false,1)else(oQ E ad,nj E ad,0):=by
 unfold gtT;split;rfl;rcases H with⟨h1,_,h3,_⟩|⟨t,h1,h2,_,h3,h4,h5,_⟩;rw[if_pos h1,h3];rfl;rw[if_neg (by omega),h1,aet h h3 h4 (by omega) (by omega),h5]
theorem aeu{σ:Type}{g:Ws->σ->Int->Ws×σ×Int}{h:Nat}{step:TN h->σ->σ}:∀(ks:List (Kd h)) {bR:Ws} {out:σ},Bx.okW bR->
 (∀k∈ks,∀(bR:Ws) (out:σ),Bx.okW bR->(∀p∈nG h k.2,¬In bR p)->∃ua,g bR out (pg h k.2)=(ua,step k.2 out,0)/\Bx.okW ua/\∀p,In ua p↔In bR p\/p∈nG h k.2)->
 (∀p∈cD h ks,¬In bR p)->(cD h ks).Nodup->∃ua,sw g (ks.map (du h)) bR out=(ua,ks.foldl (λo k=>step k.2 o) out,0)/\Bx.okW ua/\∀p,In ua p↔In bR p\/p∈cD h ks
 |[],bR,out,hw,hg,hm,hn=>⟨bR,rfl,hw,λp=>⟨.inl,λx=>x.elim id (λy=>by cases y)⟩⟩
 |k::r,bR,out,hw,hg,hm,hn=>by
  rw[kO]at hm hn;have⟨n1,n2,n3⟩:=nodup_append.1 hn;have⟨m1,e1,w1,i1⟩:=hg k mem_cons_self bR out hw (λp hp=>hm p (List.mem_append_left _ hp))
  have⟨m2,e2,w2,i2⟩:=aeu r (bR:=m1) (out:=step k.2 out) w1 (λk' hk'=>hg k' (mem_cons_of_mem _ hk')) (λp hp dv=>by
   rcases(i1 p).1 dv with a|a;exact hm p (mem_append_right _ hp) a;exact n3 p a p hp rfl) n2
  refine⟨m2, ?_,w2,λp=> ?_⟩;rw[map_cons,sw];show(if(g bR out (pg h k.2)).2.2≠0 then _ else _)=_;rw[e1,if_neg (by simp)];show sw g (r.map (du h)) (g bR out (pg h k.2)).1 (g bR out (pg h k.2)).2.1=_;rw[e1];exact e2;rw[i2,i1,kO,mem_append,or_assoc]
theorem aj2{h:Nat}{ks:List (Kd h)}(hn:(cD h ks).Nodup){k:Kd h}(hk:k∈ks):(nG h k.2).Nodup:=by
 induction ks with
 |nil=>cases hk
 |cons a r ih=>
  rw[kO]at hn;have⟨n1,n2,_⟩:=nodup_append.1 hn;rcases mem_cons.1 hk with rfl|hk;exact n1;exact ih n2 hk
theorem yb{σ:Type}{on:σ->Int->List En->σ}{th:Th}{m:As}:∀(h:Nat) {t:TN h} {f:Nat} {ae:Int} {bR:Ws} {out:σ},rep th m h t->pJ h t->(2<=pg h t/\pg h t<1024)->h<f->ae+(h:Int)<=16->Bx.okW bR->(∀p∈nG h t,¬In bR p)->(nG h t).Nodup->
 ∃ua,ej on th m f ae bR out (pg h t)=(ua,tZ on h t out,0)/\Bx.okW ua/\∀p,In ua p↔In bR p\/p∈nG h t
 |0,t,f,ae,bR,out,hr,ht,hp,hf,hd,hw,hm,hn=>by
  cases f with
  |zero=>omega
  |succ f=>
   have eR:Rd th m (pg 0 t) true t.2 []:=hr;have⟨e1,e2,e3,e4⟩:=eR.nd (ae:=ae) (by omega);have hnm:¬Bx.mL bR (pg 0 t)=true:=hm _ (qK 0 t);refine⟨Bx.dz bR (pg 0 t), ?_,(Bx.gO hw _).1,λp=> ?_⟩;rw[ej,if_neg (by rw[e1];simp),if_neg hnm,e4,e3];rfl;rw[pC hw (by omega)];show _↔In bR p\/p∈[t.1];rw[mem_singleton];rfl
 |h+1,t,f,ae,bR,out,hr,ht,hp,hf,hd,hw,hm,hn=>by
  cases f with
  |zero=>omega
  |succ f=>
   have⟨n,Q⟩:=t;have⟨hr1,yz⟩:=(show Rd th m n false [] (Q.map (du h))/\∀k∈Q,rep th m h k.2 from hr);have⟨hQ,hQb,kv,cq,hsp,hT⟩:=(show Q≠[]/\cI Q=Q/\iq (Q.map (du h))=true/\nH h Q<=254/\adT h Q/\∀k∈Q,pJ h k.2 from ht);have⟨e1,e2,e3,e4⟩:=hr1.nd (ae:=ae) (by omega);have hp:2<=n/\n<1024:=hp;have hm:∀p∈n::cD h Q,¬In bR p:=hm;have hn:(n::cD h Q).Nodup:=hn;have⟨hn1,uO⟩:=List.nodup_cons.1 hn;have hnm:¬Bx.mL bR n=true:=hm n mem_cons_self;have iw:=λp=>pC (k:=p) hw (n:=n) (by omega);have⟨m2,ee,w2,i2⟩:=aeu (g:=ej on th m f (ae+1)) (step:=tZ on h) Q (bR:=Bx.dz bR n) (out:=on out n []) (Bx.gO hw n).1
    (λk hk bR out hw hm=>by
      have hkn:(nG h k.2).Nodup:=by
       exact aj2 uO hk
      exact yb h (yz k hk) (hT k hk) ((gP.1 kv).1 (du h k) (List.mem_map_of_mem hk)).2 (by omega) (by omega) hw hm hkn)
    (λp kD dv=>by
      rcases(iw p).1 dv with a|a;exact hm p (mem_cons_of_mem _ kD) a;exact hn1 (by rw[<-a];exact kD)) uO
   refine⟨m2, ?_,w2,λp=> ?_⟩;show ej on th m (f+1) ae bR out n=_;rw[ej,if_neg (by rw[e1];simp),if_neg hnm,e4,e3];exact ee;rw[i2,iw];show _↔In bR p\/p∈n::cD h Q;rw[mem_cons,or_assoc]
theorem anM(ax:ByteArray):∀(h:Nat) (t:TN h) (out:List En),tZ (sC ax) h t out=out++(eV h t).filter (geE ax)
 |0,t,out=>rfl
 |h+1,t,out=>by
  have⟨n,Q⟩:=t;show Q.foldl (λo k=>tZ (sC ax) h k.2 o) (out++[])=out++(cw h Q).filter (geE ax);rw[append_nil];clear n
  induction Q generalizing out with
  |nil=>simp[cw]
  |cons k r ih=>
   rw[List.foldl_cons,ih,anM ax h,jq,List.filter_append,append_assoc]
theorem aii{h:Nat}(H:∀(t:TN h) (out:Ws),Bx.okW out->pJ h t->(2<=pg h t/\pg h t<1024)->Bx.okW (tZ pM h t out)/\∀p,In (tZ pM h t out) p↔In out p\/p∈nG h t):
 ∀(ks:List (Kd h)) (out:Ws),Bx.okW out->(∀k∈ks,pJ h k.2/\(2<=pg h k.2/\pg h k.2<1024))->Bx.okW (ks.foldl (λo k=>tZ pM h k.2 o) out)/\∀p,In (ks.foldl (λo k=>tZ pM h k.2 o) out) p↔In out p\/p∈cD h ks
 |[],out,hw,_=>⟨hw,λp=>⟨.inl,λx=>x.elim id (λy=>by cases y)⟩⟩
 |k::r,out,hw,hk=>by
  have⟨a,b⟩:=hk k mem_cons_self;have⟨w1,i1⟩:=H k.2 out hw a b;have⟨w2,i2⟩:=aii H r _ w1 (λk' hk'=>hk k' (mem_cons_of_mem _ hk'));refine⟨w2,λp=> ?_⟩;rw[List.foldl_cons,i2,i1,kO,mem_append,or_assoc]
theorem auy(h:Nat):∀(t:TN h) (out:Ws),Bx.okW out->pJ h t->(2<=pg h t/\pg h t<1024)->Bx.okW (tZ pM h t out)/\∀p,In (tZ pM h t out) p↔In out p\/p∈nG h t:=by
 induction h with
 |zero=>
  intro t out hw ht hp;have hp:2<=t.1/\t.1<1024:=hp;refine⟨(Bx.gO hw _).1,λp=> ?_⟩;show In (Bx.dz out t.1) p↔_;rw[pC hw (by omega)];show _↔In out p\/p∈[t.1];rw[mem_singleton]
 |succ h ih=>
  intro t out hw ht hp;have⟨n,Q⟩:=t;have hp:2<=n/\n<1024:=hp;have⟨hQ,hQb,kv,cq,hsp,hT⟩:=(show Q≠[]/\cI Q=Q/\iq (Q.map (du h))=true/\nH h Q<=254/\adT h Q/\∀k∈Q,pJ h k.2 from ht);have hpk:∀k∈Q,2<=pg h k.2/\pg h k.2<1024:=λk hk=>((gP.1 kv).1 (du h k) (List.mem_map_of_mem hk)).2;have⟨w,i⟩:=aii ih Q (Bx.dz out n) (Bx.gO hw n).1 (λk hk=>⟨hT k hk,hpk k hk⟩);have e:tZ pM (h+1) ((n,Q):TN (h+1)) out=Q.foldl (λo k=>tZ pM h k.2 o) (Bx.dz out n):=rfl;have e2:nG (h+1) ((n,Q):TN (h+1))=n::cD h Q:=rfl;rw[e,e2];refine⟨w,λp=> ?_⟩;rw[i,pC hw (by omega),mem_cons,or_assoc]
theorem aj3{th:Th}{m:As}{aa:Int}{h:Nat}{E:List En}{ps:List Int}{po:Nat}(H:ba th m aa h E ps po)(hn:ps.Nodup)(hh:h<=15)(ax:ByteArray):yW th m aa ax=0/\qV th m aa ax=E.filter (geE ax):=by
 have ad:wkT (sC ax) th m aa []=(E.filter (geE ax),0):=by
  unfold wkT;rcases H with⟨h1,_,h3,_⟩|⟨t,h1,h2,h22,h3,h4,h5,h6,_⟩;rw[if_pos h1,h3];rfl;subst h5 h6;have⟨ua,e,_⟩:=yb (on:=sC ax) h (f:=17) (ae:=1) (bR:=Bx.aL) (out:=[]) h3 h4 (by omega) (by omega) (by omega) Bx.fh.1 (λp _=>eZ) hn;rw[if_neg (by omega),h1,e,anM];rfl
 have e1:yW th m aa ax=0:=by unfold yW;rw[ad]
 refine⟨e1, ?_⟩;unfold qV;rw[if_neg (by rw[e1];simp)];unfold lsT;rw[ad]
theorem qO{th:Th}{m:As}{aa:Int}{h:Nat}{E:List En}{ps:List Int}{po:Nat}(H:ba th m aa h E ps po)(hn:ps.Nodup)(hh:h<=15):sI th m aa=0/\Bx.okW (dT th m aa)/\∀p,In (dT th m aa) p↔p∈ps:=by
 have ad:(wkT pM th m aa Bx.aL).2=0/\Bx.okW (wkT pM th m aa Bx.aL).1/\∀p,In (wkT pM th m aa Bx.aL).1 p↔p∈ps:=by
  unfold wkT;rcases H with⟨h1,_,_,h4,_⟩|⟨t,h1,h2,h22,h3,h4,h5,h6,_⟩;rw[if_pos h1,h4];exact⟨rfl,Bx.fh.1,λp=>⟨λx=>absurd x eZ,λx=>by cases x⟩⟩;subst h5 h6;have⟨ua,e,_⟩:=yb (on:=pM) h (f:=17) (ae:=1) (bR:=Bx.aL) (out:=Bx.aL) h3 h4 (by omega) (by omega) (by omega) Bx.fh.1 (λp _=>eZ) hn;have⟨w,i⟩:=auy h t Bx.aL Bx.fh.1 h4 (by omega);rw[if_neg (by omega),h1,e];exact⟨rfl,w,λp=>by rw[i];exact⟨λx=>x.elim (λy=>absurd y eZ) id,.inr⟩⟩
 have e1:sI th m aa=0:=ad.1;refine⟨e1, ?_⟩;unfold dT;rw[if_neg (by rw[e1];simp)];exact ad.2
theorem uc{α:Type}[DecidableEq α]:∀{l m:List α},l.Nodup->(∀x∈l,x∈m)->l.length<=m.length
 |[],m,_,_=>zero_le _
 |a::l,m,hn,hs=>by
  have⟨h1,h2⟩:=List.nodup_cons.1 hn;have ha:=hs a mem_cons_self;have:=uc (l:=l) (m:=m.erase a) h2 λx hx=>(List.mem_erase_of_ne (λe=>h1 (by rw[<-e];exact hx))).2 (hs x (mem_cons_of_mem _ hx));rw[List.length_erase_of_mem ha]at this;have:=List.length_pos_of_mem ha;rw[length_cons];omega
theorem aev{ws:Ws}{k:Nat}:k∈Bx.af0 ws↔k<1024/\Bx.bit ws k=true:=by
 unfold Bx.af0 Bx.fr;rw[List.mem_filter,mem_range]
theorem agk(ws:Ws):(Bx.af0 ws).Nodup:=List.Pairwise.filter _ List.nodup_range
theorem vF{ws:Ws}(hw:Bx.okW ws){N:List Int}(h:∀p,In ws p->p∈N):ir ws<=N.length:=by
 unfold ir;rw[<-length_map (f:=λ(k:Nat)=>(k:Int))];refine uc ?_ λx hx=> ?_;unfold List.Nodup;rw[List.pairwise_map];exact(agk ws).imp λh e=>h (by omega);obtain⟨k,hk,rfl⟩:=mem_map.1 hx;have⟨a,b⟩:=aev.1 hk;exact h _ ((eY hw).2 ⟨⟨by omega,by omega⟩,by rw[toNat_natCast];exact b⟩)
theorem aqN{ws:Ws}(hw:Bx.okW ws){N:List Int}(hn:N.Nodup)(h:∀p∈N,In ws p):N.length<=ir ws:=by
 unfold ir;rw[<-length_map (f:=λ(k:Nat)=>(k:Int))];refine uc hn λx hx=> ?_;have⟨a,b⟩:=(eY hw).1 (h x hx);exact mem_map.2 ⟨x.toNat,aev.2 ⟨by omega,b⟩,by omega⟩
theorem aj4{a b c:Ws}(ha:Bx.okW a)(hb:Bx.okW b)(hc:Bx.okW c)(h:∀p,In c p↔In a p\/In b p)(hd:∀p,In a p->¬In b p):ir c=ir a+ir b:=by
 have bits:∀k,k<1024->Bx.bit c k=(Bx.bit a k||Bx.bit b k)/\¬(Bx.bit a k=true/\Bx.bit b k=true):=λk hk=>by
  have hr:(0:Int)<=(k:Int)/\(k:Int)<1024:=⟨by omega,by omega⟩
  have e:∀{ws:Ws},Bx.okW ws->(In ws (k:Int)↔Bx.bit ws k=true):=λhw=>by
   rw[eY hw,toNat_natCast];exact⟨λx=>x.2,λx=>⟨hr,x⟩⟩
  have h1:=h (k:Int);have h2:=hd (k:Int);rw[e ha,e hb]at h1;rw[e hc]at h1;rw[e ha,e hb]at h2;refine⟨?_,λx=>h2 x.1 x.2⟩;cases e1:Bx.bit a k<;>cases e2:Bx.bit b k<;>cases e3:Bx.bit c k<;>simp[e1,e2,e3]at h1 ⊢
 have ad:∀m,m<=1024->(Bx.fr (Bx.bit c) m).length=(Bx.fr (Bx.bit a) m).length+(Bx.fr (Bx.bit b) m).length:=by
  intro m
  induction m with
  |zero=>intro _;rfl
  |succ m ih=>
   intro hm;have⟨b1,b2⟩:=bits m (by omega);have:=ih (by omega);rw[Bx.r7,Bx.r7,Bx.r7,length_append,length_append,length_append,b1];cases e1:Bx.bit a m<;>cases e2:Bx.bit b m<;>simp[e1,e2]at b2 ⊢ <;>omega
 exact ad 1024 (le_refl _)
theorem abW{ws:Ws}(hw:Bx.okW ws):Bx.iM ws=(ir ws:Int):=Bx.apI hw.1
theorem TI.cnt{th:Th}{F0:Int->Prop}{m:As}{fu aa:Int}{fr fs gn:Ws}{h:Nat}{E:List En}{ps:List Int}{po:Nat}(T:TI th F0 m fu aa fr fs gn h E ps po){f0:Ws}(hw:Bx.okW f0)(hf:∀p,In f0 p↔F0 p):ir f0=ir fr+ir fs/\ir fs<=ps.length:=
 ⟨aj4 T.ok.fr T.ok.fs hw (λp=>by rw[hf,T.inv.cov]) T.inv.dis,vF T.ok.fs T.inv.sub⟩
theorem agl{E:List En}{ad v:ByteArray}:(bX E ad v).length<=E.length+1:=by rw[abC];split<;>omega
theorem agm{E:List En}{ad:ByteArray}{op:Option ByteArray}:(lC ad op E).length<=E.length+(match op with|some _=>1|none=>0):=by
 cases op with
 |some v=>exact agl
 |none=>exact List.length_filter_le _ _
structure ayM (th:Th) (ad:ByteArray) (op:Option ByteArray) (m:As) (fu:Int) (fr:Ws) (h:Nat) (E:List En) (m':As) (fJ e:Int):Prop where
 d:Ds.bz th m' fJ
 rd:∀p,¬In fr p->Ds.gS th m' p=Ds.gS th m p/\Ds.fR th m' p=Ds.fR th m p
 lo:Low th fu fr m m' 32
 sec:∀x:Int,¬In fr (x / 4)->cW m' x=cW m x
 fu:fu= -1->fJ= -1
 how:(iR ad op=false/\e=1)\/(iR ad op=true/\((e=5/\sH ad op E=5)\/(e=41/\ir fr<=2*h+3)\/(e=42/\fJ=0)))
theorem anN{ad:ByteArray}{op:Option ByteArray}:iR ad op=true↔(1<=ad.size/\ad.size<=24)/\∀v,op=some v->v.size<=100:=by
 cases op with
 |none=>
  simp only[iR,and_eq_true,decide_eq_true_eq];exact⟨λh=>⟨h,λv e=>by cases e⟩,λh=>h.1⟩
 |some v=>
  simp only[iR,and_eq_true,decide_eq_true_eq];exact⟨λh=>⟨h.1,λw e=>by cases e;exact h.2⟩,λh=>⟨h.1,h.2 v rfl⟩⟩
theorem aqO{th:Th}{F0:Int->Prop}{ad:ByteArray}{op:Option ByteArray}{m:As}{fu aa:Int}{fr fs gn:Ws}{h:Nat}{E:List En}{ps:List Int}{po:Nat}(T:TI th F0 m fu aa fr fs gn h E ps po)(hh:h<=14):
 ((opT th ad op m fu aa fr fs gn).2.2.2.2.2.2=0/\iR ad op=true/\sH ad op E=0/\∃h' ps' po',aeq th F0 ad op m fu fr ps E po (opT th ad op m fu aa fr fs gn) h' ps' po')\/
 (∃m' fJ e,e≠0/\opT th ad op m fu aa fr fs gn=(m',fJ,aa,fr,fs,gn,e)/\ayM th ad op m fu fr h E m' fJ e):=by
 by_cases hk:iR ad op=true;rw[abQ hk];have⟨k1,k2⟩:=anN.1 hk;rcases anL (ad:=ad) (op:=op) T k1 k2 hh with⟨a,b,c⟩|⟨m',fJ,e,a,b,c⟩;exact .inl ⟨a,hk,b,c⟩;refine .inr ⟨m',fJ,e,a,b,c.d,c.rd,c.lo,c.sec,c.fu,.inr ⟨hk, ?_⟩⟩;rcases c.how with x|⟨x,N,y,z⟩|x;exact .inl x;exact .inr (.inl ⟨x,le_trans (vF T.ok.fr z) y⟩);exact .inr (.inr x);have hk:iR ad op=false:=by simpa using hk
 exact .inr ⟨m,fu,1,by decide,agd hk,T.ok.d,λp _=>⟨rfl,rfl⟩,λ_=>⟨[],zero_le _,λp hp=>(by cases hp),λp _=>⟨rfl,rfl⟩⟩,λ_ _=>rfl,id,.inl ⟨hk,rfl⟩⟩
theorem aew{th:Th}{m m':As}:∀(h:Nat) {t:TN h},rep th m h t->(∀p∈nG h t,Ds.gS th m' p=Ds.gS th m p/\Ds.fR th m' p=Ds.fR th m p)->rep th m' h t
 |0,t,hr,hp=>Rd.same hr (hp _ (qK 0 t))
 |h+1,t,hr,hp=>⟨Rd.same hr.1 (hp _ (qK (h+1) t)),λk hk=>aew h (hr.2 k hk) λp kD=>hp p (mem_cons_of_mem _ (mem_flatMap.2 ⟨k,hk,kD⟩))⟩
theorem ba.same{th:Th}{m m':As}{aa:Int}{h:Nat}{E:List En}{ps:List Int}{po:Nat}(H:ba th m aa h E ps po)(hp:∀p∈ps,Ds.gS th m' p=Ds.gS th m p/\Ds.fR th m' p=Ds.fR th m p):ba th m' aa h E ps po:=by
 rcases H with H|⟨t,h1,h2,h22,h3,h4,h5,h6,h7⟩;exact .inl H;subst h6;exact .inr ⟨t,h1,h2,h22,aew h h3 hp,h4,h5,rfl,h7⟩
theorem TI.fq{th:Th}{F0:Int->Prop}{m m':As}{fu fJ aa:Int}{fr fs gn:Ws}{h:Nat}{E:List En}{ps:List Int}{po:Nat}(T:TI th F0 m fu aa fr fs gn h E ps po)(hd:Ds.bz th m' fJ)(hr:∀p,¬In fr p->Ds.gS th m' p=Ds.gS th m p/\Ds.fR th m' p=Ds.fR th m p):
 TI th F0 m' fJ aa fr fs gn h E ps po:=⟨⟨hd,T.ok.fr,T.ok.fs,T.ok.gn,T.ok.pg⟩,T.gz,T.f0,T.holds.same λp hp=>hr p (T.free p hp),T.inv⟩
theorem anO{th:Th}{free:Ws}(hw:Bx.okW free):Bx.okW (opF th free):=(Bx.iL (.inr (.inl rfl)) hw (Bx.iL (.inr (.inr rfl)) (Bx.cr _).1 (Bx.cr _).1).1).1
theorem anP{th:Th}{free:Ws}(hw:Bx.okW free){p:Int}:In (opF th free) p↔In free p/\2<=p/\p<Ds.fg th:=by
 unfold opF;rw[amK hw (Bx.iL (.inr (.inr rfl)) (Bx.cr _).1 (Bx.cr _).1).1,sd (Bx.cr _).1 (Bx.cr _).1,mO,mO];constructor;rintro⟨a,⟨b,c⟩,d⟩;exact⟨a,by omega,c⟩;rintro⟨a,b,c⟩;have:=mN hw a;exact⟨a,⟨by omega,c⟩,by omega⟩
theorem TI.start{th:Th}{m:As}{fu:Int}{free:Ws}(hd:Ds.bz th m fu)(hw:Bx.okW free):TI th (In (opF th free)) m fu 0 (opF th free) Bx.aL Bx.aL 0 [] [] 0:=by
 have f0:∀p,In (opF th free) p->2<=p/\Ds.vn th p=true:=λp hp=>by
  have⟨_,a,b⟩:=(anP hw).1 hp;exact⟨a,Ds.gv.2 ⟨by omega,b⟩⟩
 exact⟨⟨hd,anO hw,Bx.fh.1,Bx.fh.1,f0⟩,rfl,f0,.inl ⟨rfl,rfl,rfl,rfl,rfl⟩,⟨List.nodup_nil,λp=>⟨.inl,λx=>x.elim id (λy=>absurd y eZ)⟩,λp _=>eZ,λp hp=>absurd hp eZ,λp hp=>by cases hp⟩⟩
theorem aqP(e:En):geE empty e=true:=by unfold geE;rw[ij];rfl
theorem filter_all(l:List En):l.filter (geE empty)=l:=List.filter_eq_self.2 λe _=>aqP e
theorem TI.small{th:Th}{F0:Int->Prop}{m:As}{fu aa:Int}{fr fs gn:Ws}{h:Nat}{E:List En}{ps:List Int}{po:Nat}(T:TI th F0 m fu aa fr fs gn h E ps po)(hp:po<=100000):h<=14:=T.holds.agj (by have:19*3^15=272629233:=rfl;omega)
def ny(th:Th)(P:Ws):Ws:=opF th (Bx.cf .andNot (Bx.cf .andNot (Bx.bw (Ds.fg th)) (Bx.bw 2)) P)
structure nz (th:Th) (m:As) (pg:Int):Prop where
 rg:0<=pg/\pg<=65536
 e:sI th m pg=0
 w:Bx.okW (dT th m pg)
 i:∀p,In (dT th m pg) p->2<=p/\p<Ds.fg th
abbrev XA:Type:=Th×As×Int×Int×Bool×Int×Int×Ws
abbrev sA0:Spec XA:=⟨λ_=>[.an 0 0],λ(th,m,fu,wh,on,ep,pg,bu)=>hS0 th m fu wh on ep pg bu,λ(th,m,fu,_,_,_,pg,_)=>[Ds.bz th m fu,nz th m pg],
 λ(th,m,fu,wh,on,ep,pg,_)=>[er 1 wh on ep pg (dT th m pg) (.an 4 0),Ds.jw 2 3 fu,.aq (.az Ds.cS th) Ds.eS,.map Ds.kS m,fm 1 pg (ny th (dT th m pg)) Bx.aL Bx.aL],λ_=>.s (.bool true)⟩
abbrev XA1:Type:=Th×As×Int×Int×Bool×Int×Int×Ws×Int×Ws×Ws×Ws
abbrev sA1:Spec XA1:=⟨λ_=>[.an 0 0],λ(th,m,fu,wh,on,ep,pg,bu,aa,fr,fs,gn)=>jR th m fu wh on ep pg bu aa fr fs gn,λ(th,m,fu,_,_,_,pg,_)=>[Ds.bz th m fu,nz th m pg],
 λ(th,m,fu,wh,on,ep,pg,_,aa,fr,fs,gn)=>[er 1 wh on ep pg (dT th m pg) (.an 5 0),Ds.jw 3 4 fu,fm 1 aa fr fs gn,.aq (.az Ds.cS th) Ds.eS,.map Ds.kS m,fm 1 pg (ny th (dT th m pg)) Bx.aL Bx.aL],λ_=>.s (.bool true)⟩
theorem aex{ws:Ws}(hw:Bx.okW ws)(h:∀p,¬In ws p):Bx.iM ws=0:=by
 rw[abW hw];have:=vF hw (N:=[]) λp hp=>absurd hp (h p);simp only[length_nil]at this;omega
theorem awZ{th:Th}{m:As}{fu wh:Int}{on:Bool}{ep pg:Int}{bu P f:Ws}(e:P=dT th m pg)(e2:f=ny th P):
 sA0.eG (th,m,fu,wh,on,ep,pg,bu)=[er 1 wh on ep pg P (.an 4 0),Ds.jw 2 3 fu,.aq (.az Ds.cS th) Ds.eS,.map Ds.kS m,fm 1 pg f Bx.aL Bx.aL]:=by
 subst e e2;rfl
theorem aw0{th:Th}{m:As}{fu wh:Int}{on:Bool}{ep pg:Int}{bu P f:Ws}{aa:Int}{fr fs gn:Ws}(e:P=dT th m pg)(e2:f=ny th P):
 sA1.eG (th,m,fu,wh,on,ep,pg,bu,aa,fr,fs,gn)=[er 1 wh on ep pg P (.an 5 0),Ds.jw 3 4 fu,fm 1 aa fr fs gn,.aq (.az Ds.cS th) Ds.eS,.map Ds.kS m,fm 1 pg f Bx.aL Bx.aL]:=by
 subst e e2;rfl
theorem aey:anx.Ok P Bx.bZ:=aR.Ok.cons (Ds.adg.sum Ds.xb) (aR.Ok.cons Bx.rZ.sum (aR.Ok.cons Bx.vu.sum (aR.Ok.cons Bx.ahJ.sum (aR.Ok.cons (aqB.sum mOp) (aR.Ok.cons (aem.sum mT) (aR.Ok.cons Bx.amB.sum aR.Ok.nil))))))
theorem aap{th:Th}{m:As}{pg:Int}(R:nz th m pg):Bx.okW (Bx.cf .and (dT th m pg) (Bx.bw 2))/\Bx.iM (Bx.cf .and (dT th m pg) (Bx.bw 2))=0/\Bx.okW (Bx.cf .andNot (dT th m pg) (Bx.bw (Ds.fg th)))/\Bx.iM (Bx.cf .andNot (dT th m pg) (Bx.bw (Ds.fg th)))=0:=by
 have a:=(Bx.iL (.inr (.inl rfl)) R.w (Bx.cr 2).1).1;have b:=(Bx.iL (.inr (.inr rfl)) R.w (Bx.cr (Ds.fg th)).1).1;refine⟨a,aex a λp hp=> ?_,b,aex b λp hp=> ?_⟩;rw[amK R.w (Bx.cr 2).1,mO]at hp;have:=R.i p hp.1;omega;rw[sd R.w (Bx.cr _).1,mO]at hp;have:=R.i p hp.1;have:=mN R.w hp.1;omega
theorem auz:gE P Bx.bZ 89 sA0:=by
 refine aK Tryz.func89 (by kernel_rfl) (λx=>le_of_ble_eq_true (by kernel_rfl)) ?_;rintro⟨(th:Th),(m:As),(fu:Int),(wh:Int),(on:Bool),(ep:Int),(pg:Int),(bu:Ws)⟩ ⟨(hd:Ds.bz th m fu),(R:nz th m pg),_⟩ X hX hz;have⟨r1,r2,r3,r4⟩:=aap R;refine Ds.dk hz hX (by intro y hy;cases hy) aey Tryz.func89 (ayE th m fu wh on ep pg bu) ⟨rfl,rfl,hd,rfl,rfl,hd,rfl,rfl,hd,R.rg,λh=> ?_,λ_=>⟨r1,λh=> ?_,λ_=>⟨r3,λh=> ?_,λ_=>⟨rfl,rfl,hd, ?_⟩⟩⟩⟩;rw[R.e]at h;cases h;rw[r2]at h;cases h;rw[r4]at h;cases h;have f:=awZ (th:=th) (m:=m) (fu:=fu) (wh:=wh) (on:=on) (ep:=ep) (pg:=pg) (bu:=bu) rfl rfl;unfold ny at f;exact bN 4 rfl (le_refl _) rfl f
theorem anQ:gE P Bx.bZ 89 sA1:=by
 refine aK Tryz.func89 (by kernel_rfl) (λx=>le_of_ble_eq_true (by kernel_rfl)) ?_;rintro⟨(th:Th),(m:As),(fu:Int),(wh:Int),(on:Bool),(ep:Int),(pg:Int),(bu:Ws),(aa:Int),(fr:Ws),(fs:Ws),(gn:Ws)⟩ ⟨(hd:Ds.bz th m fu),(R:nz th m pg),_⟩ X hX hz;have⟨r1,r2,r3,r4⟩:=aap R;refine Ds.dk hz hX (by intro y hy;cases hy) aey Tryz.func89 (ayF th m fu wh on ep pg bu aa fr fs gn) ⟨rfl,rfl,hd,rfl,rfl,hd,rfl,rfl,hd,R.rg,λh=> ?_,λ_=>⟨r1,λh=> ?_,λ_=>⟨r3,λh=> ?_,λ_=>⟨rfl,rfl,hd, ?_⟩⟩⟩⟩;rw[R.e]at h;cases h;rw[r2]at h;cases h;rw[r4]at h;cases h;have f:=aw0 (th:=th) (m:=m) (fu:=fu) (wh:=wh) (on:=on) (ep:=ep) (pg:=pg) (bu:=bu) (aa:=aa) (fr:=fr) (fs:=fs) (gn:=gn) rfl rfl;unfold ny at f;exact bN 5 rfl (le_refl _) rfl f
abbrev aY:List (CL cMk):=[(true,(1:Int),(0:Int),()),(false,(0:Int),(0:Int),())]
def fo1(th:Th)(m:As)(fu:Int)(x:CL cMk)(k:Int):As×Int×Int:=(Ds.kz th m fu k (mkO x) (mkE x) (mkP x),Ds.pv th fu k (mkO x) (mkE x) (mkP x),Ds.yD th fu k (mkO x) (mkE x) (mkP x))
def fo2(th:Th)(a:As×Int×Int):Th×As×Int×Int:=if a.2.2≠0 then(th,a.1,a.2.1,a.2.2)else(Ds.lJ th a.1 a.2.1,Ds.nF a.1 a.2.1,Ds.dL a.2.1,Ds.yB a.2.1)
def fo3(th:Th)(a:As×Int×Int)(x:CL cMk):Th×As×Int×Int:=if a.2.2≠0 then(th,a.1,a.2.1,a.2.2)else fo2 th (fo1 th a.1 a.2.1 x 1)
def fH(th:Th)(m:As)(fu:Int)(l:List (CL cMk)):Th×As×Int×Int:=if Ds.fg th<3 then(th,m,fu,1)else fo3 th (fo1 th m fu (el l 0) 0) (el l 1)
abbrev XFo:Type:=Th×As×Int×List (CL cMk)
abbrev sFo:Spec XFo:=⟨λ_=>[.an 0 0],λ(th,m,fu,_)=>Ds.hD th m fu,λ(th,m,fu,l)=>[Ds.bz th m fu,l=aY],λ(th,m,fu,l)=>Ds.hD (fH th m fu l).1 (fH th m fu l).2.1 (fH th m fu l).2.2.1,λ(th,m,fu,l)=>bQ (fH th m fu l).2.2.2⟩
def mFo:List AV->RM (XFo×List Nat)
 |[d]=>(Ds.xb [d]).bind λ((th,m,fu),σ)=>.ret ((th,m,fu,aY),σ)
 |_=>.fail "no disk"
theorem aij{th:Th}{m:As}{fu:Int}{l:List (CL cMk)}{c:Th×As×Int×Int}(e:fH th m fu l=c):sFo.eG (th,m,fu,l)=Ds.hD c.1 c.2.1 c.2.2.1/\sFo.out (th,m,fu,l)=bQ c.2.2.2:=by
 subst e;exact⟨rfl,rfl⟩
theorem aj5{Z:bB}:gE P Z 38 sFo:=by
 refine aK Tryz.func38 (by kernel_rfl) (fun x=>le_of_ble_eq_true (by kernel_rfl)) ?_;rintro⟨(th:Th),(m:As),(fu:Int),(l:List (CL cMk))⟩ ⟨(hd:Ds.bz th m fu),(hl:l=aY),_⟩ X hX hz;have kc:∀x∈aqD,(sFo.heap (th,m,fu,l)).length≤x.2.m:=by intro y hy;simp[aqD]at hy;rcases hy with rfl|rfl<;>exact le_refl _
 have T:anz.Ok P Z:=aR.Ok.cons (Ds.adg.sum Ds.xb) (aR.Ok.cons (Ds.art.sum mGs) (aR.Ok.cons (Ds.ada.sum Ds.xb) aR.Ok.nil));have bK:l.length=2:=by rw[hl];rfl
 by_cases h3:Ds.fg th<3;obtain⟨f1,f2⟩:=aij (m:=m) (fu:=fu) (l:=l) (c:=(th,m,fu,1)) (by unfold fH;rw[if_pos h3]);refine Ds.dk hz hX kc T Tryz.func38 (awN th m fu) ⟨rfl,rfl,hd,fun _=>bN 3 rfl (le_refl _) f2 f1,fun h=>absurd h3 (of_decide_eq_false h)⟩;have e0:fH th m fu l=fo3 th (fo1 th m fu (el l 0) 0) (el l 1):=by unfold fH;rw[if_neg h3]
 have last:∀{m1:As} {f1:Int},Ds.bz th m1 f1→fH th m fu l=fo2 th (fo1 th m1 f1 (el l 1) 1)→Safe P 38 X (eH sFo (th,m,fu,l)) (cFo th m1 f1 1 1 (mkO (el l 1)) (mkE (el l 1)) (mkP (el l 1)) l):=by
  intro m1 f1 hd1 e;have hd2:=Ds.adf (k:=1) (on:=mkO (el l 1)) (ep:=mkE (el l 1)) (pg:=mkP (el l 1)) hd1;refine Ds.dk hz hX kc T Tryz.func38 (awO th m1 f1 1 1 (mkO (el l 1)) (mkE (el l 1)) (mkP (el l 1)) l) ⟨rfl,rfl,hd1,uJ (by omega) (by omega),fun h=> ?_,fun h=>⟨uJ (by omega) (by omega),fun h=>absurd (of_decide_eq_true h) (by omega),fun _=>⟨rfl,rfl,hd2, ?_⟩⟩⟩;obtain⟨g1,g2⟩:=aij (e.trans (if_pos (bne_iff_ne.1 h)));exact bN 3 rfl (le_refl _) g2 g1;obtain⟨g1,g2⟩:=aij (e.trans (if_neg (fun x=>Bool.false_ne_true (h.symm.trans (bne_iff_ne.2 x)))));exact bN 3 rfl (le_refl _) g2 g1
 have first:Safe P 38 X (eH sFo (th,m,fu,l)) (cFo th m fu 0 0 (mkO (el l 0)) (mkE (el l 0)) (mkP (el l 0)) l):=by
  have hd2:=Ds.adf (k:=0) (on:=mkO (el l 0)) (ep:=mkE (el l 0)) (pg:=mkP (el l 0)) hd;refine Ds.dk hz hX kc T Tryz.func38 (awO th m fu 0 0 (mkO (el l 0)) (mkE (el l 0)) (mkP (el l 0)) l) ⟨rfl,rfl,hd,uJ (by omega) (by omega),fun h=> ?_,fun h=>⟨uJ (by omega) (by omega),fun _=>⟨by omega,by omega,last hd2 (e0.trans (if_neg (fun x=>Bool.false_ne_true (h.symm.trans (bne_iff_ne.2 x)))))⟩,fun h=>absurd (of_decide_eq_false h) (by omega)⟩⟩;obtain⟨g1,g2⟩:=aij (e0.trans (if_pos (bne_iff_ne.1 h)));exact bN 3 rfl (le_refl _) g2 g1
 refine Ds.dk hz hX kc T Tryz.func38 (awN th m fu) ⟨rfl,rfl,hd,fun h=>absurd (of_decide_eq_true h) h3,fun _=>⟨fun _=>⟨by omega,by omega, ?_⟩,fun h=>(by cases h)⟩⟩;subst hl;exact first
abbrev aw1:=cC sA0 (λa=>match a with
 |[.an p 0]=>.aA p λo=>match o with
  |some (.ay [.an d 0,wh,.s on,ep,pg,.aw .u64 16 bu,_] _)=>(Ds.xb [.an d 0]).bind λ((th,m,fu),σ)=>match wh.cP,(AV.s on).fT,ep.cP,pg.cP with
   |some (_,_,wh),some (_,on),some (_,_,ep),some (_,_,pg)=>.ret ((th,m,fu,wh,on,ep,pg,bu),p::σ)
   |_,_,_,_=>.fail "no store"
  |_=>.fail "no store"
 |_=>.fail "no store")
def aik:aR:=[(65,aen),(88,awM),(89,aw1)]
def anR:List (Nat×Norm):=[(fK+7,⟨[],[],3,[]⟩),(aaX+9002,⟨[],[0,4,5,18,22,23],3,[]⟩),(13,⟨[],[0,4],3,[]⟩)]
noncomputable def cSo(th:Th)(m:As)(fu i wh:Int)(on:Bool)(ep pg:Int)(bu:Ws):cn:=⟨sl 72 [(0,.an 0 0),(4,.an 3 0),(5,bQ i),(18,bQ i),(22,.an 0 0),(23,bQ i)],Ds.hD th m fu++[er 0 wh on ep pg bu (.s .jz)],uR Tryz.f37 9 2,⟨none,false,0,[],9⟩⟩
noncomputable def p9(th:Th)(m:As)(fu wh:Int)(on:Bool)(ep pg:Int)(bu:Ws):cn:=⟨sl 72 [(0,.an 0 0),(4,.an 3 0)],Ds.hD th m fu++[er 0 wh on ep pg bu (.s .jz)],hr Tryz.f37 13,{}⟩
theorem ayN(th:Th)(m:As)(fu:Int):run P aik.sum Tryz.f37 anR (start Tryz.f37 [.an 0 0] (Ds.hD th m fu))=
 Tree.ab (bx (some [AV.an 0 0])) (.ab (bx (some (Ds.hD th m fu))) (.ab (Ds.bz th m fu) (.ite (decide (Ds.fg th<3)) (.ret (Ds.hD th m fu) (.bD [.s .jz,.s (.aZ .i64 43)])) (.at (cSo th m fu 0 0 false 0 0 (replicate 16 0)))))):=by kernel_rfl
theorem ayO(th:Th)(m:As)(fu i wh:Int)(on:Bool)(ep pg:Int)(bu:Ws):run P aik.sum Tryz.f37 anR (cSo th m fu i wh on ep pg bu)=
 Tree.ab (bx (some [AV.an 0 0,.s (.int .i64 i)])) (.ab (bx (some (Ds.hD th m fu))) (.ab (Ds.bz th m fu) (.ab (aG i) (.ite (Ds.mE th i==0) (.ite (Ds.jj th m i) (.ite (!on) (.ab (aG (i+1)) (.ite (decide (i+1<2)) (.at (cSo th m fu (i+1) i (Ds.jj th m i) (Ds.gk th m i) (Ds.mF th m i) bu)) (.at (p9 th m fu i (Ds.jj th m i) (Ds.gk th m i) (Ds.mF th m i) bu)))) (.ite (decide (Ds.gk th m i>ep)) (.ab (aG (i+1)) (.ite (decide (i+1<2)) (.at (cSo th m fu (i+1) i (Ds.jj th m i) (Ds.gk th m i) (Ds.mF th m i) bu)) (.at (p9 th m fu i (Ds.jj th m i) (Ds.gk th m i) (Ds.mF th m i) bu)))) (.ab (aG (i+1)) (.ite (decide (i+1<2)) (.at (cSo th m fu (i+1) wh on ep pg bu)) (.at (p9 th m fu wh on ep pg bu)))))) (.ab (aG (i+1)) (.ite (decide (i+1<2)) (.at (cSo th m fu (i+1) wh on ep pg bu)) (.at (p9 th m fu wh on ep pg bu))))) (.ab (aG (i+1)) (.ite (decide (i+1<2)) (.at (cSo th m fu (i+1) wh on ep pg bu)) (.at (p9 th m fu wh on ep pg bu)))))))):=by kernel_rfl
theorem auA(th:Th)(m:As)(fu wh:Int)(on:Bool)(ep pg:Int)(bu:Ws):run P aik.sum Tryz.f37 anR (p9 th m fu wh on ep pg bu)=
 Tree.ite (!on) (.ret (Ds.hD th m fu++[er 0 wh on ep pg bu (.s .jz)]) (.bD [.s .jz,.s (.aZ .i64 43)])) (.ab (bx (some [AV.an 0 0])) (.ab (bx (some (hS0 th m fu wh on ep pg bu))) (.ab (Ds.bz th m fu) (.ab (nz th m pg) (.ite false (.ret (Ds.hD th m fu++[er 0 wh on ep pg (dT th m pg) (.an 4 0),fm 0 pg (ny th (dT th m pg)) Bx.aL Bx.aL]) (.bD [.s .jz,.s (.aZ .i64 43)])) (.ret (Ds.hD th m fu++[er 0 wh on ep pg (dT th m pg) (.an 4 0),fm 0 pg (ny th (dT th m pg)) Bx.aL Bx.aL]) (.bD [.an 3 0,.s (.aZ .i64 0)]))))))):=by kernel_rfl
abbrev Mk:Type:=Int×Bool×Int×Int
def mk1(th:Th)(m:As)(s:Mk)(k:Int):Mk:=if Ds.mE th k=0/\Ds.jj th m k=true/\(s.2.1=false\/Ds.gk th m k>s.2.2.1)then(k,true,Ds.gk th m k,Ds.mF th m k)else s
def eK(th:Th)(m:As):Mk:=mk1 th m (mk1 th m (0,false,0,0) 0) 1
abbrev X3:Type:=Th×As×Int
abbrev ud:Spec X3:=⟨λ_=>[.an 0 0],λ(th,m,fu)=>Ds.hD th m fu,λ(th,m,fu)=>[Ds.bz th m fu,3<=Ds.fg th,(eK th m).2.1=true,nz th m (eK th m).2.2.2],
 λ(th,m,fu)=>Ds.hD th m fu++[er 0 (eK th m).1 true (eK th m).2.2.1 (eK th m).2.2.2 (dT th m (eK th m).2.2.2) (.an 4 0),fm 0 (eK th m).2.2.2 (ny th (dT th m (eK th m).2.2.2)) Bx.aL Bx.aL],λ_=>.bD [.an 3 0,bQ 0]⟩
theorem yc:aik.Ok P Bx.bZ:=aR.Ok.cons (Ds.adg.sum Ds.xb) (aR.Ok.cons (Ds.go_ok.sum Ds.mRd) (aR.Ok.cons (auz.sum _) aR.Ok.nil))
theorem nf0{b:Bool}(h:(!b)=true):b=false:=by cases b<;>simp_all
theorem agn:∀x∈anR,3<=x.2.m:=by intro y hy;simp[anR]at hy;rcases hy with rfl|rfl|rfl<;>exact le_refl _
theorem pF{th:Th}{m:As}{s:Mk}{k:Int}(h1:Ds.mE th k=0)(h2:Ds.jj th m k=true)(h3:s.2.1=false\/Ds.gk th m k>s.2.2.1):mk1 th m s k=(k,true,Ds.gk th m k,Ds.mF th m k):=if_pos ⟨h1,h2,h3⟩
theorem yd{th:Th}{m:As}{s:Mk}{k:Int}(h:¬(Ds.mE th k=0/\Ds.jj th m k=true/\(s.2.1=false\/Ds.gk th m k>s.2.2.1))):mk1 th m s k=s:=if_neg h
theorem auB{th:Th}{m:As}{fu:Int}{a:Mk}(e:a=eK th m):
 ud.eG (th,m,fu)=Ds.hD th m fu++[er 0 a.1 true a.2.2.1 a.2.2.2 (dT th m a.2.2.2) (.an 4 0),fm 0 a.2.2.2 (ny th (dT th m a.2.2.2)) Bx.aL Bx.aL]:=by subst e;rfl
theorem ye:gE P Bx.bZ 37 ud:=by
 refine aK Tryz.func37 (by kernel_rfl) (λx=>le_of_ble_eq_true (by kernel_rfl)) ?_;rintro⟨(th:Th),(m:As),(fu:Int)⟩ ⟨(hd:Ds.bz th m fu),(hp:3<=Ds.fg th),(h1:(eK th m).2.1=true),(R:nz th m (eK th m).2.2.2),_⟩ X hX hz
 have fin:Safe P 37 X (eH ud (th,m,fu)) (p9 th m fu (eK th m).1 (eK th m).2.1 (eK th m).2.2.1 (eK th m).2.2.2 Bx.aL):=by
  have f:=auB (fu:=fu) (rfl:eK th m=eK th m);generalize eK th m=a at h1 R f;have⟨wh,on,ep,pg⟩:=a;have h1:on=true:=h1;subst h1;refine Ds.dk hz hX agn yc Tryz.func37 (auA th m fu wh true ep pg Bx.aL) ⟨λh=>(by cases h),λ_=>⟨rfl,rfl,hd,R,λh=>(by cases h),λ_=> ?_⟩⟩;exact bN 3 rfl (le_refl _) rfl f
 have step:∀(i:Int) (s:Mk),i=0\/i=1->(i=0->Safe P 37 X (eH ud (th,m,fu)) (cSo th m fu 1 (mk1 th m s i).1 (mk1 th m s i).2.1 (mk1 th m s i).2.2.1 (mk1 th m s i).2.2.2 Bx.aL))->(i=1->Safe P 37 X (eH ud (th,m,fu)) (p9 th m fu (mk1 th m s i).1 (mk1 th m s i).2.1 (mk1 th m s i).2.2.1 (mk1 th m s i).2.2.2 Bx.aL))->
  Safe P 37 X (eH ud (th,m,fu)) (cSo th m fu i s.1 s.2.1 s.2.2.1 s.2.2.2 Bx.aL):=by
  rintro i ⟨wh,on,ep,pg⟩ hi H0 H1;have hI:aG i:=uJ (by omega) (by omega);have hI1:aG (i+1):=uJ (by omega) (by omega)
  have fq:mk1 th m (wh,on,ep,pg) i=(wh,on,ep,pg)->(decide (i+1<2)=true->Safe P 37 X (eH ud (th,m,fu)) (cSo th m fu (i+1) wh on ep pg Bx.aL))/\(decide (i+1<2)=false->Safe P 37 X (eH ud (th,m,fu)) (p9 th m fu wh on ep pg Bx.aL)):=λe=>by
   rw[e]at H0 H1;refine⟨λh=> ?_,λh=> ?_⟩;have:i=0:=by have:=of_decide_eq_true h;omega
   subst this;exact H0 rfl;have:i=1:=by have:=of_decide_eq_false h;omega
   subst this;exact H1 rfl
  have take:mk1 th m (wh,on,ep,pg) i=(i,true,Ds.gk th m i,Ds.mF th m i)->Ds.jj th m i=true->(decide (i+1<2)=true->Safe P 37 X (eH ud (th,m,fu)) (cSo th m fu (i+1) i (Ds.jj th m i) (Ds.gk th m i) (Ds.mF th m i) Bx.aL))/\(decide (i+1<2)=false->Safe P 37 X (eH ud (th,m,fu)) (p9 th m fu i (Ds.jj th m i) (Ds.gk th m i) (Ds.mF th m i) Bx.aL)):=λe e2=>by
   rw[e]at H0 H1;rw[e2];refine⟨λh=> ?_,λh=> ?_⟩;have:i=0:=by have:=of_decide_eq_true h;omega
   subst this;exact H0 rfl;have:i=1:=by have:=of_decide_eq_false h;omega
   subst this;exact H1 rfl
  refine Ds.dk hz hX agn yc Tryz.func37 (ayO th m fu i wh on ep pg Bx.aL) ⟨rfl,rfl,hd,hI,λa=>⟨λb=>⟨λc=>⟨hI1,take (pF (beq_iff_eq.1 a) b (.inl (nf0 c))) b⟩,λc=>⟨λd=>⟨hI1,take (pF (beq_iff_eq.1 a) b (.inr (of_decide_eq_true d))) b⟩,λd=>⟨hI1,fq (yd ?_)⟩⟩⟩,λb=>⟨hI1,fq (yd ?_)⟩⟩,λa=>⟨hI1,fq (yd ?_)⟩⟩;rintro⟨_,_,x|x⟩;have x:on=false:=x;rw[x]at c;cases c;exact of_decide_eq_false d x;rintro⟨_,x,_⟩;rw[x]at b;cases b;rintro⟨x,_⟩;exact beq_eq_false_iff_ne.1 a x
 refine Ds.dk hz hX agn yc Tryz.func37 (ayN th m fu) ⟨rfl,rfl,hd,λh=>absurd (of_decide_eq_true h) (by omega),λ_=> ?_⟩;exact step 0 (0,false,0,0) (.inl rfl) (λ_=>step 1 _ (.inr rfl) (λh=>by omega) (λ_=>fin)) (λh=>by omega)
def mSt:List AV->RM (XA1×List Nat)
 |[.an p 0]=>.aA p λo=>match o with
  |some (.ay [.an d 0,wh,on,ep,pg,.aw .u64 16 bu,.an t 0] _)=>.aA t λo=>match o with
   |some (.ay [.an _ 0,aa,.aw .u64 16 fr,.aw .u64 16 fs,.aw .u64 16 gn] _)=>(Ds.xb [.an d 0]).bind λ((th,m,fu),σ)=>match wh.cP,on.fT,ep.cP,pg.cP,aa.cP,σ with
    |some (_,_,wh),some (_,on),some (_,_,ep),some (_,_,pg),some (_,_,aa),d::σ=>.ret ((th,m,fu,wh,on,ep,pg,bu,aa,fr,fs,gn),p::d::t::σ)
    |_,_,_,_,_,_=>.fail "no store"
   |_=>.fail "no tree"
  |_=>.fail "no store"
 |_=>.fail "no store"
abbrev XSK:Type:=XA1×ByteArray
abbrev XSV:Type:=XA1×ByteArray×ByteArray
def mSK:List AV->RM (XSK×List Nat)
 |[s,.s (.ag k)]=>(mSt [s]).bind λ(X,σ)=>.ret ((X,k),σ)
 |_=>.fail "no key"
def mSV:List AV->RM (XSV×List Nat)
 |[s,.s (.ag k),.s (.ag v)]=>(mSt [s]).bind λ(X,σ)=>.ret ((X,k,v),σ)
 |_=>.fail "no key"
abbrev hX:XA1->List au:=λ(th,m,fu,wh,on,ep,pg,bu,aa,fr,fs,gn)=>jR th m fu wh on ep pg bu aa fr fs gn
abbrev auC:Spec XSK:=⟨λ(_,k)=>[.an 0 0,.s (.ag k)],λ(x,_)=>hX x,λ((th,m,fu,_,_,_,_,_,aa,_),_)=>[Ds.bz th m fu,0<=aa/\aa<=65536],λ(x,_)=>hX x,
 λ((th,m,_,_,_,_,_,_,aa,_),k)=>.bD [.s (.ag (gtV th m aa k)),.s (.bool (gtB th m aa k)),bQ (gtE th m aa k)]⟩
abbrev aw2:Spec XSK:=⟨λ(_,k)=>[.an 0 0,.s (.ag k)],λ(x,_)=>hX x,λ((th,m,fu,_,_,_,_,_,aa,_),_)=>[Ds.bz th m fu,0<=aa/\aa<=65536],
 λ((th,m,fu,wh,on,ep,pg,bu,aa,fr,fs,gn),k)=>jR th m fu wh on ep pg bu aa fr fs gn++[.aq (.az cE (qV th m aa k)) Lf.eE],λ((th,m,_,_,_,_,_,_,aa,_),k)=>.bD [.aq 5,bQ (yW th m aa k)]⟩
abbrev ayP:Spec XSV:=⟨λ(_,k,v)=>[.an 0 0,.s (.ag k),.s (.ag v)],λ(x,_)=>hX x,λ((th,m,fu,_,_,_,_,_,aa,fr,_),_)=>[Ds.bz th m fu,Bx.okW fr,0<=aa/\aa<=65536],
 λ((th,m,fu,wh,on,ep,pg,bu,aa,fr,fs,gn),k,v)=>jR th (op0 th k (some v) m fu aa fr fs gn) (op1 th k (some v) m fu aa fr fs gn) wh on ep pg bu (uL th k (some v) m fu aa fr fs gn) (op2 th k (some v) m fu aa fr fs gn) (op3 th k (some v) m fu aa fr fs gn) (op4 th k (some v) m fu aa fr fs gn),
 λ((th,m,fu,_,_,_,_,_,aa,fr,fs,gn),k,v)=>bQ (opE th k (some v) m fu aa fr fs gn)⟩
abbrev ayQ:Spec XSK:=⟨λ(_,k)=>[.an 0 0,.s (.ag k)],λ(x,_)=>hX x,λ((th,m,fu,_,_,_,_,_,aa,fr,_),_)=>[Ds.bz th m fu,Bx.okW fr,0<=aa/\aa<=65536],
 λ((th,m,fu,wh,on,ep,pg,bu,aa,fr,fs,gn),k)=>jR th (op0 th k none m fu aa fr fs gn) (op1 th k none m fu aa fr fs gn) wh on ep pg bu (uL th k none m fu aa fr fs gn) (op2 th k none m fu aa fr fs gn) (op3 th k none m fu aa fr fs gn) (op4 th k none m fu aa fr fs gn),
 λ((th,m,fu,_,_,_,_,_,aa,fr,fs,gn),k)=>bQ (opE th k none m fu aa fr fs gn)⟩
abbrev auD:Spec XA1:=⟨λ_=>[.an 0 0],hX,λ_=>[],hX,λ(_,_,_,_,_,ep,_)=>bQ ep⟩
def ef(th:Th)(m:As)(bu:Ws)(aa:Int):Ws:=Bx.cf .andNot (Bx.cf .andNot (Bx.cf .andNot (Bx.bw (Ds.fg th)) (Bx.bw 2)) bu) (dT th m aa)
abbrev auE:Spec XA1:=⟨λ_=>[.an 0 0],hX,λ(th,m,fu,_,_,_,_,bu,aa,_)=>[Ds.bz th m fu,0<=aa/\aa<=65536,sI th m aa=0,Bx.okW (ef th m bu aa)],hX,λ(th,m,_,_,_,_,_,bu,aa,_)=>bQ (Bx.iM (ef th m bu aa))⟩
def mPt:List AV->RM (XK×List Nat)
 |[t,.s (.ag ad),.s (.ag val)]=>(mT [t]).bind λ(X,σ)=>.ret ((X,ad,val),σ)
 |_=>.fail "put"
def ago:aR:=[(21,cC anj mGt),(33,cC sLs mGt),(17,cC anh mPt),(19,cC ani mGt),(31,ar6),(65,aen),(64,aus),(66,anw),(93,awL)]
theorem ayR(th:Th)(m:As)(fu wh:Int)(on:Bool)(ep pg:Int)(bu:Ws)(aa:Int)(fr fs gn:Ws)(k:ByteArray):run P ago.sum Tryz.f35 [] (start Tryz.f35 [.an 0 0,.s (.ag k)] (jR th m fu wh on ep pg bu aa fr fs gn))=
 Tree.ab (bx (some [AV.an 0 0,.s (.ag k)])) (.ab (bx (some (hT th m fu aa fr fs gn))) (.ab (Ds.bz th m fu) (.ab ((0:Int)<=aa/\aa<=65536) (.ret (jR th m fu wh on ep pg bu aa fr fs gn) (.bD [.s (.ag (gtV th m aa k)),.s (.bool (gtB th m aa k)),.s (.int .i64 (gtE th m aa k))]))))):=by kernel_rfl
theorem ayS(th:Th)(m:As)(fu wh:Int)(on:Bool)(ep pg:Int)(bu:Ws)(aa:Int)(fr fs gn:Ws)(k:ByteArray):run P ago.sum Tryz.f36 [] (start Tryz.f36 [.an 0 0,.s (.ag k)] (jR th m fu wh on ep pg bu aa fr fs gn))=
 Tree.ab (bx (some [AV.an 0 0,.s (.ag k)])) (.ab (bx (some (hT th m fu aa fr fs gn))) (.ab (Ds.bz th m fu) (.ab ((0:Int)<=aa/\aa<=65536) (.ret (jR th m fu wh on ep pg bu aa fr fs gn++[.aq (.az [.ag,.ag] (qV th m aa k)) 66]) (.bD [.aq 5,.s (.int .i64 (yW th m aa k))]))))):=by kernel_rfl
theorem ayT(th:Th)(m:As)(fu wh:Int)(on:Bool)(ep pg:Int)(bu:Ws)(aa:Int)(fr fs gn:Ws)(k v:ByteArray):run P ago.sum Tryz.f39 [] (start Tryz.f39 [.an 0 0,.s (.ag k),.s (.ag v)] (jR th m fu wh on ep pg bu aa fr fs gn))=
 Tree.ab (bx (some [AV.an 0 0,.s (.ag k),.s (.ag v)])) (.ab (bx (some (hT th m fu aa fr fs gn))) (.ab (Ds.bz th m fu) (.ab (Bx.okW fr) (.ab ((0:Int)<=aa/\aa<=65536) (.ret (jR th (op0 th k (some v) m fu aa fr fs gn) (op1 th k (some v) m fu aa fr fs gn) wh on ep pg bu (uL th k (some v) m fu aa fr fs gn) (op2 th k (some v) m fu aa fr fs gn) (op3 th k (some v) m fu aa fr fs gn) (op4 th k (some v) m fu aa fr fs gn)) (.s (.int .i64 (opE th k (some v) m fu aa fr fs gn)))))))):=by kernel_rfl
theorem ayU(th:Th)(m:As)(fu wh:Int)(on:Bool)(ep pg:Int)(bu:Ws)(aa:Int)(fr fs gn:Ws)(k:ByteArray):run P ago.sum Tryz.f40 [] (start Tryz.f40 [.an 0 0,.s (.ag k)] (jR th m fu wh on ep pg bu aa fr fs gn))=
 Tree.ab (bx (some [AV.an 0 0,.s (.ag k)])) (.ab (bx (some (hT th m fu aa fr fs gn))) (.ab (Ds.bz th m fu) (.ab (Bx.okW fr) (.ab ((0:Int)<=aa/\aa<=65536) (.ret (jR th (op0 th k none m fu aa fr fs gn) (op1 th k none m fu aa fr fs gn) wh on ep pg bu (uL th k none m fu aa fr fs gn) (op2 th k none m fu aa fr fs gn) (op3 th k none m fu aa fr fs gn) (op4 th k none m fu aa fr fs gn)) (.s (.int .i64 (opE th k none m fu aa fr fs gn)))))))):=by kernel_rfl
theorem ayV(th:Th)(m:As)(fu wh:Int)(on:Bool)(ep pg:Int)(bu:Ws)(aa:Int)(fr fs gn:Ws):run P ago.sum Tryz.f43 [] (start Tryz.f43 [.an 0 0] (jR th m fu wh on ep pg bu aa fr fs gn))=
 Tree.ret (jR th m fu wh on ep pg bu aa fr fs gn) (.s (.int .i64 ep)):=by kernel_rfl
theorem ayW(th:Th)(m:As)(fu wh:Int)(on:Bool)(ep pg:Int)(bu:Ws)(aa:Int)(fr fs gn:Ws):run P ago.sum Tryz.f44 [] (start Tryz.f44 [.an 0 0] (jR th m fu wh on ep pg bu aa fr fs gn))=
 Tree.ab (bx (some [AV.an 0 0])) (.ab (bx (some (hT th m fu aa fr fs gn))) (.ab (Ds.bz th m fu) (.ab ((0:Int)<=aa/\aa<=65536) (.ite (sI th m aa !=0) (.ret (jR th m fu wh on ep pg bu aa fr fs gn++[.ay [.aw .u64 16 (dT th m aa)] 37]) (.s (.aZ .i64 0))) (.ab (bx (some [AV.an 0 0])) (.ab (bx (some (Ds.hD th m fu))) (.ab (Ds.bz th m fu) (.ab (Bx.okW (Bx.cf BinOp.andNot (Bx.cf BinOp.andNot (Bx.cf BinOp.andNot (Bx.bw (Ds.fg th)) (Bx.bw 2)) bu) (dT th m aa))) (.ret (jR th m fu wh on ep pg bu aa fr fs gn++[.ay [.aw .u64 16 (dT th m aa)] 37]) (.s (.int .i64 (Bx.iM (Bx.cf BinOp.andNot (Bx.cf BinOp.andNot (Bx.cf BinOp.andNot (Bx.bw (Ds.fg th)) (Bx.bw 2)) bu) (dT th m aa)))))))))))))):=by kernel_rfl
end Ts
namespace Go.Sx
open Go
def yf(s:Nat->List AV->RM b8):Nat->List AV->RM b8:=λbase args=>(s base args).bind λq=>rL (q.up.map (·.1)) λos=>.ret ⟨(some os=some (q.up.map (·.2)))::q.ab,[],q.new,q.r⟩
section
variable{ρ:Nat->Value}{H:aV}{G:Nat->Prop}{w:World}{P:Program}{Z:bB}
theorem yg:∀{up:List (Nat×au)} {j:Nat} {o:au},cK up j=some o->∃k:Nat,up[k]? =some (j,o)
 |[],j,o,h=>by simp[cK]at h
 |(i,x)::r,j,o,h=>by
  unfold cK at h;split at h;rename_i y hy;cases h;have⟨k,hk⟩:=yg hy;exact⟨k+1,by simpa using hk⟩;split at h;rename_i e;cases h;exact⟨0,by rw[e];rfl⟩;cases h
theorem aez{f:FuncId}{s:Nat->List AV->RM b8}(h:qA P Z f s):qA P Z f (yf s):=by
 intro base args H q hq hn ρ G w vs dK hz hs hd;unfold yf at hq;have⟨q0,h1,h2⟩:=RM.pr hq;have⟨os,h3,h4,h5⟩:=nf h2;simp only[RM.eval,Option.some.injEq]at h3;subst h3;have⟨hos,hn0⟩:=hn
 have same:di H q0.up base q0.new=di H [] base q0.new:=by
  funext j;unfold di;cases hu:cK q0.up j with
  |none=>rfl
  |some o=>
   have⟨k,hk⟩:=yg hu;have⟨g1,g2⟩:=h5 k j (by rw[getElem?_map,hk];rfl);have g3:H j=some o:=by rw[g1,hos,getElem?_map,hk];rfl
   have g4:¬(base<=j/\j<base+q0.new.length):=λhr=>by
    have:=dK (j - base) (by show j - base<q0.new.length;omega);rw[show base+(j - base)=j by omega,g3]at this;cases this
   show some o=if base<=j/\j<base+q0.new.length then _ else H j
   rw[if_neg g4,g3]
 have:=h base args H q0 h1 hn0 ρ G w vs dK hz hs hd;rw[same]at this;exact this
end
end Go.Sx
namespace Ts
open Go Go.Sx Go.Proofs Lf
abbrev eMk:TypeId:=153
abbrev ePS:TypeId:=69
abbrev hC(mo:Bool)(me mp other:Int):XA1->List au:=λ(th,m,fu,wh,on,ep,pg,bu,aa,fr,fs,gn)=>
 [.ay [.s (.bool mo),bQ me,bQ mp] eMk,.ay [.an 3 0] ePS,.ay [bQ other] 3,er 4 wh on ep pg bu (.an 5 0),Ds.jw 6 7 fu,fm 4 aa fr fs gn,.aq (.az Ds.cS th) Ds.eS,.map Ds.kS m]
abbrev XC1:Type:=Bool×Bool×Int×Int×Int×XA1
abbrev sC1:Spec XC1:=⟨λ(b,_)=>[.s (.bool b),.an 0 0,.an 1 0,.an 2 0],λ(_,mo,me,mp,other,x)=>hC mo me mp other x,λ_=>[],λ(b,mo,me,mp,other,x)=>hC mo me mp other x++[.ay [.s (.bool b)] 4],λ_=>.fn 92 [.an 8 0,.an 0 0,.an 1 0,.an 2 0]⟩
def mC1:List AV->RM (XC1×List Nat)
 |[b,.an m 0,.an s 0,.an o 0]=>.aA m λx=>match x with
  |some (.ay [mo,me,mp] _)=>.aA s λx=>match x with
   |some (.ay [.an st 0] _)=>.aA o λx=>match x with
    |some (.ay [ot] _)=>(mSt [.an st 0]).bind λ(X,σ)=>match b.fT,mo.fT,me.cP,mp.cP,ot.cP with
     |some (_,b),some (_,mo),some (_,_,me),some (_,_,mp),some (_,_,ot)=>.ret ((b,mo,me,mp,ot,X),m::s::o::σ)
     |_,_,_,_,_=>.fail "tell"
    |_=>.fail "tell"
   |_=>.fail "tell"
  |_=>.fail "tell"
 |_=>.fail "tell"
def mA1:List AV->RM (XA1×List Nat):=mSt
def sD:aR:=[(23,cC sRt mT),(91,yf (cC sC1 mC1)),(49,ar8),(90,ar7),(89,cC sA1 mA1)]
def yY:List (Nat×Norm):=[(fK+8,⟨[],[],5,[]⟩),(aaX+10001,⟨[],[1,3,4,56,57,60],5,[]⟩),(15,⟨[],[1,3,4],5,[]⟩),(6,⟨[],[1,3,4],5,[]⟩)]
noncomputable def auF(th:Th)(m:As)(fu wh:Int)(on:Bool)(ep pg:Int)(bu:Ws)(aa:Int)(fr fs gn:Ws)(mo:Bool)(me mp other:Int):cn:=⟨sl 78 [(1,.an 5 0),(3,.an 6 0),(4,.an 7 0)],jR th m fu wh on ep pg bu aa fr fs gn++[.ay [.an 0 0] ePS,.ay [.s (.bool mo),bQ me,bQ mp] eMk,.ay [bQ other] 3],hr Tryz.f41 6,{}⟩
theorem ayX(b mo:Bool)(me mp other:Int)(th:Th)(m:As)(fu wh:Int)(on:Bool)(ep pg:Int)(bu:Ws)(aa:Int)(fr fs gn:Ws):run P (aR.sum []) Tryz.f91 [] (start Tryz.f91 [.s (.bool b),.an 0 0,.an 1 0,.an 2 0] (hC mo me mp other (th,m,fu,wh,on,ep,pg,bu,aa,fr,fs,gn)))=
 Tree.ret [.ay [.s (.bool mo),.s (.int .i64 me),.s (.int .i64 mp)] 153,.ay [.an 3 0] 69,.ay [.s (.int .i64 other)] 3,er 4 wh on ep pg bu (.an 5 0),Ds.jw 6 7 fu,fm 4 aa fr fs gn,.aq (.az Ds.cS th) Ds.eS,.map Ds.kS m,.ay [.s (.bool b)] 4] (.fn 92 [.an 8 0,.an 0 0,.an 1 0,.an 2 0]):=by kernel_rfl
theorem ayY(th:Th)(m:As)(fu wh:Int)(on:Bool)(ep pg:Int)(bu:Ws)(aa:Int)(fr fs gn:Ws):run P sD.sum Tryz.f41 yY (start Tryz.f41 [.an 0 0] (jR th m fu wh on ep pg bu aa fr fs gn)) (inl:=[92])=
 Tree.ite (decide (ep>=1099511627776)) (.ret (jR th m fu wh on ep pg bu aa fr fs gn++[.ay [.an 0 0] 69]) (.s (.aZ .i64 40))) (.ab (aG (ep+1)) (.ab (bx (some [AV.an 0 0])) (.ab (bx (some (hT th m fu aa fr fs gn))) (.ab (aG ((1:Int) - wh)) (.at (auF th m fu wh on ep pg bu aa fr fs gn false (ep+1) aa ((1:Int) - wh))))))):=by kernel_rfl
theorem aw3(th:Th)(m:As)(fu wh:Int)(on:Bool)(ep pg:Int)(bu:Ws)(aa:Int)(fr fs gn:Ws)(mo:Bool)(me mp other:Int):run P sD.sum Tryz.f41 yY (auF th m fu wh on ep pg bu aa fr fs gn mo me mp other) (inl:=[92])=
 Tree.ab (bx (some (au.ay [.s (.bool mo),.s (.int .i64 me),.s (.int .i64 mp)] (153:Nat)::au.ay [.an 0 0] (69:Nat)::au.ay [.s (.int .i64 other)] (3:Nat)::jR th m fu wh on ep pg bu aa fr fs gn))) (.ab (bx (some [AV.s (.bool false),.an 0 0,.an 1 0,.an 2 0])) (.ab (bx (some [au.ay [.s (.bool mo),.s (.int .i64 me),.s (.int .i64 mp)] 153,.ay [.an 3 0] 69,.ay [.s (.int .i64 other)] 3,er 4 wh on ep pg bu (.an 5 0),Ds.jw 6 7 fu,fm 4 aa fr fs gn,.aq (.az Ds.cS th) Ds.eS,.map Ds.kS m])) (.ab (bx (some (au.ay [.s (.bool mo),.s (.int .i64 me),.s (.int .i64 mp)] (153:Nat)::au.ay [.an 0 0] (69:Nat)::au.ay [.s (.int .i64 other)] (3:Nat)::jR th m fu wh on ep pg bu aa fr fs gn))) (.ab (bx (some [AV.s (.bool true),.an 0 0,.an 1 0,.an 2 0])) (.ab (bx (some [au.ay [.s (.bool mo),.s (.int .i64 me),.s (.int .i64 mp)] 153,.ay [.an 3 0] 69,.ay [.s (.int .i64 other)] 3,er 4 wh on ep pg bu (.an 5 0),Ds.jw 6 7 fu,fm 4 aa fr fs gn,.aq (.az Ds.cS th) Ds.eS,.map Ds.kS m])) (.ab ((0:Int)<=0) (.ab ((0:Int)<(↑(5:Nat):Int)) (.at (.mk (sl 78 [(1,.an 5 0),(3,.an 6 0),(4,.an 7 0),(56,.agg [.y8 49 [.an 1 0],.fn 92 [.an 8 0,.an 6 0,.an 5 0,.an 7 0],.y8 49 [.an 1 0],.fn 92 [.an 9 0,.an 6 0,.an 5 0,.an 7 0],.y8 49 [.an 1 0]]),(57,.s (.int .i64 0)),(60,.y8 49 [.an 1 0])]) (jR th m fu wh on ep pg bu aa fr fs gn++[.ay [.an 0 0] 69,.ay [.s (.bool mo),.s (.int .i64 me),.s (.int .i64 mp)] 153,.ay [.s (.int .i64 other)] 3,.ay [.s (.bool false)] 4,.ay [.s (.bool true)] 4]) (uR Tryz.f41 10 1) (.mk none false 0 [] 10)))))))))):=by kernel_rfl
abbrev fFl:AV:=.y8 49 [.an 1 0]
abbrev fTl(i:Nat):AV:=.fn 92 [.an i 0,.an 6 0,.an 5 0,.an 7 0]
abbrev hCo(th:Th)(m:As)(fu wh:Int)(on:Bool)(ep pg:Int)(bu:Ws)(aa:Int)(fr fs gn:Ws)(mo:Bool)(me mp other:Int):List au:=jR th m fu wh on ep pg bu aa fr fs gn++[.ay [.an 0 0] ePS,.ay [.s (.bool mo),bQ me,bQ mp] eMk,.ay [bQ other] 3]
noncomputable def asa(th:Th)(m:As)(fu wh:Int)(on:Bool)(ep pg:Int)(bu:Ws)(aa:Int)(fr fs gn:Ws)(mo:Bool)(me mp other:Int):cn:=⟨sl 78 [(1,.an 5 0),(3,.an 6 0),(4,.an 7 0),(56,.agg [fFl,fTl 8,fFl,fTl 9,fFl]),(57,bQ 0),(60,fFl)],hCo th m fu wh on ep pg bu aa fr fs gn mo me mp other++[.ay [.s (.bool false)] 4,.ay [.s (.bool true)] 4],uR Tryz.f41 10 1,⟨none,false,0,[],10⟩⟩
noncomputable def anS(th:Th)(m:As)(fu wh:Int)(on:Bool)(ep pg:Int)(bu:Ws)(aa:Int)(fr fs gn:Ws)(mo:Bool)(me mp other:Int):cn:=⟨sl 78 [(1,.an 5 0),(3,.an 6 0),(4,.an 7 0),(56,.agg [fFl,fTl 8,fFl,fTl 9,fFl]),(57,bQ 1),(60,fTl 8)],hCo th m fu wh on ep pg bu aa fr fs gn mo me mp other++[.ay [.s (.bool false)] 4,.ay [.s (.bool true)] 4],uR Tryz.f41 10 1,⟨none,false,0,[],10⟩⟩
noncomputable def anT(th:Th)(m:As)(fu wh:Int)(on:Bool)(ep pg:Int)(bu:Ws)(aa:Int)(fr fs gn:Ws)(mo:Bool)(me mp other:Int):cn:=⟨sl 78 [(1,.an 5 0),(3,.an 6 0),(4,.an 7 0),(56,.agg [fFl,fTl 8,fFl,fTl 9,fFl]),(57,bQ 2),(60,fFl)],hCo th m fu wh on ep pg bu aa fr fs gn mo me mp other++[.ay [.s (.bool false)] 4,.ay [.s (.bool true)] 4],uR Tryz.f41 10 1,⟨none,false,0,[],10⟩⟩
noncomputable def anU(th:Th)(m:As)(fu wh:Int)(on:Bool)(ep pg:Int)(bu:Ws)(aa:Int)(fr fs gn:Ws)(mo:Bool)(me mp other:Int):cn:=⟨sl 78 [(1,.an 5 0),(3,.an 6 0),(4,.an 7 0),(56,.agg [fFl,fTl 8,fFl,fTl 9,fFl]),(57,bQ 3),(60,fTl 9)],hCo th m fu wh on ep pg bu aa fr fs gn mo me mp other++[.ay [.s (.bool false)] 4,.ay [.s (.bool true)] 4],uR Tryz.f41 10 1,⟨none,false,0,[],10⟩⟩
noncomputable def anV(th:Th)(m:As)(fu wh:Int)(on:Bool)(ep pg:Int)(bu:Ws)(aa:Int)(fr fs gn:Ws)(mo:Bool)(me mp other:Int):cn:=⟨sl 78 [(1,.an 5 0),(3,.an 6 0),(4,.an 7 0),(56,.agg [fFl,fTl 8,fFl,fTl 9,fFl]),(57,bQ 4),(60,fFl)],hCo th m fu wh on ep pg bu aa fr fs gn mo me mp other++[.ay [.s (.bool false)] 4,.ay [.s (.bool true)] 4],uR Tryz.f41 10 1,⟨none,false,0,[],10⟩⟩
noncomputable def yh(th:Th)(m:As)(fu wh:Int)(on:Bool)(ep pg:Int)(bu:Ws)(aa:Int)(fr fs gn:Ws)(mo:Bool)(me mp other:Int):cn:=⟨sl 78 [(1,.an 5 0),(3,.an 6 0),(4,.an 7 0)],hCo th m fu wh on ep pg bu aa fr fs gn mo me mp other,hr Tryz.f41 15,{}⟩
theorem ayZ(th:Th)(m:As)(fu wh:Int)(on:Bool)(ep pg:Int)(bu:Ws)(aa:Int)(fr fs gn:Ws)(mo:Bool)(me mp other:Int):run P sD.sum Tryz.f41 yY (asa th m fu wh on ep pg bu aa fr fs gn mo me mp other) (inl:=[92])=
 Tree.ab (bx (some [AV.an 0 0])) (.ab (bx (some (Ds.hD th m fu))) (.ab (Ds.bz th m fu) (.ite (Ds.yB fu !=0) (.ab (bx (some [AV.an 0 0])) (.ab (bx (some (jR (Ds.lJ th m fu) (Ds.nF m fu) (Ds.dL fu) wh on ep pg bu aa fr fs gn))) (.ab (Ds.bz (Ds.lJ th m fu) (Ds.nF m fu) (Ds.dL fu)) (.ab (nz (Ds.lJ th m fu) (Ds.nF m fu) pg) (.ret [er 1 wh on ep pg (dT (Ds.lJ th m fu) (Ds.nF m fu) pg) (.an 10 0),Ds.jw 3 4 (Ds.dL fu),fm 1 aa fr fs gn,.aq (.az Ds.cS (Ds.lJ th m fu)) Ds.eS,.map Ds.kS (Ds.nF m fu),.ay [.an 0 0] 69,.ay [.s (.bool mo),.s (.int .i64 me),.s (.int .i64 mp)] 153,.ay [.s (.int .i64 other)] 3,.ay [.s (.bool false)] 4,.ay [.s (.bool true)] 4,fm 1 pg (ny (Ds.lJ th m fu) (dT (Ds.lJ th m fu) (Ds.nF m fu) pg)) Bx.aL Bx.aL] (.s (.int .i64 (Ds.yB fu)))))))) (.ab (aG ((0:Int)+1)) (.ite true (.ab ((0:Int)<=1) (.ab ((1:Int)<(↑(5:Nat):Int)) (.at (anS (Ds.lJ th m fu) (Ds.nF m fu) (Ds.dL fu) wh on ep pg bu aa fr fs gn mo me mp other)))) (.at (yh (Ds.lJ th m fu) (Ds.nF m fu) (Ds.dL fu) wh on ep pg bu aa fr fs gn mo me mp other))))))):=by kernel_rfl
theorem ay0(th:Th)(m:As)(fu wh:Int)(on:Bool)(ep pg:Int)(bu:Ws)(aa:Int)(fr fs gn:Ws)(mo:Bool)(me mp other:Int):run P sD.sum Tryz.f41 yY (anS th m fu wh on ep pg bu aa fr fs gn mo me mp other) (inl:=[92])=
 Tree.ab (bx (some [AV.an 0 0,.s (.int .i64 other),.agg [.s (.bool false),.s (.int .i64 me),.s (.int .i64 mp)]])) (.ab (bx (some (Ds.hD th m fu))) (.ab (Ds.bz th m fu) (.ab (aG other) (.ite (Ds.yD th fu other false me mp !=0) (.ab (bx (some [AV.an 0 0])) (.ab (bx (some (jR th (Ds.kz th m fu other false me mp) (Ds.pv th fu other false me mp) wh on ep pg bu aa fr fs gn))) (.ab (Ds.bz th (Ds.kz th m fu other false me mp) (Ds.pv th fu other false me mp)) (.ab (nz th (Ds.kz th m fu other false me mp) pg) (.ret [er 1 wh on ep pg (dT th (Ds.kz th m fu other false me mp) pg) (.an 10 0),Ds.jw 3 4 (Ds.pv th fu other false me mp),fm 1 aa fr fs gn,.aq (.az Ds.cS th) Ds.eS,.map Ds.kS (Ds.kz th m fu other false me mp),.ay [.an 0 0] 69,.ay [.s (.bool false),.s (.int .i64 me),.s (.int .i64 mp)] 153,.ay [.s (.int .i64 other)] 3,.ay [.s (.bool false)] 4,.ay [.s (.bool true)] 4,fm 1 pg (ny th (dT th (Ds.kz th m fu other false me mp) pg)) Bx.aL Bx.aL] (.s (.int .i64 (Ds.yD th fu other false me mp)))))))) (.ab (aG ((1:Int)+1)) (.ite true (.ab ((0:Int)<=2) (.ab ((2:Int)<(↑(5:Nat):Int)) (.at (anT th (Ds.kz th m fu other false me mp) (Ds.pv th fu other false me mp) wh on ep pg bu aa fr fs gn false me mp other)))) (.at (yh th (Ds.kz th m fu other false me mp) (Ds.pv th fu other false me mp) wh on ep pg bu aa fr fs gn false me mp other)))))))):=by kernel_rfl
theorem ay1(th:Th)(m:As)(fu wh:Int)(on:Bool)(ep pg:Int)(bu:Ws)(aa:Int)(fr fs gn:Ws)(mo:Bool)(me mp other:Int):run P sD.sum Tryz.f41 yY (anT th m fu wh on ep pg bu aa fr fs gn mo me mp other) (inl:=[92])=
 Tree.ab (bx (some [AV.an 0 0])) (.ab (bx (some (Ds.hD th m fu))) (.ab (Ds.bz th m fu) (.ite (Ds.yB fu !=0) (.ab (bx (some [AV.an 0 0])) (.ab (bx (some (jR (Ds.lJ th m fu) (Ds.nF m fu) (Ds.dL fu) wh on ep pg bu aa fr fs gn))) (.ab (Ds.bz (Ds.lJ th m fu) (Ds.nF m fu) (Ds.dL fu)) (.ab (nz (Ds.lJ th m fu) (Ds.nF m fu) pg) (.ret [er 1 wh on ep pg (dT (Ds.lJ th m fu) (Ds.nF m fu) pg) (.an 10 0),Ds.jw 3 4 (Ds.dL fu),fm 1 aa fr fs gn,.aq (.az Ds.cS (Ds.lJ th m fu)) Ds.eS,.map Ds.kS (Ds.nF m fu),.ay [.an 0 0] 69,.ay [.s (.bool mo),.s (.int .i64 me),.s (.int .i64 mp)] 153,.ay [.s (.int .i64 other)] 3,.ay [.s (.bool false)] 4,.ay [.s (.bool true)] 4,fm 1 pg (ny (Ds.lJ th m fu) (dT (Ds.lJ th m fu) (Ds.nF m fu) pg)) Bx.aL Bx.aL] (.s (.int .i64 (Ds.yB fu)))))))) (.ab (aG ((2:Int)+1)) (.ite true (.ab ((0:Int)<=3) (.ab ((3:Int)<(↑(5:Nat):Int)) (.at (anU (Ds.lJ th m fu) (Ds.nF m fu) (Ds.dL fu) wh on ep pg bu aa fr fs gn mo me mp other)))) (.at (yh (Ds.lJ th m fu) (Ds.nF m fu) (Ds.dL fu) wh on ep pg bu aa fr fs gn mo me mp other))))))):=by kernel_rfl
theorem ay2(th:Th)(m:As)(fu wh:Int)(on:Bool)(ep pg:Int)(bu:Ws)(aa:Int)(fr fs gn:Ws)(mo:Bool)(me mp other:Int):run P sD.sum Tryz.f41 yY (anU th m fu wh on ep pg bu aa fr fs gn mo me mp other) (inl:=[92])=
 Tree.ab (bx (some [AV.an 0 0,.s (.int .i64 other),.agg [.s (.bool true),.s (.int .i64 me),.s (.int .i64 mp)]])) (.ab (bx (some (Ds.hD th m fu))) (.ab (Ds.bz th m fu) (.ab (aG other) (.ite (Ds.yD th fu other true me mp !=0) (.ab (bx (some [AV.an 0 0])) (.ab (bx (some (jR th (Ds.kz th m fu other true me mp) (Ds.pv th fu other true me mp) wh on ep pg bu aa fr fs gn))) (.ab (Ds.bz th (Ds.kz th m fu other true me mp) (Ds.pv th fu other true me mp)) (.ab (nz th (Ds.kz th m fu other true me mp) pg) (.ret [er 1 wh on ep pg (dT th (Ds.kz th m fu other true me mp) pg) (.an 10 0),Ds.jw 3 4 (Ds.pv th fu other true me mp),fm 1 aa fr fs gn,.aq (.az Ds.cS th) Ds.eS,.map Ds.kS (Ds.kz th m fu other true me mp),.ay [.an 0 0] 69,.ay [.s (.bool true),.s (.int .i64 me),.s (.int .i64 mp)] 153,.ay [.s (.int .i64 other)] 3,.ay [.s (.bool false)] 4,.ay [.s (.bool true)] 4,fm 1 pg (ny th (dT th (Ds.kz th m fu other true me mp) pg)) Bx.aL Bx.aL] (.s (.int .i64 (Ds.yD th fu other true me mp)))))))) (.ab (aG ((3:Int)+1)) (.ite true (.ab ((0:Int)<=4) (.ab ((4:Int)<(↑(5:Nat):Int)) (.at (anV th (Ds.kz th m fu other true me mp) (Ds.pv th fu other true me mp) wh on ep pg bu aa fr fs gn true me mp other)))) (.at (yh th (Ds.kz th m fu other true me mp) (Ds.pv th fu other true me mp) wh on ep pg bu aa fr fs gn true me mp other)))))))):=by kernel_rfl
theorem ay3(th:Th)(m:As)(fu wh:Int)(on:Bool)(ep pg:Int)(bu:Ws)(aa:Int)(fr fs gn:Ws)(mo:Bool)(me mp other:Int):run P sD.sum Tryz.f41 yY (anV th m fu wh on ep pg bu aa fr fs gn mo me mp other) (inl:=[92])=
 Tree.ab (bx (some [AV.an 0 0])) (.ab (bx (some (Ds.hD th m fu))) (.ab (Ds.bz th m fu) (.ite (Ds.yB fu !=0) (.ab (bx (some [AV.an 0 0])) (.ab (bx (some (jR (Ds.lJ th m fu) (Ds.nF m fu) (Ds.dL fu) wh on ep pg bu aa fr fs gn))) (.ab (Ds.bz (Ds.lJ th m fu) (Ds.nF m fu) (Ds.dL fu)) (.ab (nz (Ds.lJ th m fu) (Ds.nF m fu) pg) (.ret [er 1 wh on ep pg (dT (Ds.lJ th m fu) (Ds.nF m fu) pg) (.an 10 0),Ds.jw 3 4 (Ds.dL fu),fm 1 aa fr fs gn,.aq (.az Ds.cS (Ds.lJ th m fu)) Ds.eS,.map Ds.kS (Ds.nF m fu),.ay [.an 0 0] 69,.ay [.s (.bool mo),.s (.int .i64 me),.s (.int .i64 mp)] 153,.ay [.s (.int .i64 other)] 3,.ay [.s (.bool false)] 4,.ay [.s (.bool true)] 4,fm 1 pg (ny (Ds.lJ th m fu) (dT (Ds.lJ th m fu) (Ds.nF m fu) pg)) Bx.aL Bx.aL] (.s (.int .i64 (Ds.yB fu)))))))) (.ab (aG ((4:Int)+1)) (.ite false (.stuck ("store.go:121" ++ " " ++ "index: no cell")) (.at (yh (Ds.lJ th m fu) (Ds.nF m fu) (Ds.dL fu) wh on ep pg bu aa fr fs gn mo me mp other))))))):=by kernel_rfl
theorem aw4(th:Th)(m:As)(fu wh:Int)(on:Bool)(ep pg:Int)(bu:Ws)(aa:Int)(fr fs gn:Ws)(mo:Bool)(me mp other:Int):run P sD.sum Tryz.f41 yY (yh th m fu wh on ep pg bu aa fr fs gn mo me mp other) (inl:=[92])=
 Tree.ab (bx (some [AV.an 0 0])) (.ab (bx (some (jR th m fu other mo me mp bu aa fr fs gn))) (.ab (Ds.bz th m fu) (.ab (nz th m mp) (.ret [er 1 other mo me mp (dT th m mp) (.an 8 0),Ds.jw 3 4 fu,fm 1 aa fr fs gn,.aq (.az Ds.cS th) Ds.eS,.map Ds.kS m,.ay [.an 0 0] 69,.ay [.s (.bool mo),.s (.int .i64 me),.s (.int .i64 mp)] 153,.ay [.s (.int .i64 other)] 3,fm 1 mp (ny th (dT th m mp)) Bx.aL Bx.aL] (.s (.aZ .i64 0)))))):=by kernel_rfl
abbrev D3:Type:=Th×As×Int
def cA(s:D3):D3:=(Ds.lJ s.1 s.2.1 s.2.2,Ds.nF s.2.1 s.2.2,Ds.dL s.2.2)
def cB(s:D3)(k:Int)(b:Bool)(me mp:Int):D3:=(s.1,Ds.kz s.1 s.2.1 s.2.2 k b me mp,Ds.pv s.1 s.2.2 k b me mp)
theorem aaq{s:D3}(h:Ds.bz s.1 s.2.1 s.2.2):Ds.bz (cA s).1 (cA s).2.1 (cA s).2.2:=Ds.arp h
theorem ail{s:D3}{k:Int}{b:Bool}{me mp:Int}(h:Ds.bz s.1 s.2.1 s.2.2):Ds.bz (cB s k b me mp).1 (cB s k b me mp).2.1 (cB s k b me mp).2.2:=Ds.adf h
theorem aw5{Z:bB}:gE P Z 91 sC1:=by
 refine aK Tryz.func91 (by kernel_rfl) (λx=>le_of_ble_eq_true (by kernel_rfl)) ?_;rintro⟨(b:Bool),(mo:Bool),(me:Int),(mp:Int),(other:Int),(th:Th),(m:As),(fu:Int),(wh:Int),(on:Bool),(ep:Int),(pg:Int),(bu:Ws),(aa:Int),(fr:Ws),(fs:Ws),(gn:Ws)⟩ _ X hX hz;exact Ds.dk hz hX (by intro y hy;cases hy) aR.Ok.nil Tryz.func91 (ayX b mo me mp other th m fu wh on ep pg bu aa fr fs gn) (bN 8 rfl (le_refl _) rfl rfl)
theorem jP:sD.Ok P Bx.bZ:=aR.Ok.cons (aqC.sum mT) (aR.Ok.cons (aez (aw5.sum mC1)) (aR.Ok.cons (Ds.ada.sum Ds.xb) (aR.Ok.cons (Ds.art.sum mGs) (aR.Ok.cons (anQ.sum mA1) aR.Ok.nil))))
theorem oW:∀x∈yY,5<=x.2.m:=by intro y hy;simp[yY]at hy;rcases hy with rfl|rfl|rfl|rfl<;>exact le_refl _
theorem pG:ago.Ok P Bx.bZ:=aR.Ok.cons (auo.sum mGt) (aR.Ok.cons (aqA.sum mGt) (aR.Ok.cons (aee.sum mPt) (aR.Ok.cons (aef.sum mGt) (aR.Ok.cons (aem.sum mT) (aR.Ok.cons (Ds.adg.sum Ds.xb) (aR.Ok.cons Bx.rZ.sum (aR.Ok.cons Bx.vu.sum (aR.Ok.cons Bx.amB.sum aR.Ok.nil))))))))
theorem aim:gE P Bx.bZ 35 auC:=by
 refine aK Tryz.func35 (by kernel_rfl) (λx=>le_of_ble_eq_true (by kernel_rfl)) ?_;rintro⟨⟨(th:Th),(m:As),(fu:Int),(wh:Int),(on:Bool),(ep:Int),(pg:Int),(bu:Ws),(aa:Int),(fr:Ws),(fs:Ws),(gn:Ws)⟩,(k:ByteArray)⟩ ⟨(hd:Ds.bz th m fu),(hr:0<=aa/\aa<=65536),_⟩ X hX hz;exact Ds.dk hz hX (by intro y hy;cases hy) pG Tryz.func35 (ayR th m fu wh on ep pg bu aa fr fs gn k) ⟨rfl,rfl,hd,hr,bN 5 rfl (le_refl _) rfl rfl⟩
theorem anW:gE P Bx.bZ 36 aw2:=by
 refine aK Tryz.func36 (by kernel_rfl) (λx=>le_of_ble_eq_true (by kernel_rfl)) ?_;rintro⟨⟨(th:Th),(m:As),(fu:Int),(wh:Int),(on:Bool),(ep:Int),(pg:Int),(bu:Ws),(aa:Int),(fr:Ws),(fs:Ws),(gn:Ws)⟩,(k:ByteArray)⟩ ⟨(hd:Ds.bz th m fu),(hr:0<=aa/\aa<=65536),_⟩ X hX hz;exact Ds.dk hz hX (by intro y hy;cases hy) pG Tryz.func36 (ayS th m fu wh on ep pg bu aa fr fs gn k) ⟨rfl,rfl,hd,hr,bN 5 rfl (le_refl _) rfl rfl⟩
theorem aqQ:gE P Bx.bZ 39 ayP:=by
 refine aK Tryz.func39 (by kernel_rfl) (λx=>le_of_ble_eq_true (by kernel_rfl)) ?_;rintro⟨⟨(th:Th),(m:As),(fu:Int),(wh:Int),(on:Bool),(ep:Int),(pg:Int),(bu:Ws),(aa:Int),(fr:Ws),(fs:Ws),(gn:Ws)⟩,(k:ByteArray),(v:ByteArray)⟩ ⟨(hd:Ds.bz th m fu),(hf:Bx.okW fr),(hr:0<=aa/\aa<=65536),_⟩ X hX hz;exact Ds.dk hz hX (by intro y hy;cases hy) pG Tryz.func39 (ayT th m fu wh on ep pg bu aa fr fs gn k v) ⟨rfl,rfl,hd,hf,hr,bN 5 rfl (le_refl _) rfl rfl⟩
theorem aqR:gE P Bx.bZ 40 ayQ:=by
 refine aK Tryz.func40 (by kernel_rfl) (λx=>le_of_ble_eq_true (by kernel_rfl)) ?_;rintro⟨⟨(th:Th),(m:As),(fu:Int),(wh:Int),(on:Bool),(ep:Int),(pg:Int),(bu:Ws),(aa:Int),(fr:Ws),(fs:Ws),(gn:Ws)⟩,(k:ByteArray)⟩ ⟨(hd:Ds.bz th m fu),(hf:Bx.okW fr),(hr:0<=aa/\aa<=65536),_⟩ X hX hz;exact Ds.dk hz hX (by intro y hy;cases hy) pG Tryz.func40 (ayU th m fu wh on ep pg bu aa fr fs gn k) ⟨rfl,rfl,hd,hf,hr,bN 5 rfl (le_refl _) rfl rfl⟩
theorem aar:gE P Bx.bZ 43 auD:=by
 refine aK Tryz.func43 (by kernel_rfl) (λx=>le_of_ble_eq_true (by kernel_rfl)) ?_;rintro⟨(th:Th),(m:As),(fu:Int),(wh:Int),(on:Bool),(ep:Int),(pg:Int),(bu:Ws),(aa:Int),(fr:Ws),(fs:Ws),(gn:Ws)⟩ _ X hX hz;exact Ds.dk hz hX (by intro y hy;cases hy) pG Tryz.func43 (ayV th m fu wh on ep pg bu aa fr fs gn) (bN 5 rfl (le_refl _) rfl rfl)
theorem aeA:gE P Bx.bZ 44 auE:=by
 refine aK Tryz.func44 (by kernel_rfl) (λx=>le_of_ble_eq_true (by kernel_rfl)) ?_;rintro⟨(th:Th),(m:As),(fu:Int),(wh:Int),(on:Bool),(ep:Int),(pg:Int),(bu:Ws),(aa:Int),(fr:Ws),(fs:Ws),(gn:Ws)⟩ ⟨(hd:Ds.bz th m fu),(hr:0<=aa/\aa<=65536),(h0:sI th m aa=0),(hw:Bx.okW (ef th m bu aa)),_⟩ X hX hz;refine Ds.dk hz hX (by intro y hy;cases hy) pG Tryz.func44 (ayW th m fu wh on ep pg bu aa fr fs gn) ⟨rfl,rfl,hd,hr,λh=> ?_,λ_=>⟨rfl,rfl,hd,hw, ?_⟩⟩;rw[h0]at h;cases h;exact bN 5 rfl (le_refl _) rfl rfl
def aw6:aR:=[(89,cC sA1 mA1)]
theorem ay4(th:Th)(m:As)(fu wh:Int)(on:Bool)(ep pg:Int)(bu:Ws)(aa:Int)(fr fs gn:Ws):run P aw6.sum Tryz.f42 [] (start Tryz.f42 [.an 0 0] (jR th m fu wh on ep pg bu aa fr fs gn))=
 Tree.ab (bx (some [AV.an 0 0])) (.ab (bx (some (jR th m fu wh on ep pg bu aa fr fs gn))) (.ab (Ds.bz th m fu) (.ab (nz th m pg) (.ret [er 1 wh on ep pg (dT th m pg) (.an 5 0),Ds.jw 3 4 fu,fm 1 aa fr fs gn,.aq (.az Ds.cS th) Ds.eS,.map Ds.kS m,fm 1 pg (ny th (dT th m pg)) Bx.aL Bx.aL] (.s (.aZ .i64 0)))))):=by kernel_rfl
def okK(e:En):Prop:=1<=e.1.size/\e.1.size<=24/\e.2.1.size<=100
def yZ(l:List En):Prop:=l.Pairwise λa b=>slt a.1 b.1=true
theorem anX{es:List En}(h:jk (cg es)):yZ es:=by
 refine List.pairwise_iff_getElem.2 λi j hi hj lI=> ?_;have:=h i j lI (by unfold cg;rw[length_map];exact hj);simpa[cg,List.getD,hi,hj]using this
theorem auG{a b c:ByteArray}(h1:slt a b=true)(h2:slt c b=false):slt a c=true:=by
 rcases ig b c with h|h|h;exact dc h1 h;rw[<-h];exact h1;rw[h]at h2;cases h2
theorem ain:∀(h:Nat) {t:TN h},pJ h t->(∀e∈eV h t,okK e)/\yZ (eV h t)
 |0,t,ok=>by
  have⟨a,b⟩:=xO.1 ok.2.1;exact⟨a,anX b⟩
 |h+1,t,ok=>by
  have⟨_,_,_,_,⟨s1,s2⟩,h6⟩:=ok;rw[aaf]
  have ad:∀ks:List (Kd h),(ks.Pairwise λa b=>∀e∈eV h a.2,slt e.1 b.1=true)->(∀k∈ks,∀e∈eV h k.2,slt e.1 k.1=false)->(∀k∈ks,pJ h k.2)->(∀e∈cw h ks,okK e)/\yZ (cw h ks):=by
   intro ks
   induction ks with
   |nil=>intro _ _ _;exact⟨λe he=>(by cases he),List.Pairwise.nil⟩
   |cons k r ih=>
    intro p q o;have⟨p1,p2⟩:=pairwise_cons.1 p;have⟨a,b⟩:=ih p2 (λx hx=>q x (mem_cons_of_mem _ hx)) (λx hx=>o x (mem_cons_of_mem _ hx));have⟨c,d⟩:=ain h (o k mem_cons_self);rw[jq];refine⟨λe he=>(mem_append.1 he).elim (c e) (a e),List.pairwise_append.2 ⟨d,b,λx hx y hy=> ?_⟩⟩;have⟨k2,ri,hy⟩:=mem_flatMap.1 hy;exact auG (p1 k2 ri x hx) (q k2 (mem_cons_of_mem _ ri) y hy)
  exact ad t.2 s1 s2 h6
section
variable{th:Th}{F0:Int->Prop}{m:As}{fu aa:Int}{fr fs gn:Ws}{h:Nat}{E:List En}{ps:List Int}{po:Nat}
theorem ba.yZ(H:ba th m aa h E ps po):(∀e∈E,okK e)/\yZ E:=by
 rcases H with⟨_,_,e,_⟩|⟨t,_,_,_,_,h4,h5,_⟩;subst e;exact⟨λe he=>(by cases he),List.Pairwise.nil⟩;subst h5;exact ain h h4
theorem ba.zero(H:ba th m aa h E ps po):(aa=0↔E=[])/\(E=[]->ps=[]):=by
 rcases H with⟨a,_,e,p,_⟩|⟨t,_,h2,_,_,h4,h5,_⟩;exact⟨⟨λ_=>e,λ_=>a⟩,λ_=>p⟩;have:=si h h4;rw[<-h5]at this;exact⟨⟨λx=>by omega,λx=>absurd x this⟩,λx=>absurd x this⟩
end
theorem anY{e:En}{r:List En}(hr:yZ (e::r)):cN (e::r) e.1=r:=by
 have⟨a,_⟩:=pairwise_cons.1 hr;rw[tH];have:(!yJ e.1 e)=false:=by simp
 rw[this,if_neg (by decide)];refine List.filter_eq_self.2 λx hx=> ?_;simp only[not_eq_true',decide_eq_false_iff_not];exact λh=>aln (a x hx) h.symm
abbrev thB:Th:=th0 1000
theorem zM:Ds.fg thB=250:=by
 unfold Ds.fg;rw[show thB.length=1000 from List.length_replicate ..];rfl
theorem TI.none{th:Th}{f0:Ws}{m:As}{fu aa:Int}{fr fs gn:Ws}{h:Nat}{ps:List Int}{po:Nat}(hw:Bx.okW f0)(T:TI th (In f0) m fu aa fr fs gn h [] ps po):aa=0/\ps=[]/\fs=Bx.aL/\ir fr=ir f0:=by
 have⟨a,b⟩:=T.holds.zero;have hps:=b rfl;subst hps;have hfs:fs=Bx.aL:=af6 T.ok.fs Bx.fh.1 λk=>⟨λx=>(by have:=T.inv.sub k x;cases this),λx=>absurd x eZ⟩;have⟨c1,c2⟩:=T.cnt hw λp=>Iff.rfl;exact⟨a.2 rfl,rfl,hfs,by simp only[length_nil]at c2;omega⟩
section
variable{th:Th}{F0:Int->Prop}{m:As}{fu aa:Int}{fr fs gn:Ws}{h:Nat}{E:List En}{ps:List Int}{po:Nat}
end
structure Sd where
 th:Th
 m:As
 fu:Int
 wh:Int
 ep:Int
 pg:Int
 bu:Ws
 aa:Int
 fr:Ws
 fs:Ws
 gn:Ws
structure Mrk (th:Th) (m:As) (wh ep pg:Int):Prop where
 k:wh=0\/wh=1
 n:3<=Ds.fg th
 on:Ds.jj th m wh=true
 e:Ds.gk th m wh=ep
 p:Ds.mF th m wh=pg
 ot:Ds.jj th m (1 - wh)=true->Ds.gk th m (1 - wh)<ep
abbrev Fr(s:Sd):Int->Prop:=In (ny s.th s.bu)
structure SI (s:Sd) (E K:List En) (n h:Nat) (ps:List Int) (po h0:Nat) (np:List Int) (nI:Nat):Prop where
 mr:Mrk s.th s.m s.wh s.ep s.pg
 t:TI s.th (Fr s) s.m s.fu s.aa s.fr s.fs s.gn h E ps po
 k:ba s.th s.m s.pg h0 K np nI
 nd:np.Nodup
 w:Bx.okW s.bu
 wi:∀p,In s.bu p↔p∈np
 rg0:∀p∈np,2<=p/\p<Ds.fg s.th
 rg:∀p∈ps,2<=p/\p<Ds.fg s.th
 q:∀x:Int,¬Fr s (x / 4)->cW s.m x=none
 b:po<=81*n/\nI<=81*n/\E.length<=n/\K.length<=n
 e0:0<=s.ep
def St(s:Sd)(E K:List En)(n:Nat):Prop:=∃h ps po h0 np nI,SI s E K n h ps po h0 np nI
def bL(s:Sd)(ad:ByteArray)(op:Option ByteArray):Sd:=
 ⟨s.th,op0 s.th ad op s.m s.fu s.aa s.fr s.fs s.gn,op1 s.th ad op s.m s.fu s.aa s.fr s.fs s.gn,s.wh,s.ep,s.pg,s.bu,uL s.th ad op s.m s.fu s.aa s.fr s.fs s.gn,op2 s.th ad op s.m s.fu s.aa s.fr s.fs s.gn,op3 s.th ad op s.m s.fu s.aa s.fr s.fs s.gn,op4 s.th ad op s.m s.fu s.aa s.fr s.fs s.gn⟩
def jY(s:Sd)(ad:ByteArray)(op:Option ByteArray):Int:=opE s.th ad op s.m s.fu s.aa s.fr s.fs s.gn
def iY(s:Sd)(wh ep pg:Int):Sd:=⟨s.th,s.m,s.fu,wh,ep,pg,dT s.th s.m pg,pg,ny s.th (dT s.th s.m pg),Bx.aL,Bx.aL⟩
theorem aio{th:Th}{W:Ws}(hw:Bx.okW W):Bx.okW (Bx.cf .andNot (Bx.cf .andNot (Bx.bw (Ds.fg th)) (Bx.bw 2)) W):=
 (Bx.iL (.inr (.inr rfl)) (Bx.iL (.inr (.inr rfl)) (Bx.cr _).1 (Bx.cr 2).1).1 hw).1
theorem auH{th:Th}{W:Ws}(hw:Bx.okW W):Bx.okW (ny th W):=anO (aio hw)
theorem aip{th:Th}{W:Ws}(hw:Bx.okW W){p:Int}:In (Bx.cf .andNot (Bx.cf .andNot (Bx.bw (Ds.fg th)) (Bx.bw 2)) W) p↔(2<=p/\p<Ds.fg th/\p<1024)/\¬In W p:=by
 have w2:=(Bx.iL (.inr (.inr rfl)) (Bx.cr (Ds.fg th)).1 (Bx.cr 2).1).1;rw[sd w2 hw,sd (Bx.cr _).1 (Bx.cr _).1,mO,mO];constructor;rintro⟨⟨⟨a,b⟩,c⟩,d⟩;exact⟨by omega,d⟩;rintro⟨a,d⟩;exact⟨⟨⟨by omega,by omega⟩,by omega⟩,d⟩
theorem oX{th:Th}{W:Ws}(hw:Bx.okW W){p:Int}:In (ny th W) p↔(2<=p/\p<Ds.fg th/\p<1024)/\¬In W p:=by
 unfold ny;rw[anP (aio hw),aip hw];exact⟨λx=>x.1,λx=>⟨x,by omega,by omega⟩⟩
theorem aqS{th:Th}{m:As}{fu:Int}(hd:Ds.bz th m fu):Ds.fg th<=1024:=by
 have:=hd.t.1;have:=Ds.oJ th;omega
theorem aiq{th:Th}{m:As}{fu aa:Int}{h:Nat}{E:List En}{ps:List Int}{po:Nat}{W:Ws}(hd:Ds.bz th m fu)(H:ba th m aa h E ps po)(nd:ps.Nodup)(hw:Bx.okW W)(hi:∀p,In W p↔p∈ps):
 TI th (In (ny th W)) m fu aa (ny th W) Bx.aL Bx.aL h E ps po:=by
 have f0:∀p,In (ny th W) p->2<=p/\Ds.vn th p=true:=λp hp=>by
  have⟨a,_⟩:=(oX hw).1 hp;exact⟨a.1,Ds.gv.2 ⟨by omega,a.2.1⟩⟩
 exact⟨⟨hd,auH hw,Bx.fh.1,Bx.fh.1,f0⟩,rfl,f0,H,⟨nd,λp=>⟨.inl,λx=>x.elim id (λy=>absurd y eZ)⟩,λp _=>eZ,λp hp=>absurd hp eZ,λp hp hf=>absurd ((hi p).2 hp) ((oX hw).1 hf).2⟩⟩
theorem agp{th:Th}{m m':As}{x:Int}(h:cW m' x=cW m x):Ds.dX th m' x=Ds.dX th m x:=by
 unfold Ds.dX Ds.mC;rw[h]
theorem sF{th fQ:Th}(h:fQ.length=th.length)(k:Int):Ds.mE fQ k=Ds.mE th k:=by unfold Ds.mE Ds.fg;rw[h]
theorem abX{th fQ:Th}{m m':As}{k:Int}(hl:fQ.length=th.length)(h:Ds.dX fQ m' (k*4)=Ds.dX th m (k*4)):Ds.jj fQ m' k=Ds.jj th m k/\Ds.gk fQ m' k=Ds.gk th m k/\Ds.mF fQ m' k=Ds.mF th m k:=by
 have c:=sF hl k;unfold Ds.jj Ds.gk Ds.mF;rw[c,h];exact⟨rfl,rfl,rfl⟩
theorem sG{th fQ:Th}(h:fQ.length=th.length):Ds.fg fQ=Ds.fg th:=by unfold Ds.fg;rw[h]
theorem Mrk.same{th fQ:Th}{m m':As}{wh ep pg:Int}(M:Mrk th m wh ep pg)(hl:fQ.length=th.length)(h0:Ds.dX fQ m' 0=Ds.dX th m 0)(h4:Ds.dX fQ m' 4=Ds.dX th m 4):Mrk fQ m' wh ep pg:=by
 have s0:=abX (k:=0) hl h0;have s1:=abX (k:=1) hl h4;have⟨k,n,a,b,c,d⟩:=M;refine⟨k,by rw[sG hl];exact n, ?_, ?_, ?_, ?_⟩;rcases k with rfl|rfl;rw[s0.1];exact a;rw[s1.1];exact a;rcases k with rfl|rfl;rw[s0.2.1];exact b;rw[s1.2.1];exact b;rcases k with rfl|rfl;rw[s0.2.2];exact c;rw[s1.2.2];exact c;rcases k with rfl|rfl;show Ds.jj fQ m' 1=true->Ds.gk fQ m' 1<ep;rw[s1.1,s1.2.1];exact d;show Ds.jj fQ m' 0=true->Ds.gk fQ m' 0<ep;rw[s0.1,s0.2.1];exact d
theorem Mrk.eK{th:Th}{m:As}{wh ep pg:Int}(M:Mrk th m wh ep pg):Ts.eK th m=(wh,true,ep,pg):=by
 have⟨k,n,a,b,c,d⟩:=M;have r0:Ds.mE th 0=0:=Ds.lj.2 ⟨by omega,by omega,by omega⟩;have r1:Ds.mE th 1=0:=Ds.lj.2 ⟨by omega,by omega,by omega⟩;unfold Ts.eK;rcases k with rfl|rfl;rw[pF (s:=(0,false,0,0)) r0 a (.inl rfl),yd,a.symm.trans a,b,c];rintro⟨_,x,y|y⟩;cases y;have:=d x;have y:Ds.gk th m 1>Ds.gk th m 0:=y;have e:Ds.gk th m (1 - 0)=Ds.gk th m 1:=rfl;omega;by_cases h0:Ds.jj th m 0=true;rw[pF (s:=(0,false,0,0)) r0 h0 (.inl rfl),pF r1 a (.inr ?_),b,c];have:=d h0;show Ds.gk th m 1>Ds.gk th m 0;have e:Ds.gk th m (1 - 1)=Ds.gk th m 0:=rfl;omega;rw[yd (s:=(0,false,0,0)) (λx=>h0 x.2.1),pF r1 a (.inl rfl),b,c]
theorem aas{th fQ:Th}{m m':As}:∀(h:Nat) {t:TN h},rep th m h t->(∀p∈nG h t,Ds.gS fQ m' p=Ds.gS th m p/\Ds.fR fQ m' p=Ds.fR th m p)->rep fQ m' h t
 |0,t,hr,hp=>by
  have⟨a,b,c,d,e⟩:=(show Rd th m t.1 true t.2 []from hr);have⟨x,y⟩:=hp _ (qK 0 t);have x:Ds.gS fQ m' t.1=Ds.gS th m t.1:=x;have y:Ds.fR fQ m' t.1=Ds.fR th m t.1:=y;exact⟨by rw[x];exact a,by rw[y];exact b,by rw[y];exact c,by rw[y];exact d,by rw[y];exact e⟩
 |h+1,t,hr,hp=>by
  have⟨⟨a,b,c,d,e⟩,r⟩:=(show Rd th m t.1 false [] (t.2.map (du h))/\∀k∈t.2,rep th m h k.2 from hr);have⟨x,y⟩:=hp _ (qK (h+1) t);have x:Ds.gS fQ m' t.1=Ds.gS th m t.1:=x;have y:Ds.fR fQ m' t.1=Ds.fR th m t.1:=y;exact⟨⟨by rw[x];exact a,by rw[y];exact b,by rw[y];exact c,by rw[y];exact d,by rw[y];exact e⟩,λk hk=>aas h (r k hk) λp kD=>hp p (mem_cons_of_mem _ (mem_flatMap.2 ⟨k,hk,kD⟩))⟩
theorem ba.alike{th fQ:Th}{m m':As}{aa:Int}{h:Nat}{E:List En}{ps:List Int}{po:Nat}(H:ba th m aa h E ps po)(hp:∀p∈ps,Ds.gS fQ m' p=Ds.gS th m p/\Ds.fR fQ m' p=Ds.fR th m p):ba fQ m' aa h E ps po:=by
 rcases H with H|⟨t,h1,h2,h22,h3,h4,h5,h6,h7⟩;exact .inl H;subst h6;exact .inr ⟨t,h1,h2,h22,aas h h3 hp,h4,h5,rfl,h7⟩
theorem vG{th fQ:Th}{m m':As}{p:Int}(hl:fQ.length=th.length)(h:∀x:Int,x / 4=p->Ds.dX fQ m' x=Ds.dX th m x):Ds.gS fQ m' p=Ds.gS th m p/\Ds.fR fQ m' p=Ds.fR th m p:=
 Ds.adh hl λi hi=>(h _ (by omega)).symm
section
variable{s:Sd}{E K:List En}{n h:Nat}{ps:List Int}{po h0:Nat}{np:List Int}{nI:Nat}
theorem SI.out(S:SI s E K n h ps po h0 np nI){p:Int}(hp:p∈np):¬Fr s p:=λx=>((oX S.w).1 x).2 ((S.wi p).2 hp)
theorem SI.low(S:SI s E K n h ps po h0 np nI){p:Int}(hp:p<2):¬Fr s p:=λx=>by
 have:=((oX S.w).1 x).1;omega
theorem SI.small(S:SI s E K n h ps po h0 np nI)(hn:n<=1000):h<=14/\h0<=14:=by
 have⟨b1,b2,_⟩:=S.b;refine⟨S.t.small (by omega),S.k.agj ?_⟩;have:19*3^15=272629233:=rfl;omega
theorem SI.aw7(S:SI s E K n h ps po h0 np nI){m':As}(hs:∀x:Int,¬Fr s (x / 4)->cW m' x=cW s.m x):
 Mrk s.th m' s.wh s.ep s.pg/\ba s.th m' s.pg h0 K np nI/\∀x:Int,¬Fr s (x / 4)->cW m' x=none:=
 ⟨S.mr.same rfl (agp (hs 0 (S.low (by decide)))) (agp (hs 4 (S.low (by decide)))),S.k.alike λp hp=>vG rfl λx hx=>agp (hs x (by rw[hx];exact S.out hp)),λx hx=>(hs x hx).trans (S.q x hx)⟩
theorem aqT(ad:ByteArray)(op:Option ByteArray)(E:List En):(lC ad op E).length<=E.length+1:=by
 refine le_trans agm ?_;split<;>omega
theorem aqU(op:Option ByteArray):opP op<=81:=by
 cases op with
 |none=>exact zero_le _
 |some v=>exact le_refl _
theorem SI.op(S:SI s E K n h ps po h0 np nI)(hn:n<=1000)(ad:ByteArray)(op:Option ByteArray):
 (s.fu= -1->(bL s ad op).fu= -1)/\((jY s ad op=0/\∃h' ps' po',SI (bL s ad op) (lC ad op E) K (n+1) h' ps' po' h0 np nI)\/(jY s ad op≠0/\SI (bL s ad op) E K (n+1) h ps po h0 np nI)):=by
 have⟨b1,b2,b3,b4⟩:=S.b;rcases aqO (ad:=ad) (op:=op) S.t (S.small hn).1 with⟨a,b,c,h',ps',po',G⟩|⟨m',fJ,e,a,b,c⟩;have⟨p1,p2,p3⟩:=S.aw7 G.sec;have:=G.po;have:=aqU op;refine⟨G.fu,.inl ⟨a,h',ps',po',p1,G.ti,p2,S.nd,S.w,S.wi,S.rg0,λp hp=> ?_,p3,⟨by omega,by omega,le_trans (aqT ad op E) (by omega),by omega⟩,S.e0⟩⟩;rcases G.new p hp with x|x;exact S.rg p x;have y:Fr s p:=(S.t.inv.cov p).2 (.inl x);have:=((oX S.w).1 y).1;show 2<=p/\p<Ds.fg s.th;omega;have sec:∀x:Int,¬Fr s (x / 4)->cW m' x=cW s.m x:=λx hx=>c.sec x λy=>hx ((S.t.inv.cov _).2 (.inl y));have⟨p1,p2,p3⟩:=S.aw7 sec
 have e1:bL s ad op=⟨s.th,m',fJ,s.wh,s.ep,s.pg,s.bu,s.aa,s.fr,s.fs,s.gn⟩:=by
  unfold bL op0 op1 uL op2 op3 op4;rw[b]
 have e2:jY s ad op=e:=by unfold jY opE;rw[b]
 rw[e1,e2];exact⟨c.fu,.inr ⟨a,p1,S.t.fq c.d c.rd,p2,S.nd,S.w,S.wi,S.rg0,S.rg,p3,⟨by omega,by omega,by omega,by omega⟩,S.e0⟩⟩
theorem SI.more(S:SI s E K n h ps po h0 np nI){n':Nat}(hn:n<=n'):SI s E K n' h ps po h0 np nI:=by
 have⟨b1,b2,b3,b4⟩:=S.b;exact⟨S.mr,S.t,S.k,S.nd,S.w,S.wi,S.rg0,S.rg,S.q,⟨by omega,by omega,by omega,by omega⟩,S.e0⟩
theorem SI.list(S:SI s E K n h ps po h0 np nI)(hn:n<=1000):yW s.th s.m s.aa empty=0/\qV s.th s.m s.aa empty=E:=by
 have⟨a,b⟩:=aj3 S.t.holds S.t.inv.nd (by have:=(S.small hn).1;omega) empty;exact⟨a,by rw[b,filter_all]⟩
theorem SI.free(S:SI s E K n h ps po h0 np nI)(hn:n<=1000):sI s.th s.m s.aa=0/\Bx.okW (ef s.th s.m s.bu s.aa)/\ef s.th s.m s.bu s.aa=s.fr:=by
 have⟨a,b,c⟩:=qO S.t.holds S.t.inv.nd (by have:=(S.small hn).1;omega);have w:=(Bx.iL (.inr (.inr rfl)) (aio (th:=s.th) S.w) b).1;refine⟨a,w,af6 w S.t.ok.fr λp=> ?_⟩;unfold ef;rw[sd (aio S.w) b,aip S.w,c];have f:=oX (th:=s.th) S.w (p:=p);constructor;rintro⟨x,y⟩;exact((S.t.inv.cov p).1 (f.2 x)).resolve_right λz=>y (S.t.inv.sub p z);intro x;exact⟨f.1 ((S.t.inv.cov p).2 (.inl x)),λy=>S.t.free p y x⟩
theorem SI.aa(S:SI s E K n h ps po h0 np nI)(hn:n<=1000):nz s.th s.m s.pg/\dT s.th s.m s.pg=s.bu:=by
 have⟨a,b,c⟩:=qO S.k S.nd (by have:=(S.small hn).2;omega);have e:dT s.th s.m s.pg=s.bu:=af6 b S.w λp=>(c p).trans (S.wi p).symm;refine⟨⟨?_,a,b,λp hp=>S.rg0 p ((c p).1 hp)⟩,e⟩;rcases S.k with⟨h1,_⟩|⟨t,_,h2,h3,_⟩<;>omega
theorem SI.back(S:SI s E K n h ps po h0 np nI)(hn:n<=1000):SI (iY s s.wh s.ep s.pg) K K n h0 np nI h0 np nI:=by
 have⟨R,e⟩:=S.aa hn;have⟨b1,b2,b3,b4⟩:=S.b;unfold iY;rw[e];exact⟨S.mr,aiq S.t.ok.d S.k S.nd S.w S.wi,S.k,S.nd,S.w,S.wi,S.rg0,S.rg0,S.q,⟨b2,b2,b4,b4⟩,S.e0⟩
end
end Ts
