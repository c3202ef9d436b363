/- Lemmas: SxArr, SxZeros, SxOverlaps, SxEq, SxOp, SxCfg, SxRun, SxSeq, SxDrawn, SxFrames, SxFrames2, SxFrames3, SxResult, SxFrames4, SxSplit, SxThaw, SxExecOk, SxView. -/
import Derived.Laws.IdiomStrings
import Derived.Lib.Overlaps
import Derived.Orders
import Derived.RangeFuncIn
import Derived.RangeFuncRecord
import Derived.RangeFuncNested
import Derived.Test.YtfobmefgcjldaaaGreatDoorPA
open Go.IntKind (i64 u64 u8)
open Array (getD_eq_getD_getElem? length_toList toList_inj)
open Bool (and_eq_true cond_eq_ite not_eq_true' or_eq_true)
open Int (toNat_natCast)
open List (all_cons all_eq_true append_assoc append_nil cons_append getElem?_append_left getElem?_append_right getElem?_eq_getElem getElem?_eq_none getElem?_map getElem?_set getElem?_take length_append length_cons length_drop length_map length_nil length_take map_append map_cons map_nil mem_append mem_cons mem_map mem_range nil_append nodup_append pairwise_cons range' replicate)
open Nat (add_mul add_zero beq_eq le_of_ble_eq_true le_refl lt_or_ge zero_add zero_le)
open Option (bind_eq_some_iff getD_some isSome_iff_exists map_eq_some_iff map_some)
noncomputable section
namespace Go.Sx
open Go
section
variable{ρ aU:Nat->Value}{H H':a8}{G O O':Nat->Prop}{w w':World}{P:Program}
theorem Good.block(hs:Sat ρ H G w){w1:World}(hw:w1.heap=w.heap)(ht:w1.tape=w.tape)(hos:w1.os=w.os)(nw:w1.output=w.output){obj:Obj}{r:AV}{v:Value}
 (hr:ag ρ H (bg ρ H G) (w1.alloc obj) r v):Good ρ H G w H r v (w1.alloc obj):=by
 have bZ:(w1.alloc obj).heap.size=w.heap.size+1:=by rw[fL,hw]
 have hold:∀i,i<w.heap.size->(w1.alloc obj).heap[i]? =w.heap[i]? :=λi hi=>by rw[alloc_old (by rw[hw];exact hi),hw]
 have st:Step ρ H (bg ρ H G) w ρ H (bg ρ H G) (w1.alloc obj):=
  ⟨λ_ _ _=>rfl,λ_ o ho=>⟨o,ho,λc' e' e=>⟨c',e',e,rfl,rfl⟩⟩,λb hb=>.inl hb,λb hb _=>hold b hb,by omega⟩
 exact⟨ρ,⟨λj x hx=>(hs.obj j x hx).step st (λb ha hb=>hold b (gX hs ⟨j,x,hx,ha,hb⟩)),hs.inj,hs.apart,λb hb=>by have:=hs.low b hb;omega⟩,hr,st,hos,ht,nw,λb hb _=>hold b hb⟩
theorem ah8{e:TypeId}{k:IntKind}(hk:kindOf P e=some k):P.underlying e=some (.int k):=by
 unfold kindOf at hk;split at hk<;>first|(cases hk;assumption)|cases hk
theorem je(s:ByteArray):(bF s).length=s.size:=by simp[bF]
theorem abW{src dst:TypeId}{x:AV}{vx:Value}{q:bP}(h:(vv P src dst x).eval H=some q)(hn:bE q.ab)(hs:Sat ρ H G w)(hd:ag ρ H (bg ρ H G) w x vx)(base:Nat):
 ∃v w',(convert src dst vx).run P w=.ok v w'/\Good ρ H G w (dc H q.up base q.new) (q.r base) v w':=by
 unfold vv at h;split at h;rename_i e s pn lV;obtain rfl:=fB hd;split at h;rename_i hk;have he:=ah8 hk;simp only[plain,RM.eval,Option.some.injEq]at h;subst h;have hsm:s.size<=4294967296:=hn.1;refine⟨_,_,run_bytes_of_string w src dst e s pn lV he, ?_⟩;rw[lX];refine Good.block (w1:=w.drew) hs rfl rfl rfl rfl (aK ?_);have hc:(ba.af .u8 (bF s)).n=s.size:=je s;have key:=bh.ro (O:=bg ρ H G) (w:=w.drew.alloc (.cells (bytesRow s (grownCap w s.size 0 e)) e ((bytesRow s (grownCap w s.size 0 e)).size,(bytesRow s (grownCap w s.size 0 e)).size+1)))
  (ba.af .u8 (bF s)) (some ⟨w.heap.size,0,none⟩) (grownCap w s.size 0 e) (λi _=>.int .u8 ((bF s).getD i 0)) w.heap.size 0 (by rw[hc];exact grownCap_ge w _ _ _)
  (grownCap_le_maxLen w _ _ _ (by simp only[maxLen];omega)) (λ_=>⟨rfl,λhh=>Nat.lt_irrefl _ (zX hs hh),by rw[fL];exact Nat.lt_succ_self _⟩) (λi j hi hj=> ?_) (λi j hi hj=>by simp only[ba.cell];exact .int _ _)
 rw[hc]at key;exact key;simp only[ba.size]at hj;obtain rfl:j=0:=by omega
 rw[hc]at hi;have hb:(w.drew.alloc (.cells (bytesRow s (grownCap w s.size 0 e)) e ((bytesRow s (grownCap w s.size 0 e)).size,(bytesRow s (grownCap w s.size 0 e)).size+1))).heap[w.heap.size]? =
  some (.cells (bytesRow s (grownCap w s.size 0 e)).toList.toArray e ((bytesRow s (grownCap w s.size 0 e)).size,(bytesRow s (grownCap w s.size 0 e)).size+1)):=lS (w:=w.drew)
 rw[dm hb];have fh:i<s.data.size:=hi;have hi2:i<s.data.toList.length:=by simpa using fh
 simp only[bytesRow,bF,ba.size,Nat.mul_one,add_zero,zero_add,Array.toList_append,Array.toList_map];rw[getElem?_append_left (by rw[length_map];exact hi2),getElem?_map,getElem?_eq_getElem hi2];simp[List.getD];rw[Array.getElem?_eq_getElem fh];rfl;cases h;cases h
theorem abX{t:TypeId}{x:AV}{vx:Value}{q:bP}(h:(vw P t x).eval H=some q)(hn:bE q.ab)(hd:ag ρ H O w x vx):fp P ρ H O w q (Instr.arrayAt t vx):=by
 unfold vw at h;split at h;rename_i n e k zs ht;rw[cond_eq_ite]at h;split at h;rename_i h1;have h1:=le_of_ble_eq_true h1;have hx:=aC (by simp) hd;cases hx with
 |ro _ a cap us b o g1 g2 g3 g4 g5=>
  refine aR h (λcG=> ?_) hn;have hnz:n<=zs.length:=cG.1;obtain⟨rfl,h8,h9⟩:=g3 (by simp only[ba.n];omega);refine⟨.pointer (some ⟨b,o,none⟩), ?_, ?_⟩;have:¬zs.length<n:=by omega
  simp[Instr.arrayAt,run_underlying ht,ba.n,this];unfold ag aS;refine⟨b,o,λj=>us j 0,rfl,h8,h9,λl hl=> ?_⟩;have hl':l<n:=hl;have e1:=g4 l 0 (by simp only[ba.n];omega) Nat.one_pos;have e2:=g5 l 0 (by simp only[ba.n];omega) Nat.one_pos;simp only[ba.size,Nat.mul_one,add_zero]at e1;refine⟨e1, ?_⟩
  have e3:(ba.ah [.arr k n] [(zs.take n,())]).cell 0 l=.int k (zs.getD l 0):=by
   show(bif l.blt n then SV.int k (List.getD (zs.take n) l 0)else .bm)=_;rw[nk hl'];simp[List.getD,getElem?_take,hl']
  rw[e3];exact e2
 cases h;cases h
theorem vS{x:AV}{k:IntKind->List Int->Prop->RM bP}{v:Value}{q:bP}(h:(uG x k).eval H=some q)(hs:Sat ρ H G w)(hd:ag ρ H (bg ρ H G) w x v):
 ∃kk zs p,(k kk zs p).eval H=some q/\(p->(Builtin.lenOf v).run P w=.ok zs.length w/\∀m,m<=zs.length->(Builtin.firstCells 1 m v).run P w=.ok ((zs.take m).map (Value.int kk)).toArray w):=by
 unfold uG at h;split at h;rename_i s;obtain rfl:=fB hd;refine⟨_,_,_,h,λ_=>⟨by simp[Builtin.lenOf],λm hm=> ?_⟩⟩;simp only[Builtin.firstCells,Sem.run_pure];congr 1;apply toList_inj.1;rw[Array.toList_map];simp[ByteArray.data_extract];rfl;rename_i id off n;simp only[RM.eval]at h;split at h;rename_i kk m ws e ho;unfold ag aS at hd;obtain⟨_,b,a,cap,hb,rfl,ha,_⟩:=hd;refine⟨_,_,_,h,λhp=> ?_⟩;have⟨hl,hc⟩:=yx hs ho hb hp;refine⟨by rw[hl];simp[Builtin.lenOf],λl hm=> ?_⟩;rw[hl]at hm;rcases Nat.eq_zero_or_pos n with h0|h0;have:l=0:=by omega
 subst this;cases a with
 |none=>simp[Builtin.firstCells]|some a=>simp[Builtin.firstCells];rfl
 rw[ha (by omega)];simp only[Builtin.firstCells,Nat.mul_one]
 have e1:(((ws.drop off).take n).take l).map (Value.int kk)=(List.range l).map λi=>Value.int kk (((ws.drop off).take n).getD i 0):=by
  apply List.ext_getElem?;intro i;simp only[getElem?_map,List.getElem?_range'];by_cases hi:i<l;have:i<((ws.drop off).take n).length:=by omega
  rw[getElem?_take,if_pos hi,getElem?_eq_getElem this,getElem?_eq_getElem (by simpa using hi)];simp[List.getD,getElem?_eq_getElem this];rw[getElem?_take,if_neg hi,getElem?_eq_none (by simp;omega)];rfl
 rw[e1];refine run_loadCells w _ _ (λi=>Value.int kk (((ws.drop off).take n).getD i 0)) (λj hj=> ?_);rw[bo];exact hc j (by omega);cases h;cases h
theorem vT{k:IntKind}{m:Nat}(x:CL [.arr k m])(j:Nat):CL.cell [.arr k m] x j=bif j.blt m then .int k ((lN x).getD j 0)else .bm:=rfl
theorem vU{cs:List CK}(xs:List (CL cs))(i j:Nat):(ba.ah cs xs).cell i j=CL.cell cs (xs.getD i (CL.d cs)) j:=rfl
theorem tC{k:IntKind}{m:Nat}(ws:List Int):lN (ajz ws:CL [.arr k m])=ws:=rfl
theorem qW{α:Type}{xs:List α}{i:Nat}{x d:α}(h:i<xs.length):(xs.set i x).getD i d=x:=by simp[List.getD,h]
theorem aeP{α:Type}{xs:List α}{i i':Nat}{x d:α}(h:i'≠i):(xs.set i x).getD i' d=xs.getD i' d:=by simp[List.getD,List.getElem?_set_ne (Ne.symm h)]
theorem ajV{α:Type}{l:List α}{i:Nat}{d:α}(h:i<l.length):l.getD i d=l[i]:=by simp[List.getD,h]
theorem ah9(hs:Sat ρ H G w){id i j b f n cap:Nat}{c c':ba}{e:TypeId}(ho:H id=some (.vec c e))(dX:ρ id=.slice (some ⟨b,f,none⟩) n cap)(hi:i<c.n){vs:List Value}(hj:j+vs.length<=c.size)(hp:0<c.size)
 (k1:c'.n=c.n) (k2:c'.size=c.size) (sw:∀v∈vs,v.oneCell'=true) (k4:∀l u,vs[l]? =some u->bh (bg ρ H G) w (c'.cell i (j+l)) u)
 (k5:∀i' j',i'<c.n->j'<c.size->¬(i'=i/\j<=j'/\j'<j+vs.length)->c'.cell i' j'=c.cell i' j') (z:Int):
 ∃w',(storeCells ⟨b,f+i*c.size+j,none⟩ vs 0).run P w=.ok () w'/\Good ρ H G w (aP H id (.vec c' e)) (.s (.int .i64 z)) (.int .i64 z) w':=by
 have⟨a,ahG,h5,h6,h7,h8⟩:=hs.obj id _ ho;rw[dX]at h5;cases h5;rcases h8 with rfl|⟨b',o',cells,fr,us,e1,g1,g2,g3,g4⟩;omega;cases e1
 have mB:eQ (ρ id)=some b:=by
  rw[dX];simp only[eQ];rw[if_neg (by omega)]
 have hmul:i*c.size+c.size<=cap*c.size:=by
  rw[<-Nat.succ_mul];exact Nat.mul_le_mul_right _ (by omega)
 have bx:f+i*c.size+j+vs.length<=cells.length:=by omega
 have st:=ke (G:=G) (w:=w) (o':=.vec c' e) ho rfl mB (λc1 e1 hc1=>by cases hc1;exact⟨c,e,rfl,k1,k2⟩)
  (.cells (cells.take (f+i*c.size+j)++vs++cells.drop (f+i*c.size+j+vs.length)).toArray e fr)
 refine⟨_,bW (f+i*c.size+j) _ 0 g1 g2.unm (by omega) sw, ?_⟩;simp only[add_zero];refine Good.write hs ho rfl rfl mB (λc1 e1 hc1=>by cases hc1;exact⟨c,e,rfl,k1,k2⟩) ?_ (aK (.int _ _));refine⟨some ⟨b,f,none⟩,cap,by rw[dX,k1],by omega,h7,.inr ⟨b,f,_,fr,λi' j'=>if i'=i/\j<=j'/\j'<j+vs.length then(vs.getD (j' - j) undef)else us i' j',rfl,fk g1,g2.over sw bx, ?_, ?_⟩⟩;simp only[length_append,length_take,length_drop];rw[k2];omega;intro i' j' fh jJ;rw[k1]at fh;rw[k2]at jJ;rw[k2,aad _ _ _ bx];dsimp only;by_cases dH:i'=i/\j<=j'/\j'<j+vs.length;obtain⟨rfl,h9,uv⟩:=dH;rw[if_pos ⟨by omega,by omega⟩,if_pos ⟨rfl,h9,uv⟩];have hx1:j' - j<vs.length:=by omega
 refine⟨by rw[show f+i'*c.size+j' - (f+i'*c.size+j)=j' - j from by omega];exact hH _ _ _ hx1, ?_⟩;have:=k4 (j' - j) _ (hH _ _ undef hx1);rw[show j+(j' - j)=j' from by omega]at this;exact this.step st.gf st.heap st.size;rw[if_neg dH]
 have nw:¬(f+i*c.size+j<=f+i'*c.size+j'/\f+i'*c.size+j'<f+i*c.size+j+vs.length):=by
  rintro⟨h9,uv⟩;have hd:f+i*c.size+(f+i'*c.size+j' - (f+i*c.size))=f+i'*c.size+j':=by omega
  have⟨h11,h12⟩:=ajM (f:=f) (i:=i) (i':=i') (j:=f+i'*c.size+j' - (f+i*c.size)) (by omega) jJ hd;subst h11;exact dH ⟨rfl,by omega,by omega⟩
 rw[if_neg nw,k5 i' j' fh jJ dH];have⟨h9,uv⟩:=g4 i' j' fh jJ;exact⟨h9,uv.step st.gf st.heap st.size⟩
theorem abY{α β:Type}(f:α->β)(xs ys:List α)(lo k:Nat):(over xs lo k ys).map f=(xs.map f).take lo++(ys.take k).map f++(xs.map f).drop (lo+k):=by
 simp[over,List.map_take,List.map_drop]
theorem aia{t t' ty:TypeId}{x y:AV}{vx vy:Value}{q:bP}(h:(aeu P t x y).eval H=some q)(hn:bE q.ab)(hs:Sat ρ H G w)
 (hx:ag ρ H (bg ρ H G) w x vx) (hy:ag ρ H (bg ρ H G) w y vy):
 ∃v w',(Builtin.copy_ #[t,t'] ty #[vx,vy]).run P w=.ok v w'∧∀base,Good ρ H G w (dc H q.up base q.new) (q.r base) v w':=by
 unfold aeu at h;split at h;rename_i e ht;split at h;rename_i sz bZ;rw[cond_eq_ite]at h;split at h;rename_i h1;obtain rfl:sz=1:=by simpa using h1
 split at h;rename_i id off n;obtain⟨kk,zs,p,h2,pn⟩:=vS (P:=P) h hs hy;simp only[RM.eval]at h2;split at h2;rename_i k m ws e' ho;rw[cond_eq_ite]at h2;split at h2;rename_i hk;obtain rfl:=bu hk;simp only[RM.eval,Option.some.injEq]at h2;subst h2;obtain⟨hp,hnm,_⟩:=hn;obtain⟨bx,kf⟩:=pn hp;unfold ag aS at hx;obtain⟨_,b,a,cap,hb,rfl,ha,_⟩:=hx;obtain⟨cells,fr,g1,g2,g3⟩:=oR hs ho hb;obtain⟨c1,c2,rfl,e3,e4⟩:=aq.1 g3;obtain⟨e5,rfl⟩:=cW.1 e3;obtain rfl:=aG.1 e4;rw[append_nil]at g1 g2 g3;have jB:=kf (min zs.length n) (Nat.min_le_left _ _);have yE:((zs.take (min zs.length n)).map (Value.int kk)).length=min zs.length n:=by rw[length_map,length_take];omega
 have sw:∀v∈(zs.take (min zs.length n)).map (Value.int kk),v.oneCell'=true:=fun v hv=>by obtain⟨y,_,rfl⟩:=mem_map.1 hv;rfl
 have ny:=bW (P:=P) off ((zs.take (min zs.length n)).map (Value.int kk)) 0 g1 g2 (by rw[yE,length_map];omega) sw
 have avn:((ws.map (Value.int kk)).take (off+0)++(zs.take (min zs.length n)).map (Value.int kk)++(ws.map (Value.int kk)).drop (off+0+((zs.take (min zs.length n)).map (Value.int kk)).length))=(over ws off (min zs.length n) zs).map (Value.int kk):=by
  rw[abY,yE,add_zero]
 rw[avn]at ny;have hwl:(over ws off (min zs.length n) zs).length=m:=by rw[fN _ _ (by omega) (Nat.min_le_left _ _)];exact e5
 have ast:∀base,Good ρ H G w (dc H [(id,.ak [.af kk m (over ws off (min zs.length n) zs)] e')] base []) (.s (.int .i64 ((min zs.length n:Nat):Int))) (.int .i64 ((min zs.length n:Nat):Int)) (World.cI w b (.cells ((over ws off (min zs.length n) zs).map (Value.int kk)).toArray e' fr)):=fun base=>by
  simp only[fV];have mB:eQ (ρ id)=some b:=by rw[hb];rfl
  have hd':aE ρ H (bg ρ H G) w [.af kk m (over ws off (min zs.length n) zs)] ((over ws off (min zs.length n) zs).map (Value.int kk)):=
   aq.2 ⟨_,[],(append_nil _).symm,cW.2 ⟨hwl,rfl⟩,aG.2 rfl⟩
  have st:=ke (G:=G) (w:=w) (o':=.ak [.af kk m (over ws off (min zs.length n) zs)] e') ho rfl mB (by simp) (.cells ((over ws off (min zs.length n) zs).map (Value.int kk)).toArray e' fr);exact Good.write hs ho rfl rfl mB (by simp) ⟨b,_,fr,hb,fk g1,by rw[length_map,hwl,←e5,←length_map (Value.int kk)];exact g2,hd'.step st⟩ (aK (.int _ _))
 rcases Nat.eq_zero_or_pos n with h0|h0;subst h0;have e6:(over ws off (min zs.length 0) zs).map (Value.int kk)=ws.map (Value.int kk):=by rw[abY];simp
 have e7:World.cI w b (.cells ((over ws off (min zs.length 0) zs).map (Value.int kk)).toArray e' fr)=w:=by rw[e6];exact tu g1
 refine⟨_,w,l4 ht bZ bx jB (fun x hx=> ?_) (fun _=>rfl),fun base=>by have:=ast base;rw[e7]at this;exact this⟩;simp[storeCells];rw[ha (by omega)];exact⟨_,_,l4 ht bZ bx jB (fun x hx=>by cases hx;exact ny) (fun hx=>by cases hx),ast⟩;cases h2;cases h2;rename_i id i j n;obtain⟨kk,zs,p,h2,pn⟩:=vS (P:=P) h hs hy;simp only[RM.eval]at h2;split at h2;rename_i k m xs e' ho;rw[cond_eq_ite]at h2;split at h2;rename_i hk;simp only[and_eq_true]at hk;obtain⟨hk,hm0⟩:=hk;have hm0:=le_of_ble_eq_true hm0;obtain rfl:=bu hk;simp only[RM.eval,Option.some.injEq]at h2;subst h2;obtain⟨hp,hxl,_⟩:=hn;obtain⟨bx,kf⟩:=pn hp;unfold ag aS at hx;obtain⟨_,o,du,hv⟩:=hx;rw[ho]at du;cases du;obtain⟨hi,hj,b,f,n',cap,a,ahG,dX,rfl,ha⟩:=hv _ _ rfl;have hi:i<xs.length:=hi;have hj:j+n≤m:=hj;have jB:=kf (min zs.length n) (Nat.min_le_left _ _);have yE:((zs.take (min zs.length n)).map (Value.int kk)).length=min zs.length n:=by rw[length_map,length_take];omega
 have sw:∀v∈(zs.take (min zs.length n)).map (Value.int kk),v.oneCell'=true:=fun v hv=>by obtain⟨y,_,rfl⟩:=mem_map.1 hv;rfl
 generalize ajW:min zs.length n=cnt at *;obtain⟨w',s1,s2⟩:=ah9 (P:=P) (c':=.ah [.arr kk m] (xs.set i (ajz (over (lN (xs.getD i (CL.d [.arr kk m]))) j cnt zs)))) hs ho dX hi (vs:=(zs.take cnt).map (Value.int kk)) (by rw[yE];show j+cnt≤m;omega) hm0
  List.length_set rfl sw (fun l u hu=>by
   obtain⟨br,hu⟩:=List.getElem?_eq_some_iff.1 hu;rw[yE]at br;rw[vU,qW hi,vT,tC,nk (by omega),jU _ _ _ (by omega) (by omega),if_pos ⟨by omega,by omega⟩,←hu];simp only[List.getElem_map,List.getElem_take,cond_true];rw[show j+l - j=l from by omega,ajV (by omega)];exact .int _ _)
  (fun i' j' fh jJ qc=>by
    have fh:i'<xs.length:=fh;have jJ:j'<m:=jJ;rw[yE]at qc;rw[vU,vU];by_cases hii:i'=i;subst hii;rw[qW hi,vT,vT,tC,jU _ _ _ (by omega) (by omega),if_neg (fun hc=>qc ⟨rfl,hc⟩)];rw[aeP hii]) ((cnt:Nat):Int)
 rcases Nat.eq_zero_or_pos n with h0|h0;have hc0:cnt=0:=by omega
 have e7:w'=w:=by
  subst hc0;simp[storeCells]at s1;exact s1.symm
 subst e7;refine⟨_,_,l4 ht bZ bx (by rw[ajW];exact jB) (fun x hx=> ?_) (fun _=>rfl),fun base=>by simp only[fV,ajW];exact s2⟩;subst hc0;simp[storeCells];rw[ha (by omega)];exact⟨_,_,l4 ht bZ bx (by rw[ajW];exact jB) (fun x hx=>by cases hx;exact s1) (fun hx=>by cases hx),fun base=>by simp only[fV,ajW];exact s2⟩;cases h2;cases h2;cases h;cases h;cases h;cases h
theorem ajX{es l3:Array MapEntry}{c c':Nat}(h:ahJ es c=ahJ l3 c'):es=l3/\c=c':=by
 simp only[ahJ,Value.tuple.injEq,Array.mk.injEq,List.cons.injEq,Value.int.injEq,true_and,and_true]at h;have⟨h1,h2⟩:=h;refine⟨?_,by omega⟩
 have ajY:∀a b:MapEntry,Value.tuple #[a.key,a.val,.int .i64 (a.born:Int)]=Value.tuple #[b.key,b.val,.int .i64 (b.born:Int)]->a=b:=λa b e=>by
  simp only[Value.tuple.injEq,Array.mk.injEq,List.cons.injEq,Value.int.injEq,true_and,and_true]at e;have⟨e1,e2,e3⟩:=e;cases a;cases b;simp only at e1 e2 e3;rw[e1,e2,Int.ofNat.inj e3]
 apply toList_inj.1;have h3:=congrArg Array.toList h2;simp only[Array.toList_map]at h3;exact List.map_inj_right (λa b=>ajY a b) |>.1 h3
theorem find_born{es:List MapEntry}(hb:(es.map (·.born)).Nodup){e:MapEntry}(he:e∈es):es.find? (λx=>x.born==e.born)=some e:=by
 induction es with
 |nil=>simp at he|cons x es ih=>
  simp only[map_cons,List.nodup_cons]at hb;rw[List.find?_cons];rcases mem_cons.1 he with rfl|he;simp
  have:(x.born==e.born)=false:=by
   rw[beq_eq_false_iff_ne];exact λh=>hb.1 (mem_map.2 ⟨e,he,h.symm⟩)
  rw[this];exact ih hb.2 he
theorem ajZ(hs:Sat ρ H G w){id mid gid b:Nat}{ck ck':CK}{left:List (Int×ck.V)}{cur:Option (Int×ck.V)}{m:List (Int×ck'.V)}(ho:H id=some (.iter mid gid ck left cur))(hm:H mid=some (.xP ck' m gid))
 (hb:ρ id=.pointer (some ⟨b,0,none⟩)):∃mb es clock seen,w.heap[b]? =some (.mapIter (some mb) clock seen clock)/\w.heap[mb]? =some (.map es clock)/\vB ck left cur es clock seen/\iZ ck' m es.toList clock/\
   ρ mid=.map (some mb)/\ρ gid=ahJ es clock/\(H gid).isSome=true:=by
 have⟨b',mb,es,clock,seen,h1,h2,h3,h4,h5,h6,h7⟩:=hs.obj id _ ho;rw[hb]at h1;cases h1;have⟨mb',l3,vR,g1,g2,g3,g4,_⟩:=hs.obj mid _ hm;rw[h6]at g1;cases g1;rw[h4]at g4;obtain⟨rfl,rfl⟩:=ajX g4;exact⟨mb,es,clock,seen,h2,g2,h3,g3,h6,h4,h5⟩
theorem aj0{ck:CK}(h:ck.plain=true)(v:ck.V):ck.av v≠.s .bm:=by
 cases ck<;>simp only[CK.plain,Bool.false_eq_true]at h<;>simp[CK.av]
theorem aib{x:AV}{vx:Value}{q:bP}(h:(aex x).eval H=some q)(hn:bE q.ab)(hs:Sat ρ H G w)(hd:ag ρ H (bg ρ H G) w x vx):
 fp P ρ H (bg ρ H G) w q (Instr.entry vx):=by
 unfold aex at h;split at h;rename_i id;simp only[RM.eval]at h;split at h;rename_i mid gid ck left cur ho;simp only[RM.eval]at h;split at h;rename_i ck' m avh hm;rw[cond_eq_ite]at h;split at h;rename_i hc;simp only[and_eq_true,beq_eq]at hc;obtain⟨rfl,hp⟩:=hc;split at h;rename_i p;unfold ag aS at hd;obtain⟨b,hb,rfl,_⟩:=hd;have⟨mb,es,clock,seen,h1,h2,h3,_⟩:=ajZ hs ho hm hb;have⟨hf,e,he,k1,k2,k3⟩:=h3.cur p rfl;have e1:(getObj b).run P w=.ok (.mapIter (some mb) clock seen clock) w:=by simp[getObj,Sem.run,h1]
 have e2:(getObj mb).run P w=.ok (.map es clock) w:=by simp[getObj,Sem.run,h2]
 have e3:es.find? (λx=>x.born==e.born)=some e:=by rw[<-Array.find?_toList];exact find_born h3.yw he
 refine aR h (λ_=>⟨.tuple #[.int .i64 p.1,ck.val p.2], ?_, ?_⟩) hn;simp[Instr.entry,e1,e2,k1,e3,k2,k3];unfold ag;refine⟨[.int .i64 p.1,ck.val p.2],rfl,aJ.2 ⟨_,_,rfl,aK (.int _ _),aJ.2 ⟨_,_,rfl,aeN hf ?_,bp.2 rfl⟩⟩⟩;exact aj0 hp _;cases h;cases h;cases h;cases h;cases h
end
section
variable{ρ aU:Nat->Value}{H H':a8}{G O O':Nat->Prop}{w w':World}{P:Program}
theorem sG{t t' ty e:TypeId}{kn k:IntKind}{i:TypeInfo}{z:Value}{a:Option Addr}{n cap:Nat}{j:Nat}{olds:List Value}
 (ht:P.underlying t=some (.slice e)) (htn:P.underlying t'=some (.int kn)) (hi:P.info? e=some i) (hz:i.zero=some z)
 (hold:(Builtin.firstCells i.size n (.slice a n cap)).run P w.drew=.ok olds.toArray w.drew) (nW:¬n+j<=cap)
 (hsm:n+j<=4294967296) (hby:i.bytes<=256) (h1:1<=i.size) (h0:0<j):
 ∃nY,n+j<=nY/\nY<=maxLen/\(Builtin.append_ #[t,t'] ty #[.slice a n cap,.int k (j:Int)]).run P w=
  .ok (.slice (some ⟨w.heap.size,0,none⟩) (n+j) nY) (w.drew.alloc (.cells (olds++(Builtin.zeroCells z.cells j).toList++(Builtin.zeroCells z.cells (nY - (n+j))).toList).toArray e)):=by
 refine⟨grownCap w (n+j) cap e,grownCap_ge w _ _ _,grownCap_le_maxLen w _ _ _ (by simp only[maxLen];omega), ?_⟩
 have abR:¬(281474976710656<Builtin.nextslicecap (n+j) cap*i.bytes):=by
  have h1:=nextslicecap_le (ab:=n+j) (old:=cap) (by omega);have h2:Builtin.nextslicecap (n+j) cap*i.bytes<=(2*(n+j)+192)*256:=Nat.mul_le_mul h1 hby;omega
 have aeK:¬(9223372036854775807<(n:Int)+(j:Int)):=by omega
 have hw:i64.wrap (j:Int)=(j:Int):=cL ⟨by omega,by omega⟩;have ayi:¬((j:Int)<0):=by omega
 have ayj:¬((281474976710656:Int)<(j:Int)*(i.bytes:Int)):=by
  have:j*i.bytes<=4294967296*256:=Nat.mul_le_mul (by omega) hby;have h3:((j*i.bytes:Nat):Int)<=((4294967296*256:Nat):Int):=Int.ofNat_le.2 this;rw[Int.natCast_mul]at h3;omega
 have an8:∀X Y:Array Value,olds.toArray++(X++Y)=(olds++(X.toList++Y.toList)).toArray:=λX Y=>by
  apply toList_inj.1;simp
 have hq:¬((Question.appendCap (n+j) cap e).forced=true):=by simp[Question.forced]
 have cG:¬(j*i.size=0):=by
  have:0<j*i.size:=Nat.mul_pos h0 (by omega);omega
 simp[Builtin.append_,run_underlying ht,run_underlying htn,sizeOf,typeInfo,hi,nW,aeK,abR,hold,zeroValue,hz,newRow,hw,ayi,ayj,cG,asInt,asIntOf];rw[if_neg hq,an8];rfl
theorem abZ{t t' ty:TypeId}{x y:AV}{vx vy:Value}{q:bP}(h:(vt P t t' x y).eval H=some q)(hn:bE q.ab)(hs:Sat ρ H G w)
 (hx:ag ρ H (bg ρ H G) w x vx) (hy:ag ρ H (bg ρ H G) w y vy) {base:Nat} (hb:∀i,i<q.new.length->H (base+i)=none):
 ∃v w',(Builtin.append_ #[t,t'] ty #[vx,vy]).run P w=.ok v w'/\Good ρ H G w (dc H q.up base q.new) (q.r base) v w':=by
 unfold vt at h;split at h;rename_i e kt c k kd lit j ht ht' hy0;have hvy:=cp hy0 hy;split at h;rename_i i hi;rw[cond_eq_ite]at h;split at h;rename_i hc;simp only[and_eq_true]at hc;have⟨⟨⟨c1,c2⟩,c3⟩,c4⟩:=hc;have c1:=le_of_ble_eq_true c1;have c2:=le_of_ble_eq_true c2;have c3:c.size=i.size:=Nat.eq_of_beq_eq_true c3
 obtain⟨z,hz,hzf,hzs⟩:∃z,i.zero=some z/\gk (shapeOf P e) z.cells.toList=true/\z.cells.size=i.size:=by
  cases hz:i.zero with
  |none=>simp[hz]at c4|some z=>
   simp only[hz,Option.any_some,and_eq_true,beq_iff_eq]at c4;exact⟨z,rfl,c4.1,c4.2⟩
 simp only[RM.eval,Option.some.injEq]at h;subst h;have⟨hj0,nW,hsm,_⟩:=hn;have jA:H base=none:=by simpa using hb 0 (by simp)
 have hx':=aC (by simp) hx;cases hx' with
 |zM _ _ a n cap hro hk=>
  obtain⟨jn,rfl⟩:∃jn:Nat,j=(jn:Int):=⟨j.toNat,by omega⟩;cases hro with
  |ro _ _ _ us b o q1 q2 q3 q4 q5=>
  have x6:qa (bg ρ H G) w c (.slice a c.n cap):=⟨a,cap,us,rfl,q1,q2,λh0=>⟨b,o,(q3 h0).1,(q3 h0).2.2,λi j hi hj=>⟨q4 i j hi hj,q5 i j hi hj⟩⟩⟩;have⟨olds,vQ⟩:=uI (P:=P) x6 c3 c1;have⟨f1,f2⟩:=kP (O:=bg ρ H G) (w:=w) hzf jn;have hzl:z.cells.toList.length=i.size:=by rw[length_toList,hzs]
  have han:(dk c (dw (shapeOf P e) jn)).n=c.n+jn:=by rw[vO,l5]
  have aoa:(dk c (dw (shapeOf P e) jn)).size=i.size:=by rw[nV c _ (by rw[f1,hzl,c3]),c3]
  have⟨nY,g1,g2,g3⟩:=sG (ty:=ty) (k:=kd) ht ht' hi hz (vQ.first w.drew rfl) (j:=jn) (by omega) (by omega) c2 c1 (by omega);rw[hvy];refine⟨_,_,g3, ?_⟩;simp only[jd,toNat_natCast];rw[<-han]
  have hnl:(Builtin.zeroCells z.cells jn).toList.length=(dw (shapeOf P e) jn).n*i.size:=by
   rw[length_toList,size_zeroCells,hzs,l5]
  have key:=sF (rest:=(Builtin.zeroCells z.cells (nY - (c.n+jn))).toList) (O:=bg ρ H G) (w:=w) c3 (by rw[f1,hzl]) c1 vQ.length hnl vQ.den (λi' j' fh jJ=>by
   rw[l5]at fh;have⟨u,k1,k2⟩:=f2 i' j' fh (by omega);refine⟨u, ?_,k2⟩;rw[<-hzs,lz jn fh (by rw[hzs];exact jJ)];exact k1) []
  simp only[nil_append,length_nil,zero_add]at key;rw[<-han]at key;refine lZ (w1:=w.drew) hs rfl rfl rfl rfl jA (by rw[han];exact g1) g2 ?_ _ key (λu hu=> ?_);rw[aoa];simp only[length_append,vQ.length,length_toList,size_zeroCells,hzs];rw[<-add_mul,<-add_mul];exact Nat.mul_le_mul_right _ (by omega);rcases mem_append.1 hu with hu|hu;rcases mem_append.1 hu with hu|hu;exact vQ.one u hu;exact iR hzf jn u hu;exact iR hzf _ u hu
 cases h;cases h;cases h
end
section
variable{ρ aU:Nat->Value}{H H':a8}{G O O':Nat->Prop}{w w':World}{P:Program}
theorem vV(hs:Sat ρ H G w){x:AV}{i:Nat}{c:ba}{e:TypeId}(hx:ownRow x=some i)(hi:H i=some (.vec c e))(bZ:1<=c.size){v:Value}(hd:ag ρ H (bg ρ H G) w x v):
 ∃(a:Option Addr) (n cap:Nat),v=.slice a n cap/\(n=0\/∃(b o:Nat) (cells:List Value) (fr:Nat×Nat),a=some ⟨b,o,none⟩/\eQ (ρ i)=some b/\w.heap[b]? =some (.cells cells.toArray e fr)/\zV fr cells/\o<=cells.length/\0<cells.length):=by
 have⟨a,cap,r1,r2,r3,r4⟩:=hs.obj i _ hi;unfold ownRow at hx;split at hx;rename_i id;cases hx;unfold ag aS at hd;have⟨_,o,ho,hv⟩:=hd;rw[hi]at ho;cases ho;rw[hv c e rfl,r1];refine⟨a,c.n,cap,rfl, ?_⟩;by_cases h0:c.n=0;exact .inl h0;rcases r4 with h4|⟨b,o,cells,fr,us,rfl,q1,q2,q3,q4⟩;omega;have:1*1<=cap*c.size:=Nat.mul_le_mul (by omega) bZ;exact .inr ⟨b,o,cells,fr,rfl,by simp only[eQ];rw[if_neg (by omega)],q1,q2,by omega,by omega⟩;rename_i id lo n;cases hx;unfold ag aS at hd;have⟨_,o,ho,hv⟩:=hd;rw[hi]at ho;cases ho;obtain⟨hle,a2,qP,a',k1,k2,rfl,k4⟩:=hv c e rfl;rw[r1]at k1;simp only[Value.slice.injEq,true_and]at k1;obtain⟨rfl,rfl⟩:=k1;refine⟨a',n,cap - lo,rfl, ?_⟩;by_cases h0:n=0;exact .inl h0;rcases r4 with h4|⟨b,o,cells,fr,us,rfl,q1,q2,q3,q4⟩;omega;have:lo*c.size<=cap*c.size:=Nat.mul_le_mul_right _ (by omega);have h1:1*1<=cap*c.size:=Nat.mul_le_mul (by omega) bZ;refine .inr ⟨b,o+lo*c.size,cells,fr, ?_,by rw[r1];simp only[eQ];rw[if_neg (by omega)],q1,q2,by omega,by omega⟩;rw[k4 (by omega),map_some,bo];cases hx
theorem aam{motive:Array Value->Sort 1}{a b:Option Addr}{la ca lb cb:Nat}{h1:(a:Option Addr)->(la cap:Nat)->(b:Option Addr)->(lb cb:Nat)->motive #[.slice a la cap,.slice b lb cb]}{h2:(x:Array Value)->motive x}:
 Extern.SlicesOverlaps.overlaps.match_4 motive #[.slice a la ca,.slice b lb cb] h1 h2=h1 a la ca b lb cb:=rfl
theorem mH{f:FuncId}{args:List AV}{vs:List Value}{q:bP}(h:(sg P f args).eval H=some q)(hn:bE q.ab)(hs:Sat ρ H G w)(hd:bI ρ H (bg ρ H G) w args vs):
 ∃v,(callFunc f vs.toArray).run P w=.ok (.value v) w/\q.up=[]/\q.new=[]/\∀base,ag ρ H (bg ρ H G) w (q.r base) v:=by
 unfold sg at h;split at h;rename_i x y;split at h;rename_i i j hx hy;rw[cond_eq_ite]at h;split at h;cases h;rename_i nZ;have nZ:i≠j:=λe=>nZ (by subst e;exact Nat.beq_refl i);simp only[RM.eval]at h;split at h;rename_i c e1 hi;simp only[RM.eval]at h;split at h;rename_i d e2 hj;rw[cond_eq_ite]at h;split at h;rename_i bZ;simp only[and_eq_true]at bZ;simp only[plain,RM.eval,Option.some.injEq]at h;subst h;have⟨⟨fn,t,e,tR,size,o1,o2,o3,o4,o5,o6,o7⟩,_⟩:=hn;obtain⟨vx,r1,rfl,dx,hd1⟩:=aJ.1 hd;obtain⟨vy,r2,rfl,dy,hd2⟩:=aJ.1 hd1;obtain rfl:=bp.1 hd2;obtain⟨a,n,cap,rfl,ha⟩:=vV hs hx hi (le_of_ble_eq_true bZ.1) dx;obtain⟨a2,n2,qP,rfl,ha2⟩:=vV hs hy hj (le_of_ble_eq_true bZ.2) dy
 have hz:∀w:World,(Go.sizeOf e).run P w=.ok size w:=λw=>by
  obtain⟨inf,hi,rfl⟩:=map_eq_some_iff.1 o7;simp[sizeOf,typeInfo,hi]
 refine⟨.bool false, ?_,rfl,rfl,λ_=>aK (.aN false)⟩;rw[run_callFunc_extern o1 o2 o3 o4 o5]
 have key:(Extern.SlicesOverlaps.overlaps #[t,t] #[tR] #[.slice a n cap,.slice a2 n2 qP]).run P w=.ok (.bool false) w:=by
  have zero:n=0\/n2=0->(Extern.SlicesOverlaps.overlaps #[t,t] #[tR] #[.slice a n cap,.slice a2 n2 qP]).run P w=.ok (.bool false) w:=by
   intro h0;delta Extern.SlicesOverlaps.overlaps;rw[aam];have h1:n=0\/n2=0\/size=0:=by rcases h0 with h0|h0<;>simp[h0]
   cases a with
   |none=>simp[run_underlying o6,hz]|some a=>
    cases a2 with
    |none=>simp[run_underlying o6,hz]|some b=>simp[run_underlying o6,hz,h1]
  rcases ha with h0|⟨b,o,cells,fr,rfl,hb,jf,hu,ho,azR⟩;exact zero (.inl h0);rcases ha2 with h0|⟨b2,o2',asu,fr2,rfl,hb2,asv,hu2,ho2,azK⟩;exact zero (.inr h0);have cG:b≠b2:=λe=>nZ (hs.inj i j _ _ b hi hj rfl rfl hb (e▸hb2))
  have frz:∀{b:Nat} {cells:List Value} {fr:Nat×Nat} {e:TypeId} (off:Nat),w.heap[b]? =some (.cells cells.toArray e fr)->zV fr cells->off<=cells.length->w.frozen? ⟨b,off,none⟩=false:=by
   intro b cells fr e off h1 h2 h3;have⟨lo,hi⟩:=fr;unfold World.frozen?;simp only[h1];have:=h2.1 off h3;simp only at this;cases hd:(decide (lo<=off)&&decide (off<hi))with
   |false=>rfl|true=>simp only[and_eq_true,decide_eq_true_eq]at hd;exact absurd hd this
  refine Lib.run_overlaps_apart w t tR e o6 size hz ⟨b,o,none⟩ ⟨b2,o2',none⟩ n cap n2 qP cG e1 e2 cells.length asu.length ?_ ?_ (by omega) (frz o jf hu ho) (frz _ jf hu (le_refl _));simp only[World.shape?,jf];rfl;simp only[World.shape?,asv];rfl
 rw[key];rfl;cases h;cases h;cases h;cases h;cases h
end
section
variable{ρ:Nat->Value}{H:a8}{O:Nat->Prop}{w:World}{P:Program}
theorem aeQ(d:Nat){e:TypeId}{k:IntKind}{i:TypeInfo}(he:P.underlying e=some (.int k))(hs:i.size=1)
 (ws nv:List Int) (w:World) (n:Nat) (h1:ws.length=n) (h2:nv.length=n):∀(m s:Nat),s+m=n->
 (forIn (m:=Sem) (range' s m 1) ((none,()):Option Bool×Unit) λj _=>do
   if(!(<-Op.equalIn (d+1) e (<-part e (ws.map (Value.int k)).toArray (j*i.size)) (<-part e (nv.map (Value.int k)).toArray (j*i.size))))=true then
    pure (ForInStep.done (some false,()))else pure (ForInStep.yield (none,()))).run P w=.ok (if ws.drop s=nv.drop s then(none,())else(some false,())) w:=by
 intro m
 induction m with
 |zero=>
  intro s hs';have e1:ws.drop s=[]:=List.drop_eq_nil_of_le (by omega);have e2:nv.drop s=[]:=List.drop_eq_nil_of_le (by omega);simp[e1,e2]
 |succ m ih=>
  intro s hs';have hi1:s<ws.length:=by omega
  have hi2:s<nv.length:=by omega
  have p1:∀w,(part e (ws.map (Value.int k)).toArray (s*i.size)).run P w=.ok (.int k ws[s]) w:=by
   intro w;simp[part,isAgg,run_underlying he,hs,hi1]
  have p2:∀w,(part e (nv.map (Value.int k)).toArray (s*i.size)).run P w=.ok (.int k nv[s]) w:=by
   intro w;simp[part,isAgg,run_underlying he,hs,hi2]
  rw[List.range'_succ,List.forIn_cons];simp only[Sem.run_bind,p1,p2,Result.andThen_ok,run_equalIn_int _ _ _ _ _ _ _ he];rw[List.drop_eq_getElem_cons hi1,List.drop_eq_getElem_cons hi2];by_cases hq:ws[s]=nv[s];simp only[hq,beq_self_eq_true,Bool.not_true,Bool.false_eq_true,if_false,Sem.run_pure,Result.andThen_ok,List.cons.injEq,true_and];exact ih (s+1) (by omega);have:(ws[s]==nv[s])=false:=by simpa using hq
  have cG:¬(ws[s]::ws.drop (s+1)=nv[s]::nv.drop (s+1)):=λe=>hq (List.cons.inj e).1;rw[if_neg cG];simp only[this,Bool.not_false,if_true,Sem.run_pure,Result.andThen_ok]
theorem tD(d:Nat){t e:TypeId}{n:Nat}{k:IntKind}{i:TypeInfo}(ht:P.underlying t=some (.array n e))(he:P.underlying e=some (.int k))(hi:P.info? e=some i)(hs:i.size=1)
 (ws nv:List Int) (h1:ws.length=n) (h2:nv.length=n) (w:World):
 (Op.equalIn (d+2) t (.agg (ws.map (Value.int k)).toArray) (.agg (nv.map (Value.int k)).toArray)).run P w=.ok (decide (ws=nv)) w:=by
 have key:=aeQ (P:=P) d he hs ws nv w n h1 h2 n 0 (by omega);unfold Op.equalIn;simp only[Sem.run_bind,run_underlying ht,Result.andThen_ok,sizeOf,typeInfo,run_program,hi,Sem.run_pure];rw[Std.Legacy.Range.forIn_eq_forIn_range'];simp only[Std.Legacy.Range.size,Nat.sub_zero,Nat.add_sub_cancel,Nat.div_one];rw[key];by_cases hq:ws=nv<;>simp[hq]
theorem ab0(d:Nat){e:TypeId}{i:TypeInfo}(hs:i.size=1)(qC:∀w,(isAgg e).run P w=.ok false w)(cx cy:List Value)(w:World)(n:Nat)(h1:cx.length=n)(h2:cy.length=n):∀(m s:Nat) (bs:List Bool),s+m=n->bs.length=m->
 (∀j (hj:j<m) (hx:s+j<cx.length) (hy:s+j<cy.length) (hb:j<bs.length),(Op.equalIn (d+1) e cx[s+j] cy[s+j]).run P w=.ok bs[j] w)->
 (forIn (m:=Sem) (range' s m 1) ((none,()):Option Bool×Unit) λj _=>do
   if(!(<-Op.equalIn (d+1) e (<-part e cx.toArray (j*i.size)) (<-part e cy.toArray (j*i.size))))=true then
    pure (ForInStep.done (some false,()))else pure (ForInStep.yield (none,()))).run P w=.ok (if bs.all id then(none,())else(some false,())) w:=by
 intro m
 induction m with
 |zero=>
  intro s bs _ hb _;obtain rfl:bs=[]:=List.length_eq_zero_iff.1 hb;simp
 |succ m ih=>
  intro s bs hs' hb aaf;have hi1:s<cx.length:=by omega
  have hi2:s<cy.length:=by omega
  match bs,hb,aaf with
  |b::bs,hb,aaf=>
  have p1:∀w,(part e cx.toArray (s*i.size)).run P w=.ok cx[s] w:=by
   intro w;simp[part,qC,hs,hi1]
  have p2:∀w,(part e cy.toArray (s*i.size)).run P w=.ok cy[s] w:=by
   intro w;simp[part,qC,hs,hi2]
  have h0:(Op.equalIn (d+1) e cx[s] cy[s]).run P w=.ok b w:=by
   have:=aaf 0 (by omega) (by omega) (by omega) (by simp);simpa using this
  rw[List.range'_succ,List.forIn_cons];simp only[Sem.run_bind,p1,p2,Result.andThen_ok,h0];cases b with
  |true=>
   simp only[Bool.not_true,Bool.false_eq_true,if_false,Sem.run_pure,Result.andThen_ok]
   have:=ih (s+1) bs (by omega) (by simpa using hb) (λj hj hx hy vF=>by
    have:=aaf (j+1) (by omega) (by omega) (by omega) (by simp;omega);simp only[show s+(j+1)=s+1+j from by omega]at this;simpa using this)
   simpa using this
  |false=>simp
theorem aoc{x y:AV}{b:Bool}{vx vy:Value}(d:Nat){e:TypeId}(he:∃ms,P.underlying e=some (.interface ms))(h:ajt P x y=some b)(hx:ag ρ H O w x vx)(hy:ag ρ H O w y vy):(Op.equalIn (d+2) e vx vy).run P w=.ok b w:=by
 have⟨ms,he⟩:=he
 have step:∀(t:TypeId) (a c:Value) (r:Bool),(P.info? t).any (·.comparable)=true->(Op.equalIn (d+1) t a c).run P w=.ok r w->(Op.equalIn (d+2) e (.iface t a) (.iface t c)).run P w=.ok r w:=by
  intro t a c r hc hr
  obtain⟨i,hi,hcc⟩:∃i,P.info? t=some i/\i.comparable=true:=by
   cases hi:P.info? t with
   |none=>simp[hi]at hc|some i=>exact⟨i,rfl,by simpa[hi]using hc⟩
  rw[show d+2=(d+1)+1 from rfl];unfold Op.equalIn;simp[run_underlying he,typeInfo,hi,hcc,hr]
 unfold ajt at h;split at h;rename_i t k n t' k' n';rw[cond_eq_ite]at h;split at h;rename_i hc;simp only[and_eq_true,beq_eq]at hc;obtain⟨⟨⟨rfl,hk⟩,aj1⟩,ht⟩:=hc;obtain rfl:=bu hk;simp only[Option.some.injEq]at h;subst h;have h1:=aC (by simp) hx;have h2:=aC (by simp) hy;cases h1;cases h2;unfold ajr at ht;split at ht;rename_i k2 ht2;refine step t _ _ _ aj1 ?_;unfold Op.equalIn;simp[run_underlying ht2];cases ht;cases h;rename_i t s t' s';rw[cond_eq_ite]at h;split at h;rename_i hc;simp only[and_eq_true,beq_eq]at hc;obtain⟨⟨rfl,aj1⟩,ht⟩:=hc;simp only[Option.some.injEq]at h;subst h;have h1:=aC (by simp) hx;have h2:=aC (by simp) hy;cases h1;cases h2;unfold ajs at ht;split at ht;rename_i ht2;refine step t _ _ _ aj1 ?_;rw[run_equalIn_string _ _ _ _ _ ht2,aeA];cases ht;cases h;rename_i t b1 t' b2;rw[cond_eq_ite]at h;split at h;rename_i hc;simp only[and_eq_true,beq_eq]at hc;obtain⟨⟨rfl,aj1⟩,ht⟩:=hc;simp only[Option.some.injEq]at h;subst h;have h1:=aC (by simp) hx;have h2:=aC (by simp) hy;cases h1;cases h2;unfold afN at ht;split at ht;rename_i ht2;exact step t _ _ _ aj1 (run_equalIn_bool' _ _ _ _ _ ht2);cases ht;cases h;cases h
theorem aj2(d:Nat){e:TypeId}(he:∃ms,P.underlying e=some (.interface ms)):∀{xs ys:List AV} {b:Bool} {cx cy:List Value},eqI P xs ys=some b->aE ρ H O w xs cx->aE ρ H O w ys cy->
 ∃bs:List Bool,bs.length=xs.length/\cx.length=xs.length/\cy.length=ys.length/\bs.all id=b/\∀j (hx:j<cx.length) (hy:j<cy.length) (hb:j<bs.length),(Op.equalIn (d+2) e cx[j] cy[j]).run P w=.ok bs[j] w
 |[],[],b,cx,cy,h,hx,hy=>by
  simp only[eqI,Option.some.injEq]at h;subst h;rw[aG.1 hx,aG.1 hy];exact⟨[],rfl,rfl,rfl,rfl,λj hj=>by simp at hj⟩
 |[],_::_,b,cx,cy,h,hx,hy=>by simp[eqI]at h
 |_::_,[],b,cx,cy,h,hx,hy=>by simp[eqI]at h
 |x::xs,y::ys,b,cx,cy,h,hx,hy=>by
  simp only[eqI]at h;split at h;rename_i b1 b2 h1 h2;simp only[Option.some.injEq]at h;subst h;obtain⟨u1,c1,rfl,g1,g2⟩:=aq.1 hx;obtain⟨u2,c2,rfl,g3,g4⟩:=aq.1 hy;have sx:∃a,x=.s a/\∀c,a≠.ro c:=by unfold ajt at h1;split at h1<;>first|exact⟨_,rfl,by simp⟩|cases h1
  have sy:∃a,y=.s a/\∀c,a≠.ro c:=by unfold ajt at h1;split at h1<;>first|exact⟨_,rfl,by simp⟩|cases h1
  obtain⟨a,rfl,_⟩:=sx;obtain⟨a',rfl,_⟩:=sy;unfold aX at g1 g3;obtain⟨v1,rfl,d1⟩:=g1;obtain⟨v2,rfl,d2⟩:=g3;have k1:=aoc (ρ:=ρ) (H:=H) (O:=O) (w:=w) d he h1 (aK d1) (aK d2);have⟨bs,e1,e2,e3,e4,e5⟩:=aj2 d he h2 g2 g4;refine⟨b1::bs,by simp[e1],by simp[e2],by simp[e3],by simp[e4],λj hx hy hb=> ?_⟩;cases j with
  |zero=>exact k1|succ j=>exact e5 j (by simpa using hx) (by simpa using hy) (by simpa using hb)
  cases h
theorem afV(d:Nat){t e:TypeId}(ht:P.underlying t=some (.pointer e))(b:Option Addr):(Op.equalIn (d+1) t (.pointer none) (.pointer b)).run P w=.ok b.isNone w:=by
 unfold Op.equalIn;simp[run_underlying ht]
theorem aod(d:Nat){t e:TypeId}(ht:P.underlying t=some (.pointer e))(a:Addr):(Op.equalIn (d+1) t (.pointer (some a)) (.pointer none)).run P w=.ok false w:=by
 unfold Op.equalIn;simp[run_underlying ht]
def mk(P:Program)(t:TypeId)(cs:List Value):Value:=
 match gU P t with
 |some true=>.agg cs.toArray|_=>cs.headD undef
theorem aan{d d':Nat}(ih:∀{t:TypeId} {xs ys:List AV} {b:Bool} {cx cy:List Value},eqC P d t xs ys=some b->aE ρ H O w xs cx->aE ρ H O w ys cy->(Op.equalIn d' t (mk P t cx) (mk P t cy)).run P w=.ok b w)
 {xs ys:List AV} {cx cy:List Value} (hx:aE ρ H O w xs cx) (hy:aE ρ H O w ys cy):∀(fs:List Field) {b:Bool},ahH P (eqC P d) fs xs ys=some b->(Op.eqFields d' cx.toArray cy.toArray fs).run P w=.ok b w
 |[],b,h=>by
  simp only[ahH,Option.some.injEq]at h;subst h;rfl
 |f::fs,b,h=>by
  simp only[ahH,cond_eq_ite]at h;simp only[Op.eqFields,Sem.run_ite];split at h;rename_i hn;rw[if_neg (by simpa using hn)];exact aan ih hx hy fs h;rename_i hn;rw[if_pos (by simpa using hn)];split at h;rename_i sz xQ bZ qC;split at h
  case isFalse=>cases h
  rename_i sw;split at h;rename_i a b' h1 h2;have⟨sa,h3,h4⟩:=bind_eq_some_iff.1 h1;have⟨sb,h5,h6⟩:=bind_eq_some_iff.1 h2;have⟨g1,g2⟩:=fI _ _ h3 hx;have⟨g3,g4⟩:=fJ _ _ h4 g2;have⟨k1,k2⟩:=fI _ _ h5 hy;have⟨k3,k4⟩:=fJ _ _ h6 k2;split at h;rename_i p q h7 h8;simp only[Option.some.injEq]at h;subst h;have hp:=ih h7 g4 k4
  have aqP:∀(cs:List Value),f.offset<=cs.length->sz<=(cs.drop f.offset).length->(part f.type cs.toArray f.offset).run P w=.ok (mk P f.type ((cs.drop f.offset).take sz)) w:=by
   intro cs q1 q2;cases xQ;have ayk:sz=1:=by simpa using sw
   subst ayk;simp only[length_drop]at q2;have br:f.offset<cs.length:=by omega
   have e1:mk P f.type ((cs.drop f.offset).take 1)=cs[f.offset]:=by
    simp only[mk,qC];rw[List.drop_eq_getElem_cons br];rfl
   rw[e1];simp[part,gO qC,br];simp only[mk,qC];simp[part,gO qC,run_sizeOf bZ,List.extract_eq_take_drop]
  simp only[Sem.run_bind,aqP cx g1 g3,aqP cy k1 k3,Result.andThen_ok,hp,Sem.run_ite];cases p;simp;simpa using aan ih hx hy fs h8;cases h;cases h;cases h
theorem aj3:∀(d:Nat) {t:TypeId} {xs ys:List AV} {b:Bool} {cx cy:List Value},eqC P d t xs ys=some b->aE ρ H O w xs cx->aE ρ H O w ys cy->∀{d':Nat},d<=d'->(Op.equalIn d' t (mk P t cx) (mk P t cy)).run P w=.ok b w
 |0,t,xs,ys,b,cx,cy,h,_,_,_,_=>by simp[eqC]at h
 |d+1,t,xs,ys,b,cx,cy,h,hx,hy,0,hd=>by omega
 |d+1,t,xs,ys,b,cx,cy,h,hx,hy,d'+1,hd=>by
  simp only[eqC]at h
  have one:∀{x:AV} {cs:List Value},aE ρ H O w [x] cs->(∀k n ws,x≠.af k n ws)->∃u,cs=[u]/\ag ρ H O w x u:=by
   intro x cs h hx;obtain⟨c1,c2,rfl,h1,h2⟩:=aq.1 h;rw[aG.1 h2];obtain⟨u,rfl,_,h3⟩:=fK h1 (gD hx) hx;exact⟨u,rfl,h3⟩
  split at h;rename_i k0 ht;have ha:gU P t=some false:=by simp[gU,ht]
  split at h;rename_i x y;split at h;rename_i k l a k' l' b' h1 h2;rw[cond_eq_ite]at h;split at h;rename_i hk;obtain rfl:=bu hk;simp only[Option.some.injEq]at h;subst h;obtain⟨u,rfl,hu⟩:=one hx (by rintro k n ws rfl;simp[AV.cD]at h1);obtain⟨v,rfl,hv⟩:=one hy (by rintro k n ws rfl;simp[AV.cD]at h2);obtain rfl:=cp h1 hu;obtain rfl:=cp h2 hv;simp only[mk,ha,List.headD_cons];exact run_equalIn_int _ _ _ _ _ _ _ ht;cases h;cases h;cases h;rename_i ht;have ha:gU P t=some false:=by simp[gU,ht]
  split at h;rename_i x y;split at h;rename_i l a l' b' h1 h2;simp only[Option.some.injEq]at h;subst h;obtain⟨u,rfl,hu⟩:=one hx (by rintro k n ws rfl;simp[AV.iA]at h1);obtain⟨v,rfl,hv⟩:=one hy (by rintro k n ws rfl;simp[AV.iA]at h2);obtain rfl:=jT h1 hu;obtain rfl:=jT h2 hv;simp only[mk,ha,List.headD_cons];exact run_equalIn_bool' _ _ _ _ _ ht;cases h;cases h;rename_i ht;have ha:gU P t=some false:=by simp[gU,ht]
  split at h;rename_i a b';simp only[Option.some.injEq]at h;subst h;obtain⟨u,rfl,hu⟩:=one hx (by simp);obtain⟨v,rfl,hv⟩:=one hy (by simp);obtain rfl:=fB hu;obtain rfl:=fB hv;simp only[mk,ha,List.headD_cons];rw[run_equalIn_string _ _ _ _ _ ht,aeA];cases h;rename_i n e ht;have ha:gU P t=some true:=by simp[gU,ht]
  split at h;rename_i k m ws k' m' nv;split at h;rename_i k'' he;rw[cond_eq_ite]at h;split at h;rename_i hc;simp only[and_eq_true,beq_iff_eq]at hc;have⟨⟨⟨⟨⟨e0,e1⟩,e2⟩,e3⟩,e4⟩,e5⟩:=hc;have e0:=le_of_ble_eq_true e0;obtain rfl:=bu e1;obtain rfl:=bu e2;subst e3;subst e4;simp only[Option.some.injEq]at h;subst h;obtain⟨c1,c2,rfl,h1,h2⟩:=aq.1 hx;rw[aG.1 h2];obtain⟨c3,c4,rfl,h3,h4⟩:=aq.1 hy;rw[aG.1 h4];unfold aX at h1 h3;obtain⟨l1,rfl⟩:=h1;obtain⟨l2,rfl⟩:=h3
  obtain⟨i,hi,hs⟩:∃i,P.info? e=some i/\i.size=1:=by
   cases hi:P.info? e with
   |none=>simp[hi]at e5|some i=>exact⟨i,rfl,by simpa[hi]using e5⟩
  obtain⟨d2,rfl⟩:∃d2,d'=d2+1:=⟨d' - 1,by omega⟩;simp only[mk,ha,append_nil];exact tD d2 ht he hi hs ws nv l1 l2 w;cases h;cases h;cases h;rename_i fs ht;have ha:gU P t=some true:=by simp[gU,ht]
  have hf:P.fieldsOf t=fs:=by simp[Program.fieldsOf,ht]
  rw[cond_eq_ite]at h;split at h;cases h;rename_i ny;simp only[mk,ha];rw[run_equalIn_struct w d' t _ _ (by rw[hf];exact ht) (by simpa using ny),hf];exact aan (λh1 h2 h3=>aj3 d h1 h2 h3 (by omega)) hx hy fs.toList h;cases h
theorem aj4{t:TypeId}{x y:AV}{vx vy:Value}{q:Bool×Bool}(h:eqR P t x y=some q)(hx:ag ρ H O w x vx)(hy:ag ρ H O w y vy):
 (Op.equal t vx vy).run P w=.ok q.2 w/\(∀op a b,(eqGuard op t a b vx vy).run P w=.ok () w)/\
 (∀op,op=.eql\/op=.neq->(binOp op t vx vy).run P w=((do let b <-Op.equal t vx vy;pure (.bool (if op=.eql then b else !b))):Sem Value).run P w):=by
 have key:∀vx vy:Value,(∀k a,vx≠.int k a)->(∀s,vx≠.string s)->(∀k a,vx≠.float k a)->(∀k a b,vx≠.complex k a b)->
  ∀op,op=.eql\/op=.neq->(binOp op t vx vy).run P w=((do let b <-Op.equal t vx vy;pure (.bool (if op=.eql then b else !b))):Sem Value).run P w:=by
  intro vx vy h1 h2 h3 h4 op xM
  rcases xM with rfl|rfl<;>cases vx<;>cases vy<;>first
   |rfl|(exact(h1 _ _ rfl).elim)|(exact(h2 _ rfl).elim)|(exact(h3 _ _ rfl).elim)|(exact(h4 _ _ _ rfl).elim)
 unfold eqR at h;split at h;rename_i ht;split at h;rename_i lx a ly b h1 h2;simp only[Option.some.injEq]at h;subst h;obtain rfl:=jT h1 hx;obtain rfl:=jT h2 hy;exact⟨run_equal_bool w t a b ht,λop c d=>zU op t c d a b,key _ _ (by simp) (by simp) (by simp) (by simp)⟩;cases h;rename_i n e k m ws k' m' nv ht;split at h;rename_i k'' he;simp only[cond_eq_ite]at h;split at h;rename_i hc;simp only[and_eq_true,beq_iff_eq,not_eq_true']at hc;have⟨⟨⟨⟨⟨e1,e2⟩,e3⟩,e4⟩,e5⟩,e6⟩:=hc;obtain rfl:=bu e1;obtain rfl:=bu e2;subst e3;subst e4;simp only[Option.some.injEq]at h;subst h;unfold ag at hx hy;obtain⟨l1,rfl⟩:=hx;obtain⟨l2,rfl⟩:=hy
 obtain⟨i,hi,hs⟩:∃i,P.info? e=some i/\i.size=1:=by
  cases hi:P.info? e with
  |none=>simp[hi]at e5|some i=>exact⟨i,rfl,by simpa[hi]using e5⟩
 exact⟨tD 9998 ht he hi hs ws nv l1 l2 w,λop c d=>run_eqGuard_agg w op t c d _ _ e6,key _ _ (by simp) (by simp) (by simp) (by simp)⟩;cases h;cases h;rename_i e ht;simp only[Option.some.injEq]at h;subst h;have h1:=aC (by simp) hx;have h2:=aC (by simp) hy;cases h1;cases h2;exact⟨afV 9999 ht none,λop c d=>nN op t c d _ _,key _ _ (by simp) (by simp) (by simp) (by simp)⟩;rename_i e id off ht;simp only[Option.some.injEq]at h;subst h;have h1:=aC (by simp) hx;cases h1;unfold ag aS at hy;obtain⟨b,_,rfl,_⟩:=hy;exact⟨afV 9999 ht _,λop c d=>nN op t c d _ _,key _ _ (by simp) (by simp) (by simp) (by simp)⟩;rename_i e id off ht;simp only[Option.some.injEq]at h;subst h;have h1:=aC (by simp) hy;cases h1;unfold ag aS at hx;obtain⟨b,_,rfl,_⟩:=hx;exact⟨aod 9999 ht _,λop c d=>nN op t c d _ _,key _ _ (by simp) (by simp) (by simp) (by simp)⟩;rename_i n e xs ys ht;split at h;rename_i ms he;rw[cond_eq_ite]at h;split at h;rename_i hc;simp only[and_eq_true,beq_iff_eq,not_eq_true']at hc;have⟨⟨⟨hn1,z7⟩,bZ⟩,hg⟩:=hc;obtain⟨b,h1,rfl⟩:=map_eq_some_iff.1 h
 obtain⟨i,hi,hs⟩:∃i,P.info? e=some i/\i.size=1:=by
  cases hi:P.info? e with
  |none=>simp[hi]at bZ|some i=>exact⟨i,rfl,by simpa[hi]using bZ⟩
 unfold ag at hx hy;obtain⟨cx,rfl,hx⟩:=hx;obtain⟨cy,rfl,hy⟩:=hy;have⟨bs,e1,e2,e3,e4,e5⟩:=aj2 (P:=P) 9997 ⟨ms,he⟩ h1 hx hy
 have an3:=ab0 (P:=P) 9998 (e:=e) hs (λw=>by simp[isAgg,run_underlying he]) cx cy w n (by omega) (by omega) n 0 bs (by omega) (by omega) (λj hj hx hy hb=>by
  simp only[zero_add];exact e5 j (by omega) (by omega) hb)
 refine⟨?_,λop c d=>run_eqGuard_agg w op t c d _ _ hg,key _ _ (by simp) (by simp) (by simp) (by simp)⟩;show(Op.equalIn (9999+1) t _ _).run P w=_;unfold Op.equalIn;simp only[Sem.run_bind,run_underlying ht,Result.andThen_ok,sizeOf,typeInfo,run_program,hi,Sem.run_pure];rw[Std.Legacy.Range.forIn_eq_forIn_range'];simp only[Std.Legacy.Range.size,Nat.sub_zero,Nat.add_sub_cancel,Nat.div_one];rw[an3,<-e4];cases bs.all id<;>simp;cases h;cases h;rename_i fs xs ys ht;rw[cond_eq_ite]at h;split at h;cases h;rename_i hg;obtain⟨b,h1,rfl⟩:=map_eq_some_iff.1 h;unfold ag at hx hy;obtain⟨cx,rfl,hx⟩:=hx;obtain⟨cy,rfl,hy⟩:=hy;have hk:=aj3 (P:=P) 20 h1 hx hy (d':=10000) (by omega);have ha:gU P t=some true:=by simp[gU,ht]
 simp only[mk,ha]at hk;exact⟨hk,λop c d=>run_eqGuard_agg w op t c d _ _ (by simpa using hg),key _ _ (by simp) (by simp) (by simp) (by simp)⟩;cases h
theorem ab1{x:AV}{k:IntKind}{v:Value}(h:x.kind? =some k)(hd:ag ρ H O w x v):∃n,v=.int k n:=by
 unfold AV.kind? at h;split at h<;>cases h
 all_goals
  have:=aC (by simp) hd;cases this;exact⟨_,rfl⟩
theorem aic{op:BinOp}{t:TypeId}{k:IntKind}{a b:Int}{r:AV}(h:aek op k=some r):∃v,(binOp op t (.int k a) (.int k b)).run P w=.ok v w/\ag ρ H O w r v:=by
 have ar:∀(op:BinOp) (n:Int),vq op k true true a b=some ([],.s (.aO k n))->∃v,(binOp op t (.int k a) (.int k b)).run P w=.ok v w/\ag ρ H O w (.s (.r7 k)) v:=λop n h=>by
  have⟨v,h3,h4⟩:=si (P:=P) (t:=t) (ρ:=ρ) (H:=H) (O:=O) (w:=w) h trivial;have:=aC (by simp) h4;cases this;exact⟨_,h3,aK (.r7 _ _)⟩
 have cm:∀(op:BinOp) (c:Bool),vq op k true true a b=some ([],.s (.aN c))->∃v,(binOp op t (.int k a) (.int k b)).run P w=.ok v w/\ag ρ H O w (.s (.kG 0 true)) v:=λop c h=>by
  have⟨v,h3,h4⟩:=si (P:=P) (t:=t) (ρ:=ρ) (H:=H) (O:=O) (w:=w) h trivial;have:=aC (by simp) h4;cases this;exact⟨_,h3,aK (.kG 0 true _ (λ_=>rfl))⟩
 unfold aek at h;split at h<;>cases h;exact ar .add _ rfl;exact ar .sub _ rfl;exact ar .mul _ rfl;exact ar .and _ rfl;exact ar .or _ rfl;exact ar .xor _ rfl;exact ar .andNot _ rfl;exact cm .eql _ rfl;exact cm .neq _ rfl;exact cm .lss _ rfl;exact cm .leq _ rfl;exact cm .gtr _ rfl;exact cm .geq _ rfl
theorem afW{op:BinOp}{t:TypeId}{x y:AV}{ox oy:Operand}{vx vy:Value}{q:List Prop×AV}(h:anT P op t x y=some q)(hn:bE q.1)
 (hx:ag ρ H O w x vx) (hy:ag ρ H O w y vy):
 ∃v,(do eqGuard op t ox oy vx vy;binOp op t vx vy:Sem Value).run P w=.ok v w/\ag ρ H O w q.2 v:=by
 unfold anT at h;split at h;rename_i a b;obtain rfl:=fB hx;obtain rfl:=fB hy;have⟨v,h1,h2⟩:=ahI (P:=P) (t:=t) (ρ:=ρ) (H:=H) (O:=O) (w:=w) h hn;exact⟨v,by simp[abF,h1],h2⟩;split at h;rename_i k lx a k' ly b h1 h2;obtain rfl:=cp h1 hx;obtain rfl:=cp h2 hy;split at h;have⟨v,h3,h4⟩:=yv (P:=P) (t:=t) (k':=k') (ρ:=ρ) (H:=H) (O:=O) (w:=w) h hn;exact⟨v,by simp[gN,h3],h4⟩;have⟨v,h3,h4⟩:=yv (P:=P) (t:=t) (k':=k') (ρ:=ρ) (H:=H) (O:=O) (w:=w) h hn;exact⟨v,by simp[gN,h3],h4⟩;rw[cond_eq_ite]at h;split at h;rename_i hk;obtain rfl:=bu hk;have⟨v,h3,h4⟩:=si (P:=P) (t:=t) (ρ:=ρ) (H:=H) (O:=O) (w:=w) h hn;exact⟨v,by simp[gN,h3],h4⟩;cases h;split at h;rename_i k k' hk1 hk2;rw[cond_eq_ite]at h;split at h;rename_i hk;obtain rfl:=bu hk;obtain⟨a,rfl⟩:=ab1 hk1 hx;obtain⟨b,rfl⟩:=ab1 hk2 hy;simp only[map_eq_some_iff]at h;obtain⟨r,hr,rfl⟩:=h;have⟨v,h3,h4⟩:=aic (P:=P) (t:=t) (ρ:=ρ) (H:=H) (O:=O) (w:=w) (a:=a) (b:=b) hr;exact⟨v,by simp[gN,h3],h4⟩;cases h;split at h;simp only[map_eq_some_iff]at h;obtain⟨⟨l,b⟩,h1,rfl⟩:=h;have⟨h2,h3,h4⟩:=aj4 h1 hx hy;exact⟨.bool b,by simp[h3,h4 .eql (.inl rfl),h2],p8 _ _⟩;simp only[map_eq_some_iff]at h;obtain⟨⟨l,b⟩,h1,rfl⟩:=h;have⟨h2,h3,h4⟩:=aj4 h1 hx hy;exact⟨.bool (!b),by simp[h3,h4 .neq (.inr rfl),h2],p8 _ _⟩;cases h
theorem aoe{t:TypeId}{x:AV}{vx:Value}{q:bP}(h:(ash P t x).eval H=some q)(hn:bE q.ab)(hx:ag ρ H O w x vx):fp P ρ H O w q (Instr.makeInterface t vx):=by
 have run:∀(v:Value) {u:TypeDesc},P.underlying t=some u->(∀ms,u≠.interface ms)->(Instr.makeInterface t v).run P w=.ok (.iface t v) w:=by
  intro v u hu hni;unfold Instr.makeInterface;simp only[Sem.run_bind,run_underlying hu,Result.andThen_ok,Sem.run_pure]
 unfold ash at h;split at h;simp[RM.eval]at h;rename_i u k n cG hu;have h1:=aC (by simp) hx;cases h1;exact aR h (λ_=>⟨_,run _ hu (λms e=>cG ms e),aK (.ifi t k n)⟩) hn;rename_i u k n cG hu;have h1:=aC (by simp) hx;cases h1;exact aR h (λ_=>⟨_,run _ hu (λms e=>cG ms e),aK (.ifi t k n)⟩) hn;rename_i u s cG hu;have h1:=aC (by simp) hx;cases h1;exact aR h (λ_=>⟨_,run _ hu (λms e=>cG ms e),aK (.ifs t s)⟩) hn;rename_i u b cG hu;have h1:=aC (by simp) hx;cases h1;exact aR h (λ_=>⟨_,run _ hu (λms e=>cG ms e),aK (.ifb t b)⟩) hn;rename_i u b cG hu;have h1:=aC (by simp) hx;cases h1;exact aR h (λ_=>⟨_,run _ hu (λms e=>cG ms e),aK (.ifb t b)⟩) hn;simp[RM.eval]at h
end
def Yields(P:Program)(o:Oper)(e:Operand->Value)(w:World)(R:Value->World->Prop):Prop:=
 match(execOp e o).run P w with
 |.ok (.value v) w'=>R v w'|.ok .skip w'=>R undef w'|.ok (.enter f args) w'=>Calls P f args w' λen w''=>∃v,en=.returned v/\R v w''|_=>False
structure aZ where
 bs:List Nat
 ok:World->Prop
 low:∀w,ok w->∀b,b∈bs->b<w.heap.size
 fj:∀w w',ok w->(∀b,b∈bs->w'.heap[b]? =w.heap[b]?)->ok w'
def ZAt(Z:aZ)(ρ:Nat->Value)(H:a8)(w:World):Prop:=Z.ok w/\∀b,b∈Z.bs->¬Own ρ H b
def SOk(P:Program)(S:fA)(Z:aZ):Prop:=
 ∀(base:Nat) (f:FuncId) (args:List AV) (H:a8) (q:bP),iY P f=true->(S base f args).eval H=some q->bE q.ab->∀(ρ:Nat->Value) (G:Nat->Prop) (w:World) (vs:List Value),
  (∀i,i<q.new.length->H (base+i)=none)->ZAt Z ρ H w->Sat ρ H G w->bI ρ H (bg ρ H G) w args vs->
  Calls P f vs.toArray w λen w'=>∃v,en=.returned v/\Good ρ H G w (dc H q.up base q.new) (q.r base) v w'
section
variable{ρ aU:Nat->Value}{H H':a8}{G O O':Nat->Prop}{w w':World}{P:Program}{S:fA}{Z:aZ}
theorem oU{why:String}{p:Option (List Prop×AV)}{q:bP}(h:(pU why p).eval H=some q):∃x,p=some x/\q=⟨x.1,[],[],λ_=>x.2⟩:=by
 cases p with
 |none=>simp[pU,RM.eval]at h|some x=>simp only[pU,plain,RM.eval,Option.some.injEq]at h;exact⟨x,rfl,h.symm⟩
theorem bB{o:Oper}{e:Operand->Value}{q:bP}{s:Sem Value}(hs:Sat ρ H G w)(h:fp P ρ H (bg ρ H G) w q s)(he:(execOp e o).run P w=(do pure (Next.value (<-s)):Sem Next).run P w)(base:Nat):
 Yields P o e w (λv w'=>Good ρ H G w (dc H q.up base q.new) (q.r base) v w'):=by
 have⟨h1,h2,v,h3,h4⟩:=h;unfold Yields;rw[he,h1,h2,lX];simp only[Sem.run_bind,h3,Result.andThen_ok,Sem.run_pure];exact Good.val hs (h4 base)
theorem dS{o:Oper}{e:Operand->Value}{R:Value->World->Prop}{s:Sem Value}(h:∃v w',s.run P w=.ok v w'/\R v w')(he:(execOp e o).run P w=(do pure (Next.value (<-s)):Sem Next).run P w):Yields P o e w R:=by
 have⟨v,w',h1,h2⟩:=h;unfold Yields;rw[he];simp only[Sem.run_bind,h1,Result.andThen_ok,Sem.run_pure];exact h2
theorem n6{ev:Operand->AV}{e:Operand->Value}:∀(l:List Operand),(∀x∈l,ag ρ H O w (ev x) (e x))->bI ρ H O w (l.map ev) (l.map e)
 |[],_=>bp.2 rfl|x::l,h=>aJ.2 ⟨e x,l.map e,rfl,h x (by simp),n6 l (λy hy=>h y (by simp[hy]))⟩
theorem jg{aT bs:List AV}{us vs:List Value}(h1:bI ρ H O w aT us)(h2:bI ρ H O w bs vs):bI ρ H O w (aT++bs) (us++vs):=by
 induction aT generalizing us with
 |nil=>rw[bp.1 h1];exact h2|cons a aT ih=>
  obtain⟨v,rest,rfl,h3,h4⟩:=aJ.1 h1;exact aJ.2 ⟨v,rest++vs,rfl,h3,ih h4⟩
theorem hJ{f:FuncId}(h:iY P f=true)(args:Array Value)(w:World):(callFunc f args).run P w=.ok (.enter f args) w:=by
 unfold iY at h;split at h;rename_i fn hf;simp only[and_eq_true,not_eq_true',beq_eq_false_iff_ne,ne_eq]at h
 have hb:¬fn.body=none:=by
  intro hb;rw[hb]at h;simp at h
 simp[callFunc,hf,h.2,hb];cases h
theorem aao{f:FuncId}{v:Value}(h:bh O w (.qF f) v):v=.func (.func f) #[] #[]:=by cases h;rfl
theorem aeR{ev:Operand->AV}{e:Operand->Value}{l:Option Operand}(h:∀x,l=some x->ag ρ H O w (ev x) (e x)):nR ρ H O w (l.map ev) (l.map e):=by
 cases l with
 |none=>trivial|some x=>exact h x rfl
theorem yH{ps:Array (Nat×Operand)}{p:Nat×Operand}(h:p∈ps):p.2∈(ps.toList.map (·.2)).toArray:=by
 simp only[List.mem_toArray,mem_map];exact⟨p,Array.mem_toList_iff.2 h,rfl⟩
theorem afX(hS:SOk P S Z){base:Nat}{o:Oper}{ev:Operand->AV}{q:bP}(h:(ajA P (S base) ev o).eval H=some q)(hn:bE q.ab)(hz:ZAt Z ρ H w)(hs:Sat ρ H G w){e:Operand->Value}
 (hd:∀x∈o.op.operands,ag ρ H (bg ρ H G) w (ev x) (e x)) (hb:∀i,i<q.new.length->H (base+i)=none):
 Yields P o e w (λv w'=>Good ρ H G w (dc H q.up base q.new) (q.r base) v w'):=by
 unfold ajA at h;split at h;rename_i x ho;have hx:=hd x (by simp[ho,Op.operands]);simp only[plain,RM.eval,Option.some.injEq]at h;subst h;unfold Yields;simp only[execOp,ho,Sem.run_pure,lX];exact Good.val hs hx;rename_i x ho;have hx:=hd x (by simp[ho,Op.operands]);simp only[plain,RM.eval,Option.some.injEq]at h;subst h;unfold Yields;simp only[execOp,ho,Sem.run_pure,lX];exact Good.val hs hx;rename_i c a b ho;obtain⟨⟨n,r⟩,h1,rfl⟩:=oU h;have⟨t,h2,h3⟩:=ajD h1 (hd c (by simp[ho,Op.operands])) (hd a (by simp[ho,Op.operands])) (hd b (by simp[ho,Op.operands]));unfold Yields;simp only[execOp,ho,h2,asBool,lX];cases t<;>simp at h3 ⊢ <;>exact Good.val hs h3;rename_i t ho;exact dS (ahX h hs hb (.tuple #[])) (by simp only[execOp,ho]);rename_i t x ho;exact dS (an5 h hs (hd x (by simp[ho,Op.operands])) hb) (by simp only[execOp,ho]);rename_i t x ho;exact bB hs (aoe h hn (hd x (by simp[ho,Op.operands]))) (by simp only[execOp,ho]) base;rename_i t ps ho;exact bB hs (ahY h hn (λp hp=>hd p.2 (by rw[ho];exact yH hp))) (by simp only[execOp,ho]) base;rename_i t n ps ho;exact dS (vN h hs (λp hp=>hd p.2 (by rw[ho];exact yH hp)) hb) (by simp only[execOp,ho]);rename_i t a ho;exact bB hs (abI h hn hs (hd a (by simp[ho,Op.operands]))) (by simp only[execOp,ho]) base;rename_i t a x ho;have⟨w',h1,h2⟩:=ahW h hs (hd a (by simp[ho,Op.operands])) (hd x (by simp[ho,Op.operands]));unfold Yields;simp only[execOp,ho,Sem.run_bind,h1,Result.andThen_ok,Sem.run_pure];exact h2 base;rename_i x ho;have⟨h1,h2,h3,h4⟩:=z8 (P:=P) h hn (hd x (by simp[ho,Op.operands])) e o x ho rfl;unfold Yields;rw[h3,h1,h2,lX];exact Good.val hs (h4 base);rename_i op t x y ty ho;obtain⟨⟨n,r⟩,h1,rfl⟩:=oU h;have⟨v,h2,h3⟩:=afW (ox:=x) (oy:=y) h1 hn (hd x (by simp[ho,Op.operands])) (hd y (by simp[ho,Op.operands]));exact bB hs ⟨rfl,rfl,v,h2,λ_=>h3⟩ (by simp only[execOp,ho]) base;rename_i op t x ho;obtain⟨⟨n,r⟩,h1,rfl⟩:=oU h;have⟨v,h2,h3⟩:=asj (P:=P) h1 hn (hd x (by simp[ho,Op.operands]));exact bB hs ⟨rfl,rfl,v,h2,λ_=>h3⟩ (by simp only[execOp,ho]) base;rename_i a b x ho;rw[cond_eq_ite]at h;split at h;exact dS (abW h hn hs (hd x (by simp[ho,Op.operands])) base) (by simp only[execOp,ho]);exact bB hs (abN h hn hs (hd x (by simp[ho,Op.operands]))) (by simp only[execOp,ho]) base;rename_i t x ho;exact bB hs (abX h hn (hd x (by simp[ho,Op.operands]))) (by simp only[execOp,ho]) base;rename_i x ho;exact bB hs (aib h hn hs (hd x (by simp[ho,Op.operands]))) (by simp only[execOp,ho]) base;rename_i fn a b ho;refine bB hs (aaa h hn (n6 a.toList (λx hx=>hd x (by simp[ho,Op.operands,Array.mem_toList_iff.1 hx]))) (n6 b.toList (λx hx=>hd x (by simp[ho,Op.operands,Array.mem_toList_iff.1 hx])))) ?_ base;have e1:∀a:Array Operand,(a.toList.map e).toArray=a.map e:=λa=>by apply toList_inj.1;simp
 simp only[execOp,ho,e1];rename_i t x l hi m ho;refine bB hs (ahP hs h hn (hd x (by simp[ho,Op.operands])) (aeR (l:=l) (λy hy=>hd y (by simp[ho,Op.operands,hy]))) (aeR (l:=hi) (λy hy=>hd y (by simp[ho,Op.operands,hy]))) (aeR (l:=m) (λy hy=>hd y (by simp[ho,Op.operands,hy])))) (by simp only[execOp,ho]) base;rename_i t x f ho;exact bB hs (xT h hn (hd x (by simp[ho,Op.operands]))) (by simp only[execOp,ho]) base;rename_i t x f ho;exact bB hs (ahO h hn (hd x (by simp[ho,Op.operands]))) (by simp only[execOp,ho]) base;rename_i t x i ho;exact bB hs (xU h hn hs (hd x (by simp[ho,Op.operands])) (hd i (by simp[ho,Op.operands]))) (by simp only[execOp,ho]) base;rename_i t x i ho;exact bB hs (ahM h hn (hd x (by simp[ho,Op.operands])) (hd i (by simp[ho,Op.operands]))) (by simp only[execOp,ho]) base;rename_i x i ho;exact bB hs (abK h hn (hd x (by simp[ho,Op.operands]))) (by simp only[execOp,ho]) base;rename_i t x i ok ho;exact bB hs (aeO h hn hs (hd x (by simp[ho,Op.operands])) (hd i (by simp[ho,Op.operands]))) (by simp only[execOp,ho]) base;rename_i t x i v ho;have⟨w',h1,h2⟩:=pC h hs (hd x (by simp[ho,Op.operands])) (hd i (by simp[ho,Op.operands])) (hd v (by simp[ho,Op.operands]));unfold Yields;simp only[execOp,ho,Sem.run_bind,h1,Result.andThen_ok,Sem.run_pure];exact h2 base;rename_i t x i v ho;have⟨w',h1,h2⟩:=pC h hs (hd x (by simp[ho,Op.operands])) (hd i (by simp[ho,Op.operands])) (hd v (by simp[ho,Op.operands]));unfold Yields;simp only[execOp,ho,Sem.run_bind,h1,Result.andThen_ok,Sem.run_pure];exact h2 base;rename_i t r ho;have⟨h1,h2⟩:=abV h hs hb
 have hr:r=none:=by cases r with
  |none=>rfl|some x=>cases h1
 subst hr;exact dS h2 (by simp only[execOp,ho];rfl);rename_i t l c ho;exact dS (xZ h hn hs (hd l (by simp[ho,Op.operands])) (hd c (by simp[ho,Op.operands])) hb) (by simp only[execOp,ho]);rename_i c ho;split at h;rename_i f hc;have hf:=hd f (by simp[ho,Op.operands,Call.operands,hc]);have gb:∀x∈c.args.toList,ag ρ H (bg ρ H G) w (ev x) (e x):=λx hx=>hd x (by simp[ho,Op.operands,Call.operands,hc,Array.mem_toList_iff.1 hx]);have hl:=n6 c.args.toList gb;have e1:(c.args.toList.map e).toArray=c.args.map e:=by apply toList_inj.1;simp
 split at h;rename_i g hg;rw[hg]at hf;have hf':=aC (by simp) hf;unfold yu at h;rw[cond_eq_ite]at h;have hv:=aao hf';split at h;rename_i gm;have key:=hS base g _ H q gm h hn ρ G w _ hb hz hs hl;unfold Yields
 have iD:(execOp e o).run P w=.ok (.enter g (c.args.toList.map e).toArray) w:=by
  rw[e1];simp[execOp,ho,resolve,hc,hv,Deferred.ofValue,invoke,hJ gm]
 rw[iD];exact key;have⟨v,k1,k2,k3,k4⟩:=mH h hn hs hl;rw[e1]at k1;refine bB (s:=pure v) hs ⟨k2,k3,v,by simp,k4⟩ ?_ base;simp[execOp,ho,resolve,hc,hv,Deferred.ofValue,invoke,k1];rename_i g dh hg;rw[hg]at hf;unfold ag at hf;have⟨vs,hv,qX⟩:=hf;unfold yu at h;rw[cond_eq_ite]at h;split at h;rename_i gm;have key:=hS base g _ H q gm h hn ρ G w _ hb hz hs (jg hl qX);unfold Yields
 have iD:(execOp e o).run P w=.ok (.enter g (c.args.toList.map e++vs).toArray) w:=by
  have e2:(c.args.toList.map e++vs).toArray=c.args.map e++vs.toArray:=by apply toList_inj.1;simp
  rw[e2];simp[execOp,ho,resolve,hc,hv,Deferred.ofValue,invoke,hJ gm]
 rw[iD];exact key;have⟨v,k1,k2,k3,k4⟩:=mH h hn hs (jg hl qX);have e2:(c.args.toList.map e++vs).toArray=c.args.map e++vs.toArray:=by apply toList_inj.1;simp
 rw[e2]at k1;refine bB (s:=pure v) hs ⟨k2,k3,v,by simp,k4⟩ ?_ base;simp[execOp,ho,resolve,hc,hv,Deferred.ofValue,invoke,k1];rename_i g dh hg;rw[hg]at hf;unfold ag at hf;have⟨vs,hv,qX⟩:=hf;unfold yu at h;rw[cond_eq_ite]at h;split at h;rename_i gm;have key:=hS base g _ H q gm h hn ρ G w _ hb hz hs (jg qX hl);unfold Yields
 have iD:(execOp e o).run P w=.ok (.enter g (vs++c.args.toList.map e).toArray) w:=by
  have e2:(vs++c.args.toList.map e).toArray=vs.toArray++c.args.map e:=by apply toList_inj.1;simp
  rw[e2];simp[execOp,ho,resolve,hc,hv,Deferred.ofValue,invoke,hJ gm]
 rw[iD];exact key;have⟨v,k1,k2,k3,k4⟩:=mH h hn hs (jg qX hl);have e2:(vs++c.args.toList.map e).toArray=vs.toArray++c.args.map e:=by apply toList_inj.1;simp
 rw[e2]at k1;refine bB (s:=pure v) hs ⟨k2,k3,v,by simp,k4⟩ ?_ base;simp[execOp,ho,resolve,hc,hv,Deferred.ofValue,invoke,k1];cases h;rename_i b hc;have gb:∀x∈c.args.toList,ag ρ H (bg ρ H G) w (ev x) (e x):=λx hx=>hd x (by simp[ho,Op.operands,Call.operands,hc,Array.mem_toList_iff.1 hx])
 have iD:(execOp e o).run P w=(builtin b c.argTypes o.type (c.args.map λ|.const _=>true|_=>false) (c.args.map e)).run P w:=by
  simp[execOp,ho,resolve,hc,invoke];rfl
 unfold abE at h;split at h;rename_i t ts x hts hx
 obtain⟨y,hy,rfl⟩:∃y,c.args.toList=[y]/\ev y=x:=by
  cases hl:c.args.toList with
  |nil=>rw[hl]at hx;simp at hx|cons y l=>
   rw[hl]at hx;simp only[map_cons,List.cons.injEq,List.map_eq_nil_iff]at hx;exact⟨y,by rw[hx.2],hx.1⟩
 have ea:c.args.map e= #[e y]:=by apply toList_inj.1;simp[hy]
 have et:c.argTypes=(t::ts).toArray:=by apply toList_inj.1;simp[hts]
 refine bB hs (an0 (ty:=o.type) (ts:=ts) h hn hs (gb y (by simp[hy]))) ?_ base;rw[iD,ea,et];rfl;rename_i t ts x hts hx
 obtain⟨y,hy,rfl⟩:∃y,c.args.toList=[y]/\ev y=x:=by
  cases hl:c.args.toList with
  |nil=>rw[hl]at hx;simp at hx|cons y l=>
   rw[hl]at hx;simp only[map_cons,List.cons.injEq,List.map_eq_nil_iff]at hx;exact⟨y,by rw[hx.2],hx.1⟩
 have ea:c.args.map e= #[e y]:=by apply toList_inj.1;simp[hy]
 have et:c.argTypes=(t::ts).toArray:=by apply toList_inj.1;simp[hts]
 refine bB hs (an1 (ty:=o.type) (ts:=ts) h hn hs (gb y (by simp[hy]))) ?_ base;rw[iD,ea,et];rfl;rename_i t t' x y hts hx
 obtain⟨x0,y0,hl,rfl,rfl⟩:∃x0 y0,c.args.toList=[x0,y0]/\ev x0=x/\ev y0=y:=by
  match hl:c.args.toList with
  |[]=>rw[hl]at hx;simp at hx|[_]=>rw[hl]at hx;simp at hx|[a,b]=>rw[hl]at hx;simp at hx;exact⟨a,b,rfl,hx.1,hx.2⟩|_::_::_::_=>rw[hl]at hx;simp at hx
 have ea:c.args.map e= #[e x0,e y0]:=by apply toList_inj.1;simp[hl]
 have et:c.argTypes= #[t,t']:=by apply toList_inj.1;simp[hts]
 rw[cond_eq_ite]at h;split at h;rename_i hz
 have hzero:(∃e',P.underlying t'=some (.slice e'))\/P.underlying t'=some .string:=by
  unfold zS at hz;split at hz;rename_i e' he;exact .inl ⟨e',he⟩;rename_i he;exact .inr he;cases hz
 refine dS (aeL (ty:=o.type) h hn hs (gb x0 (by simp[hl])) (gb y0 (by simp[hl])) hzero hb) ?_;rw[iD,ea,et];rfl;refine dS (abZ (ty:=o.type) h hn hs (gb x0 (by simp[hl])) (gb y0 (by simp[hl])) hb) ?_;rw[iD,ea,et];rfl;rename_i x y hx
 obtain⟨x0,y0,hl,rfl,rfl⟩:∃x0 y0,c.args.toList=[x0,y0]/\ev x0=x/\ev y0=y:=by
  match hl:c.args.toList with
  |[]=>rw[hl]at hx;simp at hx|[_]=>rw[hl]at hx;simp at hx|[a,b]=>rw[hl]at hx;simp at hx;exact⟨a,b,rfl,hx.1,hx.2⟩|_::_::_::_=>rw[hl]at hx;simp at hx
 have ea:c.args.map e= #[e x0,e y0]:=by apply toList_inj.1;simp[hl]
 refine bB hs (afT (ts:=c.argTypes) (ty:=o.type) h hn (gb x0 (by simp[hl])) (gb y0 (by simp[hl]))) ?_ base;rw[iD,ea];rfl;rename_i x y hx
 obtain⟨x0,y0,hl,rfl,rfl⟩:∃x0 y0,c.args.toList=[x0,y0]/\ev x0=x/\ev y0=y:=by
  match hl:c.args.toList with
  |[]=>rw[hl]at hx;simp at hx|[_]=>rw[hl]at hx;simp at hx|[a,b]=>rw[hl]at hx;simp at hx;exact⟨a,b,rfl,hx.1,hx.2⟩|_::_::_::_=>rw[hl]at hx;simp at hx
 have ea:c.args.map e= #[e x0,e y0]:=by apply toList_inj.1;simp[hl]
 refine bB hs (afT (ts:=c.argTypes) (ty:=o.type) h hn (gb x0 (by simp[hl])) (gb y0 (by simp[hl]))) ?_ base;rw[iD,ea];rfl;rename_i t t' x y hts hx
 obtain⟨x0,y0,hl,rfl,rfl⟩:∃x0 y0,c.args.toList=[x0,y0]/\ev x0=x/\ev y0=y:=by
  match hl:c.args.toList with
  |[]=>rw[hl]at hx;simp at hx|[_]=>rw[hl]at hx;simp at hx|[a,b]=>rw[hl]at hx;simp at hx;exact⟨a,b,rfl,hx.1,hx.2⟩|_::_::_::_=>rw[hl]at hx;simp at hx
 have ea:c.args.map e= #[e x0,e y0]:=by apply toList_inj.1;simp[hl]
 have et:c.argTypes= #[t,t']:=by apply toList_inj.1;simp[hts]
 rw[cond_eq_ite]at h;split at h;rw[cond_eq_ite]at h;split at h;have⟨v,w',h1,h2⟩:=aia (ty:=o.type) (t':=t') h hn hs (gb x0 (by simp[hl])) (gb y0 (by simp[hl]));refine dS ⟨v,w',h1,h2 base⟩ ?_;rw[iD,ea,et];rfl;have⟨v,w',h1,h2⟩:=ajT (ty:=o.type) (t':=t') h hs (gb x0 (by simp[hl])) (gb y0 (by simp[hl]));refine dS ⟨v,w',h1,h2 base⟩ ?_;rw[iD,ea,et];rfl;cases h;rename_i t ts x hts hx
 obtain⟨y,hy,rfl⟩:∃y,c.args.toList=[y]/\ev y=x:=by
  cases hl:c.args.toList with
  |nil=>rw[hl]at hx;simp at hx|cons y l=>
   rw[hl]at hx;simp only[map_cons,List.cons.injEq,List.map_eq_nil_iff]at hx;exact⟨y,by rw[hx.2],hx.1⟩
 have ea:c.args.map e= #[e y]:=by apply toList_inj.1;simp[hy]
 have et:c.argTypes=(t::ts).toArray:=by apply toList_inj.1;simp[hts]
 have⟨v,w',h1,h2⟩:=ah7 (ty:=o.type) (ts:=ts) h hs (gb y (by simp[hy]));refine dS ⟨v,w',h1,h2 base⟩ ?_;rw[iD,ea,et];rfl;cases h;cases h;cases h
theorem RM.l6{α:Type}{id:Nat}:∀(m:RM α),(m.aez id).eval H=m.eval (aP H id .aH)
 |.ret a=>rfl|.look j k=>by
  simp only[RM.aez,RM.eval,cond_eq_ite,aP];by_cases h:j=id;subst h;rw[if_pos (Nat.beq_refl _),if_pos rfl];exact RM.l6 _;rw[if_neg (by simpa using h),if_neg h];simp only[RM.eval];exact RM.l6 _
 |.fail w=>rfl
theorem bh.aqQ(gf:∀b,O' b->O b){x:SV}{v:Value}(h:bh O w x v):bh O' w x v:=h.step (λb hb=>.inl (gf b hb)) (λ_ _ _=>rfl) (le_refl _)
theorem qY(hs:Sat ρ H G w){id:Nat}{c:ba}{e:TypeId}(ho:H id=some (.vec c e)):bh (bg ρ (aP H id .aH) G) w (.ro c) (ρ id):=by
 have ej:=hs.obj id _ ho;have⟨a,cap,hr,h2,h3,h4⟩:=ej;have aj5:∀b,bg ρ (aP H id .aH) G b->bg ρ H G b:=λb hb=>hb.imp eY (λx=>x);rw[hr];by_cases hc:cap=0;have h0:c.n=0:=by omega
 have:=bh.ro (O:=bg ρ (aP H id .aH) G) (w:=w) c a cap (λ_ _=>undef) 0 0 h2 h3 (λh=>by omega) (λi j hi hj=>by omega) (λi j hi hj=>by omega);exact this;obtain⟨b,o,cells,fr,us,rfl,g1,g2,g3,g4⟩:=h4.resolve_left hc;have mB:eQ (ρ id)=some b:=by rw[hr];simp only[eQ];rw[if_neg hc]
 refine bh.ro c _ cap us b o h2 h3 (λ_=>⟨rfl,λhb=> ?_,(Array.getElem?_eq_some_iff.1 g1).1⟩) (λi j hi hj=> ?_) (λi j hi hj=> ?_);rcases hb with⟨j,x,hx,ha,hb⟩|hb;by_cases hj:j=id;subst hj;simp only[aP,if_true,Option.some.injEq]at hx;subst hx;cases ha;simp only[aP,hj,if_false]at hx;exact hj (hs.inj j id x _ b hx ho ha rfl hb mB);exact hs.apart b ⟨id,_,ho,rfl,mB⟩ hb;rw[dm g1];exact(g4 i j hi hj).1;exact(g4 i j hi hj).2.aqQ aj5
theorem RM.mI{id:Nat}:∀(m:RM bP) {q:bP},(m.mD id).eval H=some q->∃q',m.eval H=some q'/\q={q' with up:=(id,.aH)::q'.up}
 |.ret a,q,h=>by
  simp only[RM.mD,RM.eval,Option.some.injEq]at h;exact⟨a,rfl,h.symm⟩
 |.look j k,q,h=>by
  simp only[RM.mD,RM.eval]at h ⊢;exact RM.mI _ h
 |.fail w,q,h=>by simp[RM.mD,RM.eval]at h
theorem Yields.imp{o:Oper}{e:Operand->Value}{R R':Value->World->Prop}(h:Yields P o e w R)(hr:∀v w',R v w'->R' v w'):Yields P o e w R':=by
 unfold Yields at h ⊢;split at h;exact hr _ _ h;exact hr _ _ h;exact h.mono λen w'' ⟨v,he,hv⟩=>⟨v,he,hr _ _ hv⟩;exact h
theorem yI(hS:SOk P S Z){base:Nat}{o:Oper}:∀(ids:List Nat) {H:a8} {ev:Operand->AV} {q:bP},(giveUp ids ev λev=>ajA P (S base) ev o).eval H=some q->bE q.ab->ZAt Z ρ H w->Sat ρ H G w->
 ∀{e:Operand->Value},(∀x∈o.op.operands,ag ρ H (bg ρ H G) w (ev x) (e x))->(∀i,i<q.new.length->H (base+i)=none)->
 Yields P o e w (λv w'=>Good ρ H G w (dc H q.up base q.new) (q.r base) v w')
 |[],H,ev,q,h,hn,hz,hs,e,hd,hb=>afX hS h hn hz hs hd hb|id::ids,H,ev,q,h,hn,hz,hs,e,hd,hb=>by
  simp only[giveUp,RM.eval]at h;split at h;rename_i c el ho;obtain⟨q',h1,rfl⟩:=RM.mI _ h;rw[RM.l6]at h1;have st:=fw (ρ:=ρ) (G:=G) (w:=w) ho;have hz1:ZAt Z ρ (aP H id .aH) w:=⟨hz.1,λb hb hO=>hz.2 b hb (eY hO)⟩
  have hb1:∀j,j<q'.new.length->aP H id .aH (base+j)=none:=λj hj=>by
   have:=hb j hj;simp only[aP];split;rename_i e1;rw[e1,ho]at this;cases this;exact this
  have hd1:∀x∈o.op.operands,ag ρ (aP H id .aH) (bg ρ (aP H id .aH) G) w (ajB id c ev x) (e x):=λx hx=>by
   have h0:=hd x hx;have h2:=ag.step st _ _ h0;unfold ajB;split;rename_i j hj;rw[cond_eq_ite];split;rename_i hji;have hji:j=id:=by simpa using hji
   subst hji;rw[hj]at h0;have⟨a,cap,hv,hr,_⟩:=iQ hs ho h0;have:=qY hs ho;rw[hr]at this;exact aK this;rw[hj]at h2;exact h2;exact h2
  refine(yI hS ids h1 hn hz1 (hs.kill ho) hd1 hb1).imp λv w' hg=> ?_
  have aeS:dc H ((id,.aH)::q'.up) base q'.new=dc (aP H id .aH) q'.up base q'.new:=by
   funext j;simp only[dc,cT,aP];cases cT q'.up j with
   |some x=>rfl|none=>
    simp only[];by_cases hj:j=id;subst hj
    have qc:¬(base<=j/\j<base+q'.new.length):=by
     rintro⟨k1,k2⟩;have:=hb (j - base) (by simp only[];omega);rw[show base+(j - base)=j from by omega,ho]at this;cases this
    simp[qc];simp[hj]
  simp only[];rw[aeS];exact Good.after st (λb hb=>eY hb) hg;simp[RM.eval]at h
theorem aj6(hS:SOk P S Z){base:Nat}{o:Oper}{ev:Operand->AV}{q:bP}(h:(rZ P (S base) ev o).eval H=some q)(hn:bE q.ab)(hz:ZAt Z ρ H w)(hs:Sat ρ H G w){e:Operand->Value}
 (hd:∀x∈o.op.operands,ag ρ H (bg ρ H G) w (ev x) (e x)) (hb:∀i,i<q.new.length->H (base+i)=none):
 Yields P o e w (λv w'=>Good ρ H G w (dc H q.up base q.new) (q.r base) v w'):=by
 unfold rZ at h;split at h;rename_i op t x y ty ho;have hx:=lT (hd x (by simp[ho,Op.operands]));have hy:=hd y (by simp[ho,Op.operands]);rw[cond_eq_ite]at h;split at h;rename_i hi;exact bB hs (an2 (ox:=x) (oy:=y) h hn hs hx (ajF hy hi)) (by simp only[execOp,ho]) base;rw[cond_eq_ite]at h;split at h;exact bB hs (aeD (t:=t) (ox:=x) (oy:=y) h hn hx hy) (by simp only[execOp,ho]) base;obtain⟨⟨n,r⟩,h1,rfl⟩:=oU h;have⟨v,h2,h3⟩:=afW (ox:=x) (oy:=y) h1 hn hx hy;exact bB hs ⟨rfl,rfl,v,h2,λ_=>h3⟩ (by simp only[execOp,ho]) base;exact yI hS _ h hn hz hs (λx hx=>lT (hd x hx)) hb;exact afX hS h hn hz hs (λx hx=>lT (hd x hx)) hb
end
structure St where
 tmps:List AV
 H:List au
def iE(tmps:List AV):Operand->AV
 |.tmp t=>tmps.getD t (.s .bm)|.const (.slice none 0 0)=>.s .pT|.const v=>zN v|.global _=>.s .bm|.func f=>.s (.qF f)
def St.look(s:St):a8:=λid=>s.H[id]?
def sH(H:List au):List (Nat×au)->List au
 |[]=>H|(id,o)::us=>sH (H.set id o) us
def db(tmps:List AV):Option Tmp->AV->List AV
 |some d,v=>tmps.set d v|none,_=>tmps
def St.put(s:St)(dst:Option Tmp)(r:bP):St:=
 {tmps:=db s.tmps dst (r.r s.H.length),H:=sH s.H r.up++r.new}
structure Lp where
 ps:List Tmp
 asg:Code
 body:Code
inductive l7 where
 |ready|busy|done (c:Code)
structure tE where
 f:Option FuncId
 n:Nat
 round:Bool
 marks:Nat
 lp:Option (Lp×l7)
 todo:List Item
 key:Nat×Nat
structure yJ where
 f:Option FuncId:=none
 round:Bool:=false
 marks:Nat:=0
 below:List tE:=[]
 rid:Nat:=0
structure bQ where
 tmps:List AV
 H:List au
 todo:List Item
 stk:yJ:={}
def hM:Code->Option Nat
 |.region id _ _=>some id|.seq a b=>match hM a with
  |some i=>some i|none=>hM b
 |.cond _ a b=>match hM a with
  |some i=>some i|none=>hM b
 |.block _ c|.loop c|.scope c=>hM c|_=>none
def afY(k:yJ)(id:Nat):Nat:=match k.f with
 |none=>id|some g=>(g+1)*100000+id
def jV:Nat:=1000000000
def aj7:Nat:=1000000000000000
def gP(b:Bool):Nat:=bif b then 1 else 0
def tE.size(d:tE):Nat:=d.n+gP d.round+d.marks+gP d.lp.isSome
def afZ:List tE->Nat
 |[]=>0|d::ds=>d.size+afZ ds
def yJ.extra(k:yJ):Nat:=gP k.round+k.marks
def aj8(k:yJ)(id j:Nat):Nat:=aj7+(afY k id*1000+j)
def bQ.n(c:bQ):Nat:=c.tmps.length - (c.stk.extra+afZ c.stk.below)
def yJ.plain(k:yJ):Bool:= !k.round&&k.marks.beq 0&&k.below.isEmpty
def yJ.fn(P:Program)(fn:Func)(k:yJ):Option Func:=match k.f with
 |none=>some fn|some g=>P.funcs[g]?
inductive Tree where
 |ab (p:Prop) (t:Tree)|ite (b:Bool) (t e:Tree)|both (p q:Prop) (t e:Tree)|ret (H:List au) (v:AV)|at(c:bQ)|stuck (why:String)
def Tree.yK:List Prop->Tree->Tree
 |[],t=>t|p::ps,t=>.ab p (yK ps t)
def tF(us:List (Nat×au)):List Nat:=us.map (·.1)
def yL(n:Nat)(us:List (Nat×au)):Bool:=us.all λx=>x.1.blt n
structure Touch where
 i:Nat
 rd:List Nat
 wr:List Nat
def Touch.af0(a b:Touch):Bool:=a.wr.any (λx=>b.rd.contains x||b.wr.contains x)||b.wr.any (λx=>a.rd.contains x)
def n7(id:Nat)(c:ba):AV->AV
 |.vec j=>bif j.beq id then .s (.ro c)else .vec j|a=>a
def n8(id:Nat)(c:ba):AV->AV
 |.agg aD=>.agg (aD.map (n7 id c))|.vec j=>bif j.beq id then .s (.ro c)else .vec j|a=>a
def ab2(id:Nat)(c:ba):au->au
 |.ak aD e=>.ak (aD.map (n7 id c)) e|o=>o
def ab3(s:St)(id:Nat):St:=
 match s.H[id]? with
 |some (.vec c _)=>⟨s.tmps.map (n8 id c),(s.H.map (ab2 id c)).set id .aH⟩|_=>s
def aeT:AV->List Nat
 |.agg aD=>aD.filterMap λa=>match a with
  |.vec j=>some j|_=>none
 |.vec j=>[j]|_=>[]
def hU(s:St)(o:Oper):St:=
 match o.op with
 |.buildSlice _ _ ps=>(ps.toList.flatMap λp=>aeT (iE s.tmps p.2)).foldl ab3 s|.store _ a x=>match iE s.tmps a with
  |.gC _ _ _=>(aeT (iE s.tmps x)).foldl ab3 s|_=>s
 |_=>s
def lA(P:Program)(S:fA)(ops:Array Oper)(cont:St->List Touch->Tree):Nat->List Oper->St->List Touch->Tree
 |_,[],s,tr=>cont s tr|i,o::rest,s,tr=>
  let go (s:St):Tree:=
   let m:=rZ P (S s.H.length) (iE s.tmps) o
   match m.eval s.look with
   |some r=>bif yL s.H.length r.up then .yK r.ab (lA P S ops cont (i+1) rest (s.put o.dst r) (⟨i,m.ids s.look,tF r.up++(List.range r.new.length).map (s.H.length+·)⟩::tr))else .stuck ""|none=>.stuck (o.pos++ " " ++m.why s.look)
  let skip (s:St):Tree:=lA P S ops cont (i+1) rest {s with tmps:=db s.tmps o.dst (.bd [])} tr
  match o.guard with
  |none=>go s|some (g,want)=>
   match(ops[g]?).bind (·.dst)with
   |none=>.stuck ""|some d=>
    match s.tmps.getD d (.s .bm)with
    |.s (.aN b)=>bif b==want then go s else skip s|.s (.bool b)=>.ite b
     (bif want then go {s with tmps:=s.tmps.set d (.s (.aN true))}else skip {s with tmps:=s.tmps.set d (.s (.aN true))})
     (bif want then skip {s with tmps:=s.tmps.set d (.s (.aN false))}else go {s with tmps:=s.tmps.set d (.s (.aN false))})
    |.bd []=>skip s|_=>.stuck ""
def vW(ops:Array Oper):Nat->Nat->Nat->Bool
 |0,_,_=>false|n+1,i,j=>match ops[i]? with
  |some o=>(o.after.any λe=>Region.binds .any e&&e.on.beq j)||(o.after.any λe=>Region.binds .any e&&j.blt e.on&&vW ops n e.on j)|none=>false
def gz(ops:Array Oper)(i j:Nat):Bool:=vW ops 9 i j
def iF(ops:Array Oper):List Touch->Bool
 |[]=>true|b::aT=>aT.all (λa=> !(a.af0 b)||gz ops b.i a.i)&&iF ops aT
def hY(ops:Array Oper):Bool:=
 (List.range ops.size).all λi=>(List.range ops.size).all λj=>
   match ops[i]?,ops[j]? with
   |some x,some y=>
    (i==j)||(match x.dst with
      |none=>true|some d=>(!(y.looksAt ops).contains d&& !(y.dst==some d))||(if i<j then gz ops j i else gz ops i j))
   |_,_=>false
def dP(ops:Array Oper):Bool:=
 (List.range ops.size).all λi=>match ops[i]? with
   |some o=>o.after.all λe=> !(Region.binds .any e)||e.on.blt i|none=>true
def vX(ops:Array Oper)(j:Nat):Bool:=(List.range ops.size).all λi=>i.blt j||(List.range i).all λk=>gz ops i k
def aqR(ops:Array Oper):Nat->Nat
 |0=>0|i+1=>bif (List.range i).all (λk=>gz ops i k)then aqR ops i else i+1
def aof(o:Oper):Bool:=
 match o.op with
 |.call c=>match c.callee with
  |.value (.tmp _)=>true|_=>false
 |_=>false
def cutAt(ops:Array Oper):Nat:=bif ops.toList.any aof then aqR ops ops.size else ops.size
def qZ(o:Oper)(ev:Operand->AV):Option (AV×List AV):=
 match o.op with
 |.call c=>match c.callee with
  |.value f=>some (pz (ev f),c.args.toList.map λx=>pz (ev x))|_=>none
 |_=>none
def af1(o:Oper):Bool:=
 match o.op with
 |.range _ _|.next _ false=>true|_=>false
def kQ(P:Program)(S:fA)(ops:Array Oper)(enter:St->Nat->Oper->Option Tree)(cont:St->Tree):Nat->List Oper->St->Tree
 |_,[],s=>cont s|i,o::rest,s=>
  let go (s:St):Tree:=
   match enter s i o with
   |some t=>t|none=>
    let s:=hU s o;let m:=rZ P (S s.H.length) (iE s.tmps) o
    match m.eval s.look with
    |some r=>bif yL s.H.length r.up then .yK r.ab (kQ P S ops enter cont (i+1) rest (s.put o.dst r))else .stuck ""|none=>.stuck (o.pos++ " " ++m.why s.look)
  let skip (s:St):Tree:=kQ P S ops enter cont (i+1) rest {s with tmps:=db s.tmps o.dst (.bd [])}
  match o.guard with
  |none=>go s|some (g,want)=>
   match(ops[g]?).bind (·.dst)with
   |none=>.stuck ""|some d=>
    match s.tmps.getD d (.s .bm)with
    |.s (.aN b)=>bif b==want then go s else skip s|.s (.bool b)=>.ite b
     (bif want then go {s with tmps:=s.tmps.set d (.s (.aN true))}else skip {s with tmps:=s.tmps.set d (.s (.aN true))})
     (bif want then skip {s with tmps:=s.tmps.set d (.s (.aN false))}else go {s with tmps:=s.tmps.set d (.s (.aN false))})
    |.s (.kG n0 eq)=>.both (bif eq then n0=0 else True) (bif eq then True else n0=0)
     (bif want then go {s with tmps:=s.tmps.set d (.s (.aN true))}else skip {s with tmps:=s.tmps.set d (.s (.aN true))})
     (bif want then skip {s with tmps:=s.tmps.set d (.s (.aN false))}else go {s with tmps:=s.tmps.set d (.s (.aN false))})
    |.bd []=>skip s|_=>.stuck ""
def gp(P:Program)(s:St):List ResultVar->Option (List AV)
 |[]=>some []|.tmp t::rs=>(gp P s rs).map (s.tmps.getD t (.s .bm):: ·)|.cell t T::rs=>match(afO P T (s.tmps.getD t (.s .bm))).eval s.look,gp P s rs with
  |some r,some vs=>match r.ab,r.up,r.new with
   |[],[],[]=>some (r.r 0::vs)|_,_,_=>none
  |_,_=>none
def oneOf:List AV->AV
 |[v]=>v|vs=>.bd vs
def af2(n:Nat)(ops:Array Oper)(o:Oper):Bool:=
 (o.looksAt ops).all (·.blt n)&&o.dst.all (·.blt n)&&(match o.op with|.select _ _=>false|.defer _=>false|_=>true)
def q7(n:Nat)(ops:Array Oper):Bool:=ops.toList.all (af2 n ops)
def kR(ops:Array Oper):Bool:=ops.toList.all λo=>match o.op with|.defer _=>false|_=>true
def kg(id:Nat):List tE->List AV->Option (tE×Lp×l7×List AV)
 |[],_=>none|d::ds,vs=>
  match d.lp with
  |some (L,st)=>(match vs.getD (d.n+gP d.round+d.marks) (.s .bm)with
   |.tag j=>bif j.beq id then some (d,L,st,vs.take d.n)else kg id ds (vs.drop d.size)|_=>kg id ds (vs.drop d.size))
  |none=>kg id ds (vs.drop d.size)
def jh(id:Nat)(qD:l7):List tE->List AV->List tE
 |[],_=>[]|d::ds,vs=>
  match d.lp with
  |some (L,_)=>(match vs.getD (d.n+gP d.round+d.marks) (.s .bm)with
   |.tag j=>bif j.beq id then{d with lp:=some (L,qD)}::ds else d::jh id qD ds (vs.drop d.size)|_=>d::jh id qD ds (vs.drop d.size))
  |none=>d::jh id qD ds (vs.drop d.size)
def lB{α:Type}(cN:List α)(ps:List Tmp)(args:List α):List α:=(ps.zip args).foldl (λt x=>t.set x.1 x.2) cN
def resume(c:bQ)(v:AV)(below:List tE)(k:bQ->Tree):Tree:=
 match below with
 |d::ds=>
  match d.lp,d.todo with
  |none,.inRegion ops (i::rest)::td=>
   let dst:=(ops[i]?).bind (·.dst)
   bif dst.all (·.blt d.n)then k {tmps:=db (c.tmps.drop (c.n+c.stk.extra)) dst v,H:=c.H,todo:=.inRegion ops rest::td,stk:=⟨d.f,d.round,d.marks,ds,d.key.1⟩}else .stuck ""
  |_,_=>.stuck ""
 |[]=>.stuck ""
def af3(c:bQ)(v:AV)(k:bQ->Tree):Tree:=
 match c.stk.below with
 |[]=>bif c.stk.f.isNone then .ret c.H v else .stuck ""|d::ds=>
  match d.lp with
  |none=>resume c v c.stk.below k|some (_,.busy)=>.stuck ""|some (_,st)=>
   let vs:=c.tmps.drop (c.n+c.stk.extra);let m:=d.n+gP d.round+d.marks
   k {tmps:=vs.take m++vs.drop (m+1),H:=c.H,todo:=(match st with|.done j=>[.code j]|_=>[])++d.todo,stk:=⟨d.f,d.round,d.marks,ds,0⟩}
def ab4(c:bQ)(jump:Option Code)(k:bQ->Tree):Tree:=
 match c.tmps.getD c.n (.s .bm)with
 |.tag id=>bif c.stk.marks.beq 0 then
  match kg id c.stk.below (c.tmps.drop (c.n+c.stk.extra))with
  |some _=>resume c (.s (.aN jump.isNone)) (jh id (match jump with|none=>.ready|some j=>.done j) c.stk.below (c.tmps.drop (c.n+c.stk.extra))) k|none=>.stuck ""
  else .stuck ""
 |_=>.stuck ""
def n9(P:Program)(c:bQ)(f:FuncId)(args:List AV)(wait:tE)(k:bQ->Tree):Tree:=
 match P.funcs[f]? with
 |some g=>bif iY P f&&args.length.ble g.ntmps then
  k {tmps:=args++replicate (g.ntmps - args.length) (.bd [])++c.tmps,H:=c.H,todo:=[.code (g.body.getD .skip)],stk:=⟨some f,false,0,wait::c.stk.below,0⟩}
  else .stuck ""
 |none=>.stuck ""
def aap(c:bQ)(id:Nat)(args:List AV)(wait:tE)(k:bQ->Tree):Tree:=
 match kg id c.stk.below (c.tmps.drop (c.n+c.stk.extra))with
 |some (d,L,_,cN)=>bif args.length.beq L.ps.length&&L.ps.all (·.blt d.n)then
  k {tmps:=lB cN L.ps args++.tag id::c.tmps,H:=c.H,todo:=[.code L.asg,.beginRound,.code L.body],stk:=⟨d.f,true,0,wait::c.stk.below,0⟩}
  else .stuck ""
 |none=>.stuck ""
def aaq(P:Program)(c:bQ)(f:FuncId)(dh:List AV)(L:Lp)(todo:List Item)(k:bQ->Tree):Tree:=
 bif c.stk.round then .stuck "" else
 let id:=c.H.length;let wait:tE:=⟨c.stk.f,c.n,false,c.stk.marks+1,some (L,.ready),todo,((hM L.body).getD 0,0)⟩
 n9 P {c with tmps:=c.tmps.take c.n++.tag id::((c.tmps.drop c.n).take c.stk.marks++.tag (id+1)::c.tmps.drop (c.n+c.stk.marks)),H:=c.H++[.aH]++[.aH]} f (.tag (id+1)::dh) wait k
def exec(P:Program)(S:fA)(fn:Func)(stop:Nat->Bool)(inl:FuncId->Bool):Nat->Bool->bQ->Tree
 |0,_,c=>.at c|n+1,first,c=>
  let to (k:List Item):Tree:=exec P S fn stop inl n first {c with todo:=k}
  let go (c:bQ):Tree:=exec P S fn stop inl n false c
  let back:Tree:=
   match c.stk.fn P fn with
   |some g=>(match gp P ⟨c.tmps.take c.n,c.H⟩ g.results.toList with
    |some vs=>af3 c (oneOf vs) go|none=>.stuck "")
   |none=>.stuck ""
  let ops (first:Bool) (id:Nat) (ops:Array Oper) (i:Nat) (k:List Item):Tree:=
   bif kR ops&&(c.stk.plain||q7 c.n ops)then
    kQ P S ops (λs j o=>
     let c':bQ:={c with tmps:=s.tmps,H:=s.H};let wait:tE:=⟨c.stk.f,c.n,c.stk.round,c.stk.marks,none,.inRegion ops (range' j (ops.size - j))::k,(id,j)⟩
     bif stop (aj8 c.stk id j)&& !(first&&j.beq i)then some (.at {c' with todo:=.inRegion ops (range' j (ops.size - j))::k,stk:={c.stk with rid:=id}})else
     match qZ o (iE s.tmps)with
     |some (g,args)=>(match g with
      |.s (.qF f)=>bif inl f then some (n9 P c' f args wait go)else none|.fn f dh=>bif inl f then some (n9 P c' f (args++dh) wait go)else none|.tag y=>some (aap c' y args wait go)|_=>none)
     |none=>bif af1 o then some (.at {c' with todo:=.inRegion ops (range' j (ops.size - j))::k,stk:={c.stk with rid:=id}})else none) (λs=>exec P S fn stop inl n first {c with tmps:=s.tmps,H:=s.H,todo:=k,stk:={c.stk with rid:=0}}) i (ops.toList.drop i) ⟨c.tmps,c.H⟩
   else .stuck ""
  match c.todo with
  |[]=>bif c.stk.round then ab4 c none go else back|.code .ret::_=>bif c.stk.round then ab4 c (some .ret) go else back|.code .skip::k|.code (.label _)::k|.inBlock _::k|.inScope _::k=>to k|.code (.seq a b)::k=>to (.code a::.code b::k)|.code (.block id body)::k=>to (.code body::.inBlock id::k)|.code (.scope body)::k=>to (.code body::.inScope body::k)|.code (.exit id)::k=>match exitTo id k with
   |some k'=>to k'|none=>bif c.stk.round then ab4 c (some (.exit id)) go else .stuck ""
  |.code (.cond (.tmp t) a b)::k=>
   bif c.stk.plain||t.blt c.n then
   match c.tmps.getD t (.s .bm)with
   |.s (.aN x)=>to (.code (bif x then a else b)::k)|.s (.bool x)=>.ite x (exec P S fn stop inl n first {c with tmps:=c.tmps.set t (.s (.aN true)),todo:=.code a::k}) (exec P S fn stop inl n first {c with tmps:=c.tmps.set t (.s (.aN false)),todo:=.code b::k})
   |.s (.kG n0 eq)=>.both (bif eq then n0=0 else True) (bif eq then True else n0=0) (exec P S fn stop inl n first {c with tmps:=c.tmps.set t (.s (.aN true)),todo:=.code a::k}) (exec P S fn stop inl n first {c with tmps:=c.tmps.set t (.s (.aN false)),todo:=.code b::k})
   |_=>.stuck ""
   else .stuck ""
  |.code (.region id rs draw)::k=>
   bif !first&&stop (afY c.stk id)then .at c else
   bif draw then
    (bif hY rs&&dP rs&&kR rs&&(c.stk.plain||q7 c.n rs)then
      bif (cutAt rs).blt rs.size&&vX rs (cutAt rs)then
       lA P S rs (λs tr=>bif iF rs tr then exec P S fn stop inl n false {c with tmps:=s.tmps,H:=s.H,todo:=.inRegion rs (range' (cutAt rs) (rs.size - cutAt rs))::k,stk:={c.stk with rid:=id}}else .stuck "") 0 (rs.toList.take (cutAt rs)) ⟨c.tmps,c.H⟩ []
      else
      lA P S rs (λs tr=>bif iF rs tr then exec P S fn stop inl n false {c with tmps:=s.tmps,H:=s.H,todo:=k}else .stuck "") 0 rs.toList ⟨c.tmps,c.H⟩ []
    else .stuck "")
   else ops false id rs 0 k
  |.inRegion rs todo::k=>bif todo.length.ble rs.size&&todo==range' (rs.size - todo.length) todo.length then ops first c.stk.rid rs (rs.size - todo.length) k else .stuck ""
  |.beginRound::k=>bif c.stk.round then
   match c.tmps.getD c.n (.s .bm)with
   |.tag id=>(match kg id c.stk.below (c.tmps.drop (c.n+c.stk.extra))with
    |some (_,_,.ready,_)=>exec P S fn stop inl n first {c with todo:=k,stk:={c.stk with below:=jh id .busy c.stk.below (c.tmps.drop (c.n+c.stk.extra))}}
    |_=>.stuck "")
   |_=>.stuck "" else .stuck ""
  |.code (.rangeFunc (.tmp t) ps asg body)::k=>
   bif c.stk.plain||t.blt c.n then
   match c.tmps.getD t (.s .bm)with
   |.s (.qF f)=>aaq P c f [] ⟨ps.toList,asg,body⟩ k go|.fn f dh=>aaq P c f dh ⟨ps.toList,asg,body⟩ k go|_=>.stuck ""
   else .stuck ""
  |.code (.loop body)::k|.inLoop body::k=>bif stop (jV+afY c.stk ((hM body).getD 0))then exec P S fn stop inl n first {c with todo:=.code body::.inLoop body::k}else .at {c with todo:=.code body::.inLoop body::k}
  |_=>.at c
def start(fn:Func)(args:List AV)(H:List au):bQ:=
 {tmps:=args++replicate (fn.ntmps - args.length) (.bd []),H:=H,todo:=[.code (fn.body.getD .skip)]}
def cO(P:Program)(f:FuncId)(R:Ending->World->Prop)(b:Frame)(a:Act)(k:List Item)(fs:List Frame)(w:World):Prop:=
 ∀cs,∃e w' fr,R e w'/\Comes P (lone (b.atR a k) (fs++cs) w) (lone fr cs w') e/\fr.fn=f/\fr.leaving P w' e
theorem cO.steps{P:Program}{f:FuncId}{R:Ending->World->Prop}{b b':Frame}{a a':Act}{k k':List Item}{fs nn:List Frame}{w w':World}
 (hs:∀cs,Steps P (lone (b.atR a k) (fs++cs) w) (lone (b'.atR a' k') (nn++cs) w')) (h:cO P f R b' a' k' nn w'):cO P f R b a k fs w:=by
 intro cs;have⟨e,w2,fr,h1,h2,h3⟩:=h cs;exact⟨e,w2,fr,h1,Comes.of_steps (hs cs) h2,h3⟩
theorem cO.step{P:Program}{f:FuncId}{R:Ending->World->Prop}{b b':Frame}{a a':Act}{k k':List Item}{fs nn:List Frame}{w w':World}
 (hs:∀cs,step P (lone (b.atR a k) (fs++cs) w)=.next (lone (b'.atR a' k') (nn++cs) w')) (h:cO P f R b' a' k' nn w'):cO P f R b a k fs w:=
 cO.steps (λcs=>.one (hs cs)) h
theorem iS{P:Program}{f:FuncId}{fn:Func}{c:Code}{args:Array Value}{w:World}{R:Ending->World->Prop}(hf:P.funcs[f]? =some fn)(hb:fn.body=some c)
 (h:cO P f R {(default:Frame)with fn:=f,kind:=.normal,roundOf:=none} {tmps:=args++Array.replicate (fn.ntmps - args.size) undef,defers:=[]} [.code c] [] w):Calls P f args w R:=by
 intro cs
 have fO:Frame.enter P f args .normal=Frame.atR {(default:Frame)with fn:=f,kind:=.normal,roundOf:=none} {tmps:=args++Array.replicate (fn.ntmps - args.size) undef,defers:=[]} [.code c]:=by
  simp[Frame.enter,Frame.atR,hf,hb]
 have⟨e,w',fr,h1,h2,h3,h4⟩:=h cs;rw[fO];exact⟨e,w',fr,h1,h2,h3,h4⟩
structure Ctx where
 ρ:Nat->Value
 H:a8
 G:Nat->Prop
 w:World
 E:List (Nat×Obj):=[]
def cP(Z:aZ)(X:Ctx):Prop:=Z.ok X.w/\∀b,b∈Z.bs->¬Own X.ρ X.H b
def Ctx.at(X:Ctx)(G:Nat->Prop)(E:List (Nat×Obj)):Ctx:=⟨X.ρ,X.H,G,X.w,E⟩
theorem cP.at{Z:aZ}{X:Ctx}(h:cP Z X)(G:Nat->Prop)(E:List (Nat×Obj)):cP Z (X.at G E):=h
theorem zed{Z:aZ}{X:Ctx}{w:World}{ρ:Nat->Value}{H:a8}(h:cP Z X)(k:Frm X.ρ X.H X.w w)(hs:Sat ρ H X.G w)(st:Step X.ρ X.H (bg X.ρ X.H X.G) X.w ρ H (bg ρ H X.G) w):ZAt Z ρ H w:=by
 refine⟨Z.fj X.w w h.1 λb hb=>k.heap b (Z.low _ h.1 b hb) (h.2 b hb),λb hb ho=> ?_⟩;rcases st.gf b (.inl ho)with(h1|h1)|h1;exact h.2 b hb h1;exact hs.apart b ho h1;have:=Z.low _ h.1 b hb;omega
def Kept(X:Ctx)(w:World):Prop:=∀x∈X.E,X.G x.1/\X.w.heap.size<=x.1/\w.heap[x.1]? =some x.2
theorem Kept.jr{X:Ctx}{ρ:Nat->Value}{H:a8}{w w':World}(h:Kept X w)(hs:Sat ρ H X.G w)(k:Frm ρ H w w'):Kept X w':=λx hx=>by
 have⟨h1,h0,h2⟩:=h x hx;exact⟨h1,h0,by rw[k.heap x.1 (Array.getElem?_eq_some_iff.1 h2).1 (λho=>hs.apart _ ho h1)];exact h2⟩
structure cq (X:Ctx) (ρ:Nat->Value) (s:St) (a:Act) (w:World):Prop where
 sat:Sat ρ s.look X.G w
 size:s.tmps.length=a.tmps.size
 den:∀t,ag ρ s.look (bg ρ s.look X.G) w (s.tmps.getD t (.s .bm)) (a.tmps.getD t undef)
 defers:a.defers=[]
 ao:Step X.ρ X.H (bg X.ρ X.H X.G) X.w ρ s.look (bg ρ s.look X.G) w
 jr:Frm X.ρ X.H X.w w
 kept:Kept X w
def Tree.bt(K:List au->AV->Prop)(C:bQ->Prop):Tree->Prop
 |.ab p t=>p/\t.bt K C|.ite b t e=>(b=true->t.bt K C)/\(b=false->e.bt K C)|.both p q t e=>(p->t.bt K C)/\(q->e.bt K C)|.ret H v=>K H v|.at c=>C c|.stuck _=>False
def ki(X:Ctx)(K:List au->AV->Prop)(e:Ending)(w':World):Prop:=
 ∃v,e=.returned v/\∃(L:List au) (r:AV),K L r/\Good X.ρ X.H X.G X.w (λid=>L[id]?) r v w'
def pD(D:Nat):Deferred:={target:=.collected D,args:= #[]}
def dT(D:Nat):Value:=.pointer (some ⟨D,0,none⟩)
def cr(l:Nat):Value:=.func (.yield l) #[] #[]
def l7.gg(st:l7)(L:Lp)(fn:FuncId)(tmps:Array Value)(defers:Nat):Loop:=
 {state:=match st with|.ready=>.ready|.busy=>.busy|.done _=>.done,pending:=match st with|.done c=>some c|_=>none,fn,tmps,params:=L.ps.toArray,assign:=L.asg,body:=L.body,defers}
structure aj9 (f:FuncId) (round:Bool) (v0 rv:List Value) (Ds:List Nat) (E:List (Nat×Obj)) (b:Frame) (a:Act):Prop where
 fr:∃r,b={(default:Frame)with fn:=f,kind:=.normal,roundOf:=r}/\(match round with|true=>∃l,rv=[cr l]/\r=some l|false=>rv=[]/\r=none)
 act:a={tmps:=v0.toArray,defers:=Ds.map pD}
 ghost:E=Ds.map λD=>(D,.deferred (some []))
def WfS(f0:FuncId):List tE->List Value->List (Nat×Obj)->List Frame->Prop
 |[],vs,E,fs=>vs=[]/\E=[]/\fs=[]|d::ds,vs,E,fs=>∃(v0 rv v2:List Value) (Ds:List Nat) (E1 E2:List (Nat×Obj)) (b:Frame) (a:Act) (fs2:List Frame) (lv:List Value) (lE:List (Nat×Obj)) (todo:List Item),
   vs=v0++(rv++(Ds.map dT++(lv++v2)))/\E=E1++(lE++E2)/\fs=b.atR a todo::fs2/\v0.length=d.n/\Ds.length=d.marks/\
   aj9 (d.f.getD f0) d.round v0 rv Ds E1 b a/\WfS f0 ds v2 E2 fs2/\
   (match d.lp with
    |none=>lv=[]/\lE=[]/\todo=d.todo|some (L,st)=>∃l D,lv=[cr l]/\lE=[(l,.loop (st.gg L (d.f.getD f0) v0.toArray D))]/\todo=.inRangeFunc l::d.todo)
def Wf(f0:FuncId)(k:yJ)(vs:List Value)(E:List (Nat×Obj))(b:Frame)(a:Act)(fs:List Frame):Prop:=
 (E.map (·.1)).Nodup/\∃(v0 rv v2:List Value) (Ds:List Nat) (E1 E2:List (Nat×Obj)),vs=v0++(rv++(Ds.map dT++v2))/\E=E1++E2/\Ds.length=k.marks/\
   aj9 (k.f.getD f0) k.round v0 rv Ds E1 b a/\WfS f0 k.below v2 E2 fs
def Safe(P:Program)(f:FuncId)(X:Ctx)(K:List au->AV->Prop)(c:bQ):Prop:=
 ∀(G:Nat->Prop) (E:List (Nat×Obj)) ρ a w,(∀b,X.G b->G b)->(∀b,G b->X.G b\/X.w.heap.size<=b)->cq (X.at G E) ρ ⟨c.tmps,c.H⟩ a w->
  ∀b a' fs,Wf f c.stk a.tmps.toList E b a' fs->cO P f (ki X K) b a' c.todo fs w
section
variable{ρ aU:Nat->Value}{H H':a8}{G O O':Nat->Prop}{w w':World}{P:Program}{S:fA}{Z:aZ}{X:Ctx}{s:St}{a:Act}{K:List au->AV->Prop}{C:bQ->Prop}
theorem aeU(v:Value):ag ρ H O w (zN v) v:=by
 have one:∀v:Value,ag ρ H O w ((qG v).getD (.s .bm)) v:=by
  intro v;cases h:qG v with
  |none=>unfold ag;trivial|some x=>
   have hc:=vK (ρ:=ρ) (H:=H) (O:=O) (w:=w) h;simp only[getD_some];unfold qG at h;split at h;simp only[Option.some.injEq]at h;subst h;unfold ag;exact⟨_,rfl⟩;simp only[map_eq_some_iff]at h;obtain⟨y,h3,rfl⟩:=h;exact aK (aae h3)
 unfold zN;split;rename_i cs;cases h:qH cs.toList with
 |none=>unfold ag;trivial|some aT=>unfold ag;exact⟨cs.toList,by simp,nT _ h⟩
 exact one v
theorem vY(T:List AV)(v:Value):ag ρ H O w (iE T (.const v)) v:=by
 unfold iE;split;exact absurd ‹_› (by simp);rename_i h;cases h;exact aK .pT;rename_i h;cases h;exact aeU v;exact absurd ‹_› (by simp);exact absurd ‹_› (by simp)
theorem cq.ev(h:cq X ρ s a w)(x:Operand):ag ρ s.look (bg ρ s.look X.G) w (iE s.tmps x) (a.eval x):=by
 cases x with
 |tmp t=>exact h.den t|const v=>exact vY _ v|global g=>unfold iE ag;trivial|func f=>exact aK (.qF f)
theorem cV{α:Type}(l:List α)(d t:Nat)(x y:α):(l.set d x).getD t y=if t=d/\d<l.length then x else l.getD t y:=by
 simp only[List.getD,getElem?_set];by_cases h:d=t;subst h;by_cases h2:d<l.length;simp[h2];simp[h2];have:¬(t=d/\d<l.length):=λe=>h e.1.symm;simp[h,this]
theorem aar(l:Array Value)(d t:Nat)(x:Value):(l.setIfInBounds d x).getD t undef=if t=d/\d<l.size then x else l.getD t undef:=by
 simp only[getD_eq_getD_getElem?,Array.getElem?_setIfInBounds];by_cases h:d=t;subst h;by_cases h2:d<l.size;simp[h2];simp[h2];have:¬(t=d/\d<l.size):=λe=>h e.1.symm;simp[h,this]
theorem q8{tmps:List AV}{arr:Array Value}(bZ:tmps.length=arr.size)(h:∀t,ag ρ H O w (tmps.getD t (.s .bm)) (arr.getD t undef))(dst:Option Tmp){r:AV}{v:Value}(hr:ag ρ H O w r v)(df:List Deferred):
 (db tmps dst r).length=((Act.put ⟨arr,df⟩ dst v).tmps).size/\∀t,ag ρ H O w ((db tmps dst r).getD t (.s .bm)) ((Act.put ⟨arr,df⟩ dst v).tmps.getD t undef):=by
 cases dst with
 |none=>exact⟨bZ,h⟩|some d=>
  simp only[db,Act.put];refine⟨by simp[bZ],λt=> ?_⟩;rw[cV,aar,bZ];split;exact hr;exact h t
theorem aeV(us:List (Nat×au)):∀(L:List au) (j:Nat),j<L.length->(sH L us)[j]? =match cT us j with|some o=>some o|none=>L[j]? :=by
 induction us with
 |nil=>intro L j h;rfl
 |cons u us ih=>
  have⟨id,o⟩:=u;intro L j h;simp only[sH,cT];rw[ih _ _ (by simpa using h)];cases cT us j with
  |some x=>rfl|none=>
   by_cases hj:j=id;subst hj;simp[h];simp[hj,Ne.symm hj]
theorem lC(us:List (Nat×au)):∀(L:List au),(sH L us).length=L.length:=by
 induction us with
 |nil=>intro L;rfl
 |cons u us ih=>intro L;have⟨id,o⟩:=u;simp only[sH];rw[ih];simp
def aka(n:Nat)(us:List (Nat×au)):Prop:=∀j,n<=j->cT us j=none
theorem ab5(s:St)(dst:Option Tmp)(q:bP)(hu:aka s.H.length q.up):(s.put dst q).look=dc s.look q.up s.H.length q.new:=by
 funext j;simp only[St.look,St.put,dc];by_cases hj:j<s.H.length;rw[getElem?_append_left (by rw[lC];exact hj),aeV _ _ _ hj];cases cT q.up j with
 |some o=>rfl|none=>rw[if_neg (by omega)]
 rw[getElem?_append_right (by rw[lC];omega),lC,hu j (by omega)];by_cases h2:j<s.H.length+q.new.length;simp only[show s.H.length<=j/\j<s.H.length+q.new.length from⟨by omega,h2⟩,and_self,if_true];have e1:q.new[j - s.H.length]? =none:=getElem?_eq_none (by omega);have e2:s.H[j]? =none:=getElem?_eq_none (by omega);rw[e1,if_neg (by omega)];exact e2.symm
theorem Frm.trans(h:cq X ρ s a w)(k:Frm ρ s.look w w'):Frm X.ρ X.H X.w w':=by
 refine⟨k.os.trans h.jr.os,k.tape.trans h.jr.tape,k.output.trans h.jr.output,λb hb hO=> ?_⟩;rw[k.heap b (by have:=h.ao.size;omega) (λho=> ?_),h.jr.heap b hb hO];rcases h.ao.gf b (.inl ho)with(h1|h1)|h1;exact hO h1;exact h.sat.apart b ho h1;omega
theorem aid{o:Oper}{R:Value->World->Prop}{next:Act->World->Prop}{Q:Exit->Act->World->Prop}(h:Yields P o a.eval w R)(hn:∀v w',R v w'->next (a.put o.dst v) w'):o.wp P a w next Q:=by
 unfold Yields at h;unfold Oper.wp Oper.upon;split at h;rename_i v w2 hr;rw[hr];exact hn _ _ h;rename_i w2 hr;rw[hr];exact hn _ _ h;rename_i f args w2 hr;rw[hr];refine h.mono λen w'' ⟨v,he,hv⟩=> ?_;subst he;exact hn _ _ hv;exact h.elim
theorem cq.op(hS:SOk P S Z)(nz:cP Z X)(h:cq X ρ s a w){o:Oper}{q:bP}(hq:(rZ P (S s.H.length) (iE s.tmps) o).eval s.look=some q)(hn:bE q.ab)(hu:aka s.H.length q.up):
 Yields P o a.eval w (λv w'=>∃aU,cq X aU (s.put o.dst q) (a.put o.dst v) w'):=by
 have dU:∀i,i<q.new.length->s.look (s.H.length+i)=none:=λi _=>by simp[St.look]
 have:=aj6 (base:=s.H.length) hS hq hn (zed nz h.jr h.sat h.ao) h.sat (e:=a.eval) (λx _=>h.ev x) dU;unfold Yields at *
 have key:∀v w',Good ρ s.look X.G w (dc s.look q.up s.H.length q.new) (q.r s.H.length) v w'->∃aU,cq X aU (s.put o.dst q) (a.put o.dst v) w':=by
  rintro v w' ⟨aU,h1,h2,h3,h4⟩;have hl:=ab5 s o.dst q hu;rw[<-hl]at h1 h2 h3;have⟨arr,df⟩:=a;have hp:=q8 (ρ:=aU) (H:=(s.put o.dst q).look) (O:=bg aU (s.put o.dst q).look X.G) (w:=w') h.size (λt=>ag.step h3 _ _ (h.den t)) o.dst h2 df;exact⟨aU,h1,hp.1,hp.2,by have:=h.defers;cases o.dst<;>exact this,h.ao.trans h3,Frm.trans h h4,h.kept.jr h.sat h4⟩
 split at this;exact key _ _ this;exact key _ _ this;exact this.mono λen w'' ⟨v,he,hv⟩=>⟨v,he,key _ _ hv⟩;exact this
end
section
variable{ρ aU:Nat->Value}{H H':a8}{G O O':Nat->Prop}{w w':World}{P:Program}{S:fA}{Z:aZ}{X:Ctx}{s:St}{a:Act}{K:List au->AV->Prop}{C:bQ->Prop}
theorem oa:∀(ps:List Prop) (t:Tree),(Tree.yK ps t).bt K C->bE ps/\t.bt K C
 |[],t,h=>⟨trivial,h⟩|p::ps,t,h=>by
  have⟨h1,h2⟩:=h;have⟨h3,h4⟩:=oa ps t h2;exact⟨⟨h1,h3⟩,h4⟩
theorem akb{n:Nat}{us:List (Nat×au)}(h:yL n us=true):aka n us:=by
 unfold yL at h;intro j hj
 induction us with
 |nil=>rfl|cons u us ih=>
  have⟨id,o⟩:=u;simp only[all_cons,and_eq_true]at h;have h1:id<n:=by simpa[Nat.blt,Nat.lt_iff_add_one_le]using h.1
  simp only[cT];rw[ih h.2,if_neg (by omega)]
theorem cq.skip(h:cq X ρ s a w)(dst:Option Tmp):cq X ρ {s with tmps:=db s.tmps dst (.bd [])} (a.put dst undef) w:=by
 have⟨arr,df⟩:=a;have hp:=q8 (ρ:=ρ) (H:=s.look) (O:=bg ρ s.look X.G) (w:=w) h.size h.den dst (r:=.bd []) (v:=undef) cX df;exact⟨h.sat,hp.1,hp.2,by have:=h.defers;cases dst<;>exact this,h.ao,h.jr,h.kept⟩
theorem cq.refine(h:cq X ρ s a w){d:Nat}{x y:AV}(hx:s.tmps.getD d (.s .bm)=x)(hxy:∀v,ag ρ s.look (bg ρ s.look X.G) w x v->ag ρ s.look (bg ρ s.look X.G) w y v):cq X ρ {s with tmps:=s.tmps.set d y} a w:=by
 refine⟨h.sat,by simp[h.size],λt=> ?_,h.defers,h.ao,h.jr,h.kept⟩;simp only[];rw[cV];split;rename_i hc;obtain⟨rfl,_⟩:=hc;have:=h.den t;rw[hx]at this;exact hxy _ this;exact h.den t
theorem cq.aas(h:cq X ρ s a w){d:Nat}{x y:AV}(hx:s.tmps.getD d (.s .bm)=x)(hxy:ag ρ s.look (bg ρ s.look X.G) w y (a.tmps.getD d undef)):cq X ρ {s with tmps:=s.tmps.set d y} a w:=by
 refine⟨h.sat,by simp[h.size],λt=> ?_,h.defers,h.ao,h.jr,h.kept⟩;simp only[];rw[cV];split;rename_i hc;obtain⟨rfl,_⟩:=hc;exact hxy;exact h.den t
theorem cq.drew(h:cq X ρ s a w):cq X ρ s a {w with drawn:=w.drawn+1}:=by
 have st:Step ρ s.look (bg ρ s.look X.G) w ρ s.look (bg ρ s.look X.G) {w with drawn:=w.drawn+1}:=
  ⟨λ_ _ _=>rfl,λ_ o h=>⟨o,h,λc' e' e=>⟨c',e',e,rfl,rfl⟩⟩,λ_ h=>.inl h,λ_ _ _=>rfl,le_refl _⟩
 refine⟨⟨λid o ho=>(h.sat.obj id o ho).step st (λ_ _ _=>rfl),h.sat.inj,h.sat.apart,h.sat.low⟩,h.size,λt=>ag.step st _ _ (h.den t),h.defers,h.ao.trans st,⟨h.jr.os,h.jr.tape,h.jr.output,h.jr.heap⟩,h.kept⟩
theorem oc(h:cq X ρ s a w){d:Nat}{b:Bool}(hx:s.tmps.getD d (.s .bm)=.s (.aN b)):a.tmps[d]? =some (.bool b):=by
 have h1:=h.den d;rw[hx]at h1;have h2:=aC (by simp) h1
 have br:d<s.tmps.length:=by
  rcases lt_or_ge d s.tmps.length with h3|h3;exact h3;rw[List.getD,getElem?_eq_none h3]at hx;simp at hx
 rw[h.size]at br;have h4:a.tmps.getD d undef=a.tmps[d]:=by simp[Array.getD,br]
 rw[h4]at h2;rw[Array.getElem?_eq_getElem br];generalize a.tmps[d]=u at h2;cases h2;rfl
theorem aie(h:cq X ρ s a w){d:Nat}(hx:s.tmps.getD d (.s .bm)=.bd []):a.tmps[d]? =some undef:=by
 have h1:=h.den d;rw[hx]at h1
 have br:d<s.tmps.length:=by
  rcases lt_or_ge d s.tmps.length with h3|h3;exact h3;rw[List.getD,getElem?_eq_none h3]at hx;simp at hx
 rw[h.size]at br;have h4:a.tmps.getD d undef=a.tmps[d]:=by simp[Array.getD,br]
 rw[h4]at h1;unfold ag at h1;have⟨us,h5,h6⟩:=h1;obtain rfl:=bp.1 h6;rw[Array.getElem?_eq_getElem br,h5];rfl
theorem od{b:Bool}(v:Value)(h:ag ρ H O w (.s (.bool b)) v):ag ρ H O w (.s (.aN b)) v:=by
 have:=aC (by simp) h;cases this;exact aK (.aN b)
end
section
variable{ρ aU:Nat->Value}{H H':a8}{G O O':Nat->Prop}{w w':World}{P:Program}{S:fA}{Z:aZ}{X:Ctx}{s:St}{a:Act}{K:List au->AV->Prop}{C:bQ->Prop}{ops:Array Oper}
structure l8 (X:Ctx) (ρ:Nat->Value) (T:List AV) (H:a8) (a:Act) (w:World):Prop where
 sat:Sat ρ H X.G w
 size:T.length=a.tmps.size
 den:∀t,ag ρ H (bg ρ H X.G) w (T.getD t (.s .bm)) (a.tmps.getD t undef)
 defers:a.defers=[]
 ao:Step X.ρ X.H (bg X.ρ X.H X.G) X.w ρ H (bg ρ H X.G) w
 jr:Frm X.ρ X.H X.w w
 kept:Kept X w
theorem cq.toF(h:cq X ρ s a w):l8 X ρ s.tmps s.look a w:=⟨h.sat,h.size,h.den,h.defers,h.ao,h.jr,h.kept⟩
theorem Frm.asw{T:List AV}(h:l8 X ρ T H a w)(k:Frm ρ H w w'):Frm X.ρ X.H X.w w':=by
 refine⟨k.os.trans h.jr.os,k.tape.trans h.jr.tape,k.output.trans h.jr.output,λb hb hO=> ?_⟩;rw[k.heap b (by have:=h.ao.size;omega) (λho=> ?_),h.jr.heap b hb hO];rcases h.ao.gf b (.inl ho)with(h1|h1)|h1;exact hO h1;exact h.sat.apart b ho h1;omega
theorem l8.op(hS:SOk P S Z)(nz:cP Z X){T Ti:List AV}(h:l8 X ρ T H a w){o:Oper}{q:bP}{base:Nat}(hq:(rZ P (S base) (iE Ti) o).eval H=some q)(hn:bE q.ab)
 (hd:∀x∈o.op.operands,ag ρ H (bg ρ H X.G) w (iE Ti x) (a.eval x)) (hf:∀i,i<q.new.length->H (base+i)=none):
 Yields P o a.eval w (λv w'=>∃aU,l8 X aU (db T o.dst (q.r base)) (dc H q.up base q.new) (a.put o.dst v) w'):=by
 have:=aj6 (base:=base) hS hq hn (zed nz h.jr h.sat h.ao) h.sat (e:=a.eval) hd hf;unfold Yields at *
 have key:∀v w',Good ρ H X.G w (dc H q.up base q.new) (q.r base) v w'->∃aU,l8 X aU (db T o.dst (q.r base)) (dc H q.up base q.new) (a.put o.dst v) w':=by
  rintro v w' ⟨aU,h1,h2,h3,h4⟩;have⟨arr,df⟩:=a;have hp:=q8 (ρ:=aU) (H:=dc H q.up base q.new) (O:=bg aU (dc H q.up base q.new) X.G) (w:=w') h.size (λt=>ag.step h3 _ _ (h.den t)) o.dst h2 df;exact⟨aU,h1,hp.1,hp.2,by have:=h.defers;cases o.dst<;>exact this,h.ao.trans h3,Frm.asw h h4,h.kept.jr h.sat h4⟩
 split at this;exact key _ _ this;exact key _ _ this;exact this.mono λen w'' ⟨v,he,hv⟩=>⟨v,he,key _ _ hv⟩;exact this
def Ref(x y:AV):Prop:=x=y\/∃b,x=.s (.bool b)/\y=.s (.aN b)
theorem Ref.den{x y:AV}(h:Ref x y){v:Value}(hx:ag ρ H O w x v):ag ρ H O w y v:=by
 rcases h with rfl|⟨b,rfl,rfl⟩;exact hx;exact od _ hx
theorem Ref.trans{x y z:AV}(h:Ref x y)(k:Ref y z):Ref x z:=by
 rcases h with rfl|⟨b,rfl,rfl⟩;exact k;rcases k with rfl|⟨c,h1,rfl⟩;exact .inr ⟨b,rfl,rfl⟩;cases h1
theorem RM.eval_congr{α:Type}:∀(m:RM α),(∀id∈m.ids H,H' id=H id)->m.eval H'=m.eval H/\m.ids H'=m.ids H
 |.ret a,h=>⟨rfl,rfl⟩|.fail _,h=>⟨rfl,rfl⟩|.look id k,h=>by
  simp only[RM.ids]at h;have e:=h id (by simp);have:=RM.eval_congr (k (H id)) (λj hj=>h j (by simp[hj]));simp only[RM.eval,RM.ids,e];exact⟨this.1,by rw[this.2]⟩
structure El where
 i:Nat
 o:Oper
 T:List AV
 q:Option bP
 base:Nat
 rd:List Nat
def El.wr(e:El):List Nat:=match e.q with
 |some q=>tF q.up++(List.range q.new.length).map (e.base+·)|none=>[]
def El.cN(e:El)(T:List AV):List AV:=db T e.o.dst (match e.q with|some q=>q.r e.base|none=>.bd [])
def El.heap(e:El)(H:a8):a8:=match e.q with|some q=>dc H q.up e.base q.new|none=>H
structure El.Ok (P:Program) (S:fA) (ops:Array Oper) (T:List AV) (H:a8) (e:El):Prop where
 op:ops[e.i]? =some e.o
 looks:∀t∈e.o.looksAt ops,Ref (T.getD t (.s .bm)) (e.T.getD t (.s .bm))
 guard:match e.o.guard with
  |none=>e.q.isSome=true|some (g,want)=>∃d,(ops[g]?).bind (·.dst)=some d/\((∃b,e.T.getD d (.s .bm)=.s (.aN b)/\e.q.isSome=(b==want))\/(e.T.getD d (.s .bm)=.bd []/\e.q=none))
 skip:e.q=none->e.rd=[]
 run:∀q,e.q=some q->(rZ P (S e.base) (iE e.T) e.o).eval H=some q/\(rZ P (S e.base) (iE e.T) e.o).ids H=e.rd/\bE q.ab/\∀j,j<q.new.length->H (e.base+j)=none
def oe(P:Program)(S:fA)(ops:Array Oper):List AV->a8->List El->List AV->a8->Prop
 |T,H,[],T',H'=>T=T'/\H=H'|T,H,e::es,T',H'=>e.Ok P S ops T H/\oe P S ops (e.cN T) (e.heap H) es T' H'
structure ab6 (ops:Array Oper) (x y:El):Prop where
 s1:∀d,x.o.dst=some d->d ∉ y.o.looksAt ops/\y.o.dst≠some d
 s2:∀d,y.o.dst=some d->d ∉ x.o.looksAt ops
 h1:∀id∈x.wr,id ∉ y.rd/\id ∉ y.wr
 h2:∀id∈y.wr,id ∉ x.rd
theorem El.yM(e:El)(T:List AV){t:Nat}(h:e.o.dst≠some t):(e.cN T).getD t (.s .bm)=T.getD t (.s .bm):=by
 unfold El.cN;cases hd:e.o.dst with
 |none=>rfl|some d=>
  simp only[db];rw[cV,if_neg];rintro⟨rfl,_⟩;exact h hd
theorem ab7{us:List (Nat×au)}{id:Nat}(h:id ∉ tF us):cT us id=none:=by
 induction us with
 |nil=>rfl|cons u us ih=>
  have⟨j,o⟩:=u;simp only[tF,map_cons,mem_cons,not_or]at h;simp only[cT];rw[ih h.2,if_neg (Ne.symm (Ne.symm h.1))]
theorem ab8{us:List (Nat×au)}{id:Nat}(h:id∈tF us):∃o,cT us id=some o:=by
 induction us with
 |nil=>simp[tF]at h|cons u us ih=>
  have⟨j,o⟩:=u;simp only[tF,map_cons,mem_cons]at h;simp only[cT];cases hf:cT us id with
  |some x=>exact⟨x,rfl⟩|none=>
   rcases h with rfl|h;simp;have⟨o,ho⟩:=ih h;rw[ho]at hf;cases hf
theorem El.hZ(e:El)(H:a8){id:Nat}(h:id ∉ e.wr):e.heap H id=H id:=by
 unfold El.wr at h;unfold El.heap;cases hq:e.q with
 |some q=>
  rw[hq]at h;simp only[mem_append,not_or,mem_map,mem_range,not_exists,not_and]at h;simp only[dc,ab7 h.1];rw[if_neg];rintro⟨h1,h2⟩;exact h.2 (id - e.base) (by omega) (by omega)
 |none=>rfl
theorem El.af4(e:El)(H H':a8){id:Nat}(h:id∈e.wr):e.heap H id=e.heap H' id:=by
 unfold El.wr at h;unfold El.heap;cases hq:e.q with
 |some q=>
  rw[hq]at h;simp only[mem_append,mem_map,mem_range]at h;simp only[dc];rcases h with h|⟨j,h1,rfl⟩;have⟨o,ho⟩:=ab8 h;rw[ho];cases cT q.up (e.base+j)with
  |some o=>rfl|none=>simp[h1]
 |none=>rw[hq]at h;simp at h
theorem akc{e:El}{q:bP}(hq:e.q=some q){j:Nat}(hj:j<q.new.length):e.base+j∈e.wr:=by
 unfold El.wr;rw[hq];simp only[mem_append,mem_map,mem_range];exact .inr ⟨j,hj,rfl⟩
theorem swap{T:List AV}{x y:El}(hx:x.Ok P S ops T H)(hy:y.Ok P S ops (x.cN T) (x.heap H))(hi:ab6 ops x y):
 y.Ok P S ops T H/\x.Ok P S ops (y.cN T) (y.heap H)/\y.cN (x.cN T)=x.cN (y.cN T)/\y.heap (x.heap H)=x.heap (y.heap H):=by
 refine⟨⟨hy.op,λt ht=> ?_,hy.guard,hy.skip,λq hq=> ?_⟩,⟨hx.op,λt ht=> ?_,hx.guard,hx.skip,λq hq=> ?_⟩, ?_, ?_⟩;have:=hy.looks t ht;rwa[El.yM x T (λe=>(hi.s1 t e).1 ht)]at this;have⟨h1,h2,h3,h4⟩:=hy.run q hq
 have hc:=RM.eval_congr (H:=x.heap H) (H':=H) (rZ P (S y.base) (iE y.T) y.o) (λid dI=>by
  rw[h2]at dI;exact(El.hZ x H (λhw=>(hi.h1 id hw).1 dI)).symm)
 refine⟨hc.1.trans h1,hc.2.trans h2,h3,λj hj=> ?_⟩;rw[<-h4 j hj];exact(El.hZ x H (λhw=>(hi.h1 _ hw).2 (akc hq hj))).symm;rw[El.yM y T (λe=>hi.s2 t e ht)];exact hx.looks t ht;have⟨h1,h2,h3,h4⟩:=hx.run q hq
 have hc:=RM.eval_congr (H:=H) (H':=y.heap H) (rZ P (S x.base) (iE x.T) x.o) (λid dI=>by
  rw[h2]at dI;exact El.hZ y H (λhw=>hi.h2 id hw dI))
 refine⟨hc.1.trans h1,hc.2.trans h2,h3,λj hj=> ?_⟩;rw[El.hZ y H (λhw=>(hi.h1 _ (akc hq hj)).2 hw)];exact h4 j hj;unfold El.cN;cases hd:x.o.dst with
 |none=>rfl|some d=>
  cases hd':y.o.dst with
  |none=>rfl|some d'=>
   simp only[db];exact List.set_comm _ _ (λe=>(hi.s1 d hd).2 (by rw[hd',e]))
 funext id;by_cases h1:id∈x.wr;rw[El.hZ y _ (hi.h1 id h1).2];exact El.af4 x _ _ h1;rw[El.hZ x _ h1];by_cases h2:id∈y.wr;exact El.af4 y _ _ h2;rw[El.hZ y _ h2,El.hZ y _ h2,El.hZ x _ h1]
theorem front{T':List AV}{H':a8}{x:El}{post:List El}:∀(pre:List El) {T:List AV} {H:a8},oe P S ops T H (pre++x::post) T' H'->(∀e∈pre,ab6 ops e x)->
 x.Ok P S ops T H/\oe P S ops (x.cN T) (x.heap H) (pre++post) T' H'
 |[],T,H,h,_=>h|e::pre,T,H,h,hi=>by
  have⟨h1,h2⟩:=h;have⟨h3,h4⟩:=front pre h2 (λf hf=>hi f (by simp[hf]));have⟨h5,h6,h7,h8⟩:=swap h1 h3 (hi e (by simp));refine⟨h5,h6, ?_⟩;rw[h7,h8]at h4;exact h4
def qh(ops:Array Oper)(e f:El):Prop:=e.i<f.i/\(gz ops f.i e.i=true\/ab6 ops e f)
theorem l8.af5{T:List AV}(h:l8 X ρ T H a w){d:Nat}{b:Bool}{Ti:List AV}(hr:Ref (T.getD d (.s .bm)) (Ti.getD d (.s .bm)))(hx:Ti.getD d (.s .bm)=.s (.aN b)):a.tmps[d]? =some (.bool b):=by
 have h1:=hr.den (h.den d);rw[hx]at h1;have h2:=aC (by simp) h1
 have br:d<a.tmps.size:=by
  rcases lt_or_ge d a.tmps.size with h3|h3;exact h3;have:a.tmps.getD d undef=undef:=by simp[Array.getD,Nat.not_lt.2 h3]
  rw[this]at h2;cases h2
 have h4:a.tmps.getD d undef=a.tmps[d]:=by simp[Array.getD,br]
 rw[h4]at h2;rw[Array.getElem?_eq_getElem br];generalize a.tmps[d]=u at h2;cases h2;rfl
theorem l8.aif{T:List AV}(h:l8 X ρ T H a w){d:Nat}{Ti:List AV}(hr:Ref (T.getD d (.s .bm)) (Ti.getD d (.s .bm)))(hx:Ti.getD d (.s .bm)=.bd []):∀b,a.tmps[d]? ≠some (.bool b):=by
 intro b hb;have h1:=hr.den (h.den d);rw[hx]at h1;have:a.tmps.getD d undef=.bool b:=by simp[getD_eq_getD_getElem?,hb]
 rw[this]at h1;unfold ag at h1;have⟨us,h5,_⟩:=h1;cases h5
theorem akd{o:Oper}{T Ti:List AV}(h:l8 X ρ T H a w)(hl:∀t∈o.looksAt ops,Ref (T.getD t (.s .bm)) (Ti.getD t (.s .bm))):∀x∈o.op.operands,ag ρ H (bg ρ H X.G) w (iE Ti x) (a.eval x):=by
 intro x hx;cases x with
 |tmp t=>
  refine(hl t ?_).den (h.den t);simp only[Oper.looksAt,mem_append,List.mem_filterMap];exact .inl ⟨.tmp t,by simpa using hx,rfl⟩
 |const v=>exact vY _ v|global g=>unfold iE ag;trivial|func f=>exact aK (.qF f)
theorem l8.skip{T:List AV}(h:l8 X ρ T H a w)(dst:Option Tmp):l8 X ρ (db T dst (.bd [])) H (a.put dst undef) w:=by
 have⟨arr,df⟩:=a;have hp:=q8 (ρ:=ρ) (H:=H) (O:=bg ρ H X.G) (w:=w) h.size h.den dst (r:=.bd []) (v:=undef) cX df;exact⟨h.sat,hp.1,hp.2,by have:=h.defers;cases dst<;>exact this,h.ao,h.jr,h.kept⟩
theorem af6(hS:SOk P S Z)(nz:cP Z X){T:List AV}{e:El}(he:e.Ok P S ops T H)(h:l8 X ρ T H a w){Kn:Act->World->Prop}{Q:Exit->Act->World->Prop}
 (hK:∀aU a' w',l8 X aU (e.cN T) (e.heap H) a' w'->Kn a' w'):wpOp P ops Q e.i Kn a w:=by
 unfold wpOp;rw[he.op];simp only[];cases hq:e.q with
 |some q=>
  have hw:Region.wanted e.o (yielded ops a.tmps)=true:=by
   have hg:=he.guard;split at hg;rename_i h0;simp[Region.wanted,h0];rename_i g want h0;have⟨d,h1,h2⟩:=hg;rcases h2 with⟨b,h2,h3⟩|⟨_,h3⟩;have hld:d∈e.o.looksAt ops:=by simp[Oper.looksAt,h0,h1]
   have:=h.af5 (he.looks d hld) h2;rw[hq]at h3;simp only[Region.wanted,h0,yielded,h1,Option.bind_some,this];simpa using h3.symm;rw[hq]at h3;cases h3
  rw[if_pos hw];have⟨h1,h2,h3,h4⟩:=he.run q hq;refine .inl (aid (h.op hS nz h1 h3 (akd h he.looks) h4) (λv w' ⟨aU,fo⟩=>hK aU _ w' ?_));simpa only[El.cN,El.heap,hq]using fo
 |none=>
  have hw:Region.wanted e.o (yielded ops a.tmps)=false:=by
   have hg:=he.guard;split at hg;rename_i h0;rw[hq]at hg;cases hg;rename_i g want h0;have⟨d,h1,h2⟩:=hg;have hld:d∈e.o.looksAt ops:=by simp[Oper.looksAt,h0,h1]
   rcases h2 with⟨b,h2,h3⟩|⟨h2,h3⟩;have:=h.af5 (he.looks d hld) h2;rw[hq]at h3;simp only[Region.wanted,h0,yielded,h1,Option.bind_some,this];have:(b==want)=false:=by simpa using h3.symm
   simpa using this;have:=h.aif (he.looks d hld) h2
   have hy:yielded ops a.tmps g=none:=by
    simp only[yielded,h1,Option.bind_some]
    first
     |done
     |(split
       rename_i b hb;exact(this b hb).elim;rfl)
   simp only[Region.wanted,h0,hy];rfl
  rw[if_neg (by rw[hw];simp)];refine hK ρ _ w ?_;simpa only[El.cN,El.heap,hq]using h.skip e.o.dst
theorem iT{L:Nat->Prop}(hL:∀i o,ops[i]? =some o->L i->∀e∈o.after,Region.binds .any e=true->L e.on):∀(n:Nat) {i j:Nat} {o:Oper},ops[i]? =some o->(∀e∈o.after,Region.binds .any e=true->L e.on)->vW ops n i j=true->L j
 |0,i,j,o,ho,hd,h=>by cases h
 |n+1,i,j,o,ho,hd,h=>by
  simp only[vW,ho,or_eq_true,Array.any_eq_true]at h;rcases h with⟨k,hk,h⟩|⟨k,hk,h⟩;simp only[and_eq_true]at h;have:=hd _ (Array.getElem_mem hk) h.1;rwa[Nat.eq_of_beq_eq_true h.2]at this;simp only[and_eq_true]at h;have h1:=hd _ (Array.getElem_mem hk) h.1.1;cases du:ops[(o.after[k]).on]? with
  |none=>
   have h2:=h.2;cases n with
   |zero=>cases h2
   |succ n=>simp only[vW,du]at h2;cases h2
  |some o'=>exact iT hL n du (hL _ o' du h1) h.2
theorem aat(hS:SOk P S Z)(nz:cP Z X)(heb:dP ops=true){T':List AV}{H':a8}{Q:Exit->Act->World->Prop}(hQ:∀aU a' w',l8 X aU T' H' a' w'->Q .normal a' w'):
 ∀(fuel:Nat) (listed:Array Bool) (es:List El) (T:List AV) (H:a8) (ρ:Nat->Value) (a:Act) (w:World),es.length=fuel->listed.size=ops.size->es.Pairwise (qh ops)->
 (∀i,i<ops.size->(listed.getD i true=false↔ ∃e∈es,e.i=i))->(∀i o,ops[i]? =some o->listed.getD i false=true->∀e∈o.after,Region.binds .any e=true->listed.getD e.on false=true)->l8 X ρ T H a w->oe P S ops T H es T' H'->wpAny P .any ops Q fuel listed a w:=by
 have fW:∀(listed:Array Bool) (i:Nat),i∈Region.ready .any ops listed->i<ops.size/\listed.getD i true=false/\∃o,ops[i]? =some o/\∀e∈o.after,Region.binds .any e=true->listed.getD e.on false=true:=by
  intro listed i hi;simp only[Region.ready,List.mem_filter,mem_range,and_eq_true]at hi;have⟨h1,h2,h3⟩:=hi;refine⟨h1,by simpa using h2, ?_⟩;cases ho:ops[i]? with
  |none=>rw[ho]at h3;simp at h3|some o=>
   rw[ho]at h3;simp only[map_some,getD_some,Array.all_eq_true]at h3;refine⟨o,rfl,λe he hb=> ?_⟩;obtain⟨n,hn,rfl⟩:=Array.mem_iff_getElem.1 he;have:=h3 n hn;rw[hb]at this;simpa using this
 have stop:∀(listed:Array Bool) (es:List El) (T:List AV) (H:a8),listed.size=ops.size->es.Pairwise (qh ops)->(∀i,i<ops.size->(listed.getD i true=false↔ ∃e∈es,e.i=i))->
  oe P S ops T H es T' H'->Region.ready .any ops listed=[]->es=[]:=by
  intro listed es T H bZ hp hl hc hr;cases es with
  |nil=>rfl|cons e es=>
   exfalso;have ho:=hc.1.op;have br:e.i<ops.size:=(Array.getElem?_eq_some_iff.1 ho).1
   have jK:e.i∈Region.ready .any ops listed:=by
    simp only[Region.ready,List.mem_filter,mem_range,and_eq_true];refine⟨br,by simpa using(hl e.i br).2 ⟨e,by simp,rfl⟩, ?_⟩;rw[ho];simp only[map_some,getD_some,Array.all_eq_true];intro n hn;have hb:dP ops=true:=heb;simp only[dP,all_eq_true,mem_range]at hb;have hb:=hb e.i br;rw[ho]at hb;simp only[Array.all_eq_true]at hb;have hb:=hb n hn;cases hbi:Region.binds .any (e.o.after[n])with
    |false=>simp|true=>
     rw[hbi]at hb;have hon:(e.o.after[n]).on<e.i:=by simpa[Nat.blt,Nat.lt_iff_add_one_le]using hb
     have cG:¬(listed.getD (e.o.after[n]).on true=false):=by
      intro hf;have⟨f,hf1,hf2⟩:=(hl _ (by omega)).1 hf;rcases mem_cons.1 hf1 with rfl|hf1;omega;have:=(pairwise_cons.1 hp).1 f hf1;have:=this.1;omega
     have dH:(e.o.after[n]).on<listed.size:=by omega
     simp only[Array.getD,dH,dif_pos]at cG ⊢;simpa using cG
   rw[hr]at jK;simp at jK
 intro fuel
 induction fuel with
 |zero=>
  intro listed es T H ρ a w bx bZ hp hl hdc aeW hc;obtain rfl:es=[]:=List.length_eq_zero_iff.1 bx;obtain⟨rfl,rfl⟩:=hc;refine⟨?_,hQ _ _ _ aeW⟩;rw[List.eq_nil_iff_forall_not_mem];intro i hi;have⟨h1,h2,_⟩:=fW listed i hi;have⟨e,he,_⟩:=(hl i h1).1 h2;simp at he
 |succ fuel ih=>
  intro listed es T H ρ a w bx bZ hp hl hdc aeW hc;refine⟨λhr=> ?_,λi hi=> ?_⟩;obtain rfl:=stop listed es T H bZ hp hl hc hr;simp at bx;have⟨h1,h2,o,ho,h3⟩:=fW listed i hi;obtain⟨f,hf,rfl⟩:=(hl i h1).1 h2;obtain⟨pre,post,rfl⟩:=List.append_of_mem hf;have l9:∀e∈pre,qh ops e f:=λe he=>(List.pairwise_append.1 hp).2.2 e he f (by simp)
  have asx:∀e∈pre,ab6 ops e f:=by
   intro e he;rcases(l9 e he).2 with h4|h4;exfalso;have h8:listed.getD e.i false=true:=iT (L:=λi=>listed.getD i false=true) hdc 9 ho h3 h4;have br:e.i<ops.size:=by have:=(l9 e he).1;omega
   have h9:=(hl e.i br).2 ⟨e,by simp[he],rfl⟩;have dH:e.i<listed.size:=by omega
   simp only[Array.getD,dH,dif_pos]at h8 h9;rw[h8]at h9;cases h9;exact h4
  have⟨hok,hch⟩:=front pre hc asx;refine af6 hS nz hok aeW (λaU a' w' fo=> ?_)
  have fj:∀j,listed.getD j false=true->(listed.setIfInBounds f.i true).getD j false=true:=λj hj=>by
   simp only[getD_eq_getD_getElem?,Array.getElem?_setIfInBounds]at hj ⊢;split;split<;>simp_all;exact hj
  have asy:∀i o,ops[i]? =some o->(listed.setIfInBounds f.i true).getD i false=true->∀e∈o.after,Region.binds .any e=true->(listed.setIfInBounds f.i true).getD e.on false=true:=by
   intro i o' du fh e he hb;by_cases hif:i=f.i;subst hif;rw[ho]at du;cases du;exact fj _ (h3 e he hb);refine fj _ (hdc i o' du ?_ e he hb);simp only[getD_eq_getD_getElem?,Array.getElem?_setIfInBounds,if_neg (Ne.symm hif)]at fh ⊢;exact fh
  refine ih _ (pre++post) _ _ aU a' w' ?_ (by simp[bZ]) ?_ ?_ asy fo hch;simp only[length_append,length_cons]at bx ⊢;omega;exact hp.sublist (List.Sublist.append (List.Sublist.refl _) (List.sublist_cons_self _ _));intro j hj
  have ajY:∀e∈pre++post,e.i≠f.i:=by
   intro e he;rcases mem_append.1 he with he|he;have:=(l9 e he).1;omega;have:=(pairwise_cons.1 (List.pairwise_append.1 hp).2.1).1 e he;have:=this.1;omega
  have dH:j<listed.size:=by omega
  have asz:(listed.setIfInBounds f.i true).getD j true=if j=f.i then true else listed.getD j true:=by
   simp only[getD_eq_getD_getElem?,Array.getElem?_setIfInBounds];by_cases hjf:f.i=j;subst hjf;simp[dH];simp[hjf,Ne.symm hjf]
  rw[asz];by_cases hjf:j=f.i;subst hjf;simp only[if_true,Bool.true_eq_false,false_iff,not_exists,not_and];exact ajY;rw[if_neg hjf,hl j hj];constructor;rintro⟨e,he,rfl⟩;refine⟨e, ?_,rfl⟩;simp only[mem_append,mem_cons]at he ⊢;rcases he with he|rfl|he;exact .inl he;exact(hjf rfl).elim;exact .inr he;rintro⟨e,he,rfl⟩;refine⟨e, ?_,rfl⟩;simp only[mem_append,mem_cons]at he ⊢;rcases he with he|he;exact .inl he;exact .inr (.inr he)
def El.np(e:El):Touch:=⟨e.i,e.rd,e.wr⟩
theorem gF:∀(tr:List Touch),iF ops tr=true->tr.Pairwise (λb a=>a.af0 b=false\/gz ops b.i a.i=true)
 |[],_=>.nil|b::aT,h=>by
  simp only[iF,and_eq_true,all_eq_true,or_eq_true,not_eq_true']at h;exact .cons (λa ha=>h.1 a ha) (gF aT h.2)
theorem Touch.vZ{a b:Touch}(h:a.af0 b=false):(∀id∈a.wr,id ∉ b.rd/\id ∉ b.wr)/\∀id∈b.wr,id ∉ a.rd:=by
 simp only[Touch.af0,Bool.or_eq_false_iff,List.any_eq_false,or_eq_true,List.contains_iff_mem,not_or]at h;exact h
theorem af7{T T':List AV}(bx:T.length=T'.length)(h:∀t,Ref (T.getD t (.s .bm)) (T'.getD t (.s .bm)))(dst:Option Tmp)(x:AV):∀t,Ref ((db T dst x).getD t (.s .bm)) ((db T' dst x).getD t (.s .bm)):=by
 intro t;cases dst with
 |none=>exact h t|some d=>
  simp only[db];rw[cV,cV,bx];split;exact .inl rfl;exact h t
theorem og(T:List AV)(dst:Option Tmp)(x:AV):(db T dst x).length=T.length:=by cases dst<;>simp[db]
theorem gA{cont:St->List Touch->Tree}:∀(l:List Oper) (i:Nat) (s:St) (tr:List Touch) (T:List AV),(∀j o,l[j]? =some o->ops[i+j]? =some o)->(lA P S ops cont i l s tr).bt K C->
 T.length=s.tmps.length->(∀t,Ref (T.getD t (.s .bm)) (s.tmps.getD t (.s .bm)))->
 ∃es s' qE T',(cont s' qE).bt K C/\oe P S ops T s.look es T' s'.look/\T'.length=s'.tmps.length/\(∀t,Ref (T'.getD t (.s .bm)) (s'.tmps.getD t (.s .bm)))/\
  es.map El.i=range' i l.length/\qE=((es.filter (λe=>e.q.isSome)).map El.np).reverse++tr
 |[],i,s,tr,T,_,h,bx,hT=>⟨[],s,tr,T,h,⟨rfl,rfl⟩,bx,hT,rfl,rfl⟩|o::rest,i,s,tr,T,hl,h,bx,hT=>by
  have ho:ops[i]? =some o:=by simpa using hl 0 o (by simp)
  have hl':∀j o',rest[j]? =some o'->ops[i+1+j]? =some o':=λj o' hj=>by
   have:=hl (j+1) o' (by simpa using hj);rwa[show i+(j+1)=i+1+j from by omega]at this
  have oh:∀(s:St),T.length=s.tmps.length->(∀t,Ref (T.getD t (.s .bm)) (s.tmps.getD t (.s .bm)))->
   (match o.guard with|none=>True|some (g,want)=>∃d,(ops[g]?).bind (·.dst)=some d/\s.tmps.getD d (.s .bm)=.s (.aN want))->
   (match(rZ P (S s.H.length) (iE s.tmps) o).eval s.look with
     |some r=>bif yL s.H.length r.up then Tree.yK r.ab (lA P S ops cont (i+1) rest (s.put o.dst r) (⟨i,(rZ P (S s.H.length) (iE s.tmps) o).ids s.look,tF r.up++(List.range r.new.length).map (s.H.length+·)⟩::tr))else .stuck ""|none=>.stuck (o.pos++ " " ++(rZ P (S s.H.length) (iE s.tmps) o).why s.look)).bt K C->
   ∃es s' qE T',(cont s' qE).bt K C/\oe P S ops T s.look es T' s'.look/\T'.length=s'.tmps.length/\(∀t,Ref (T'.getD t (.s .bm)) (s'.tmps.getD t (.s .bm)))/\
    es.map El.i=range' i (o::rest).length/\qE=((es.filter (λe=>e.q.isSome)).map El.np).reverse++tr:=by
   intro s bx hT hg h;split at h;rename_i q hq;rw[cond_eq_ite]at h;split at h;rename_i hup;have⟨hn,h2⟩:=oa _ _ h;let e:El:=⟨i,o,s.tmps,some q,s.H.length,(rZ P (S s.H.length) (iE s.tmps) o).ids s.look⟩;have⟨es,s',qE,T',g1,g2,g3,g4,g5,g6⟩:=gA rest (i+1) _ _ (e.cN T) hl' h2 (by simp[El.cN,St.put,og,bx]) (af7 bx hT o.dst _);refine⟨e::es,s',qE,T',g1,⟨⟨ho,λt _=>hT t, ?_,λhq'=>by simp[e]at hq',λq' hq'=> ?_⟩, ?_⟩,g3,g4, ?_, ?_⟩;show match o.guard with|none=>_|some (g,want)=>_
   split;rfl;rename_i g want h0;rw[h0]at hg;have⟨d,h5,h6⟩:=hg;exact⟨d,h5,.inl ⟨want,h6,by simp[e]⟩⟩;obtain rfl:q=q':=by simpa[e]using hq'
   exact⟨hq,rfl,hn,λj _=>by simp[St.look,e]⟩;have:e.heap s.look=(s.put o.dst q).look:=(ab5 s o.dst q (akb hup)).symm;rw[this];exact g2;simp[g5,List.range'_succ,e];rw[g6];simp[e,El.np,El.wr];exact h.elim;exact h.elim
  have om:∀(s:St),T.length=s.tmps.length->(∀t,Ref (T.getD t (.s .bm)) (s.tmps.getD t (.s .bm)))->
   (∃g want d,o.guard=some (g,want)/\(ops[g]?).bind (·.dst)=some d/\(s.tmps.getD d (.s .bm)=.s (.aN (!want))\/s.tmps.getD d (.s .bm)=.bd []))->
   (lA P S ops cont (i+1) rest {s with tmps:=db s.tmps o.dst (.bd [])} tr).bt K C->
   ∃es s' qE T',(cont s' qE).bt K C/\oe P S ops T s.look es T' s'.look/\T'.length=s'.tmps.length/\(∀t,Ref (T'.getD t (.s .bm)) (s'.tmps.getD t (.s .bm)))/\
    es.map El.i=range' i (o::rest).length/\qE=((es.filter (λe=>e.q.isSome)).map El.np).reverse++tr:=by
   intro s bx hT hg h;let e:El:=⟨i,o,s.tmps,none,s.H.length,[]⟩;have⟨es,s',qE,T',g1,g2,g3,g4,g5,g6⟩:=gA rest (i+1) _ _ (e.cN T) hl' h (by simp[El.cN,og,bx]) (af7 bx hT o.dst _);refine⟨e::es,s',qE,T',g1,⟨⟨ho,λt _=>hT t, ?_,λ_=>rfl,λq' hq'=>by simp[e]at hq'⟩,g2⟩,g3,g4, ?_, ?_⟩;show match o.guard with|none=>_|some (g,want)=>_
   have⟨g,want,d,h0,h5,h6⟩:=hg;rw[h0];refine⟨d,h5, ?_⟩;rcases h6 with h6|h6;exact .inl ⟨!want,h6,by cases want<;>rfl⟩;exact .inr ⟨h6,rfl⟩;simp[g5,List.range'_succ,e];rw[g6];simp[e]
  have nS:∀{d:Nat} {b:Bool},s.tmps.getD d (.s .bm)=.s (.bool b)->d<s.tmps.length:=by
   intro d b hb;rcases lt_or_ge d s.tmps.length with h3|h3;exact h3;rw[List.getD,getElem?_eq_none h3]at hb;simp at hb
  have aog:∀{d:Nat} {b:Bool},s.tmps.getD d (.s .bm)=.s (.bool b)->∀t,Ref (T.getD t (.s .bm)) ((s.tmps.set d (.s (.aN b))).getD t (.s .bm)):=by
   intro d b hb t;rw[cV];split;rename_i hc;obtain⟨rfl,_⟩:=hc;exact(hT t).trans (.inr ⟨b,hb,rfl⟩);exact hT t
  unfold lA at h;simp only[]at h;split at h;rename_i hg;exact oh s bx hT (by rw[hg];trivial) h;rename_i g want hg;split at h;exact h.elim;rename_i d hd;split at h;rename_i b hb;rw[cond_eq_ite]at h;split at h;rename_i hbw;obtain rfl:b=want:=by simpa using hbw
  exact oh s bx hT (by rw[hg];exact⟨d,hd,hb⟩) h;rename_i hbw;refine om s bx hT ⟨g,want,d,hg,hd,.inl ?_⟩ h;rw[hb];cases b<;>cases want<;>simp_all;rename_i b hb;have br:=nS hb;have hr2:=aog hb;have af8:∀c:Bool,(s.tmps.set d (.s (.aN c))).getD d (.s .bm)=.s (.aN c):=λc=>by simp[List.getD,br]
  have⟨h1,h2⟩:=h;cases b;have h2:=h2 rfl;cases want;exact oh {s with tmps:=s.tmps.set d (.s (.aN false))} (by simpa using bx) hr2 (by rw[hg];exact⟨d,hd,af8 _⟩) h2;exact om {s with tmps:=s.tmps.set d (.s (.aN false))} (by simpa using bx) hr2 ⟨g,true,d,hg,hd,.inl (af8 _)⟩ h2;have h1:=h1 rfl;cases want;exact om {s with tmps:=s.tmps.set d (.s (.aN true))} (by simpa using bx) hr2 ⟨g,false,d,hg,hd,.inl (af8 _)⟩ h1;exact oh {s with tmps:=s.tmps.set d (.s (.aN true))} (by simpa using bx) hr2 (by rw[hg];exact⟨d,hd,af8 _⟩) h1;rename_i hb;exact om s bx hT ⟨g,want,d,hg,hd,.inr hb⟩ h;exact h.elim
theorem kj{T':List AV}{H':a8}:∀{es:List El} {T:List AV} {H:a8},oe P S ops T H es T' H'->∀e∈es,e.q=none->e.rd=[]
 |[],_,_,_,e,he=>by simp at he
 |x::es,T,H,h,e,he=>by
  rcases mem_cons.1 he with rfl|he;exact h.1.skip;exact kj h.2 e he
theorem v7{T':List AV}{H':a8}:∀{es:List El} {T:List AV} {H:a8},oe P S ops T H es T' H'->∀e∈es,ops[e.i]? =some e.o
 |[],_,_,_,e,he=>by simp at he
 |x::es,T,H,h,e,he=>by
  rcases mem_cons.1 he with rfl|he;exact h.1.op;exact v7 h.2 e he
theorem tG(hso:hY ops=true){e f:El}(he:ops[e.i]? =some e.o)(hf:ops[f.i]? =some f.o)(br:e.i<f.i)(hna:gz ops f.i e.i=false):
 (∀d,e.o.dst=some d->d ∉ f.o.looksAt ops/\f.o.dst≠some d)/\(∀d,f.o.dst=some d->d ∉ e.o.looksAt ops):=by
 have hei:e.i<ops.size:=(Array.getElem?_eq_some_iff.1 he).1;have hfi:f.i<ops.size:=(Array.getElem?_eq_some_iff.1 hf).1;simp only[hY,all_eq_true,mem_range]at hso;refine⟨λd hd=> ?_,λd hd=> ?_⟩;have:=hso e.i hei f.i hfi;rw[he,hf]at this;simp only[hd,br,if_true,hna,Bool.or_false,or_eq_true,beq_iff_eq,and_eq_true,not_eq_true']at this;rcases this with h|⟨h1,h2⟩;omega;refine⟨λhm=> ?_,λhm=> ?_⟩;rw[List.contains_iff_mem.2 hm]at h1;cases h1;rw[hm]at h2;simp at h2;have:=hso f.i hfi e.i hei;rw[he,hf]at this;simp only[hd,Nat.not_lt.2 (Nat.le_of_lt br),if_false,hna,Bool.or_false,or_eq_true,beq_iff_eq,and_eq_true,not_eq_true']at this;rcases this with h|⟨h1,h2⟩;omega;intro hm;rw[List.contains_iff_mem.2 hm]at h1;cases h1
theorem aau(hS:SOk P S Z)(nz:cP Z X){cont:St->List Touch->Tree}(hso:hY ops=true)(heb:dP ops=true)(h:(lA P S ops cont 0 ops.toList s []).bt K C)(hcl:∀s' qE,(cont s' qE).bt K C->iF ops qE=true)
 {Q:Act->World->Prop} (hQ:∀aU s' qE a' w',(cont s' qE).bt K C->cq X aU s' a' w'->Q a' w') (hr:cq X ρ s a w):wpAny P .any ops (λe a' w'=>e=.normal/\Q a' w') ops.size (Array.replicate ops.size false) a w:=by
 have⟨es,s',qE,T',g1,g2,g3,g4,g5,g6⟩:=gA ops.toList 0 s [] s.tmps (by simp) h rfl (λt=>.inl rfl);have hcf:=gF _ (hcl _ _ g1);rw[g6,append_nil,List.pairwise_reverse,List.pairwise_map,List.pairwise_filter]at hcf;have xM:=v7 g2
 have abT:es.Pairwise (λe f=>e.i<f.i):=by
  have:(es.map El.i).Pairwise (· < ·):=by rw[g5];exact List.pairwise_lt_range'
  rwa[List.pairwise_map]at this
 have aav:es.Pairwise (qh ops):=by
  refine(hcf.and abT).imp_of_mem (λ{e f} he hf ⟨hc,br⟩=>⟨br, ?_⟩);cases hna:gz ops f.i e.i with
  |true=>exact .inl rfl|false=>
   refine .inr ?_;have⟨s1,s2⟩:=tG hso (xM e he) (xM f hf) br hna
   have hh:(∀id∈e.wr,id ∉ f.rd/\id ∉ f.wr)/\∀id∈f.wr,id ∉ e.rd:=by
    cases hqe:e.q with
    |none=>
     have e1:e.wr=[]:=by simp[El.wr,hqe]
     have e2:=kj g2 e he hqe;exact⟨λid dI=>by rw[e1]at dI;simp at dI,λid _=>by rw[e2];simp⟩
    |some qe=>
     cases hqf:f.q with
     |none=>
      have e1:f.wr=[]:=by simp[El.wr,hqf]
      have e2:=kj g2 f hf hqf;exact⟨λid _=>by rw[e1,e2];simp,λid dI=>by rw[e1]at dI;simp at dI⟩
     |some qf=>
      rcases hc (by rw[hqe];rfl) (by rw[hqf];rfl)with h1|h1;exact Touch.vZ (a:=e.np) (b:=f.np) h1;exact(by rw[show f.np.i=f.i from rfl,show e.np.i=e.i from rfl,hna]at h1;cases h1)
   exact⟨s1,s2,hh.1,hh.2⟩
 have bx:es.length=ops.size:=by
  have:=congrArg List.length g5;simpa using this
 refine aat hS nz heb (λaU a' w' fo=>⟨rfl,hQ aU s' qE a' w' g1 ⟨fo.sat,g3▸fo.size,λt=>(g4 t).den (fo.den t),fo.defers,fo.ao,fo.jr,fo.kept⟩⟩) ops.size _ es s.tmps s.look ρ a w bx (by simp) aav ?_ (λi o _ hi=>by rw[getD_eq_getD_getElem?,Array.getElem?_replicate]at hi;split at hi<;>simp at hi) hr.toF g2;intro i hi;have:i∈es.map El.i:=by rw[g5];simp[List.mem_range'];omega
 obtain⟨e,he,rfl⟩:=mem_map.1 this;simp only[getD_eq_getD_getElem?,Array.getElem?_replicate,hi,if_true,getD_some,true_iff];exact⟨e,he,rfl⟩
end
section
variable{ρ aU:Nat->Value}{H H':a8}{G O O':Nat->Prop}{w w':World}{P:Program}{S:fA}{Z:aZ}{X:Ctx}{s:St}{a:Act}{K:List au->AV->Prop}{C:bQ->Prop}{ops:Array Oper}
structure ko (n:Nat) (rest:List Value) (Ds:List Nat) (a t:Act):Prop where
 sl:∃v0,a.tmps.toList=v0++rest/\t.tmps=v0.toArray/\v0.length=n
 df:t.defers=a.defers++Ds.map pD
theorem ko.get{n:Nat}{rest:List Value}{Ds:List Nat}{a t:Act}(h:ko n rest Ds a t){j:Nat}(hj:rest=[]\/j<n):t.tmps[j]? =a.tmps[j]? :=by
 have⟨v0,h1,h2,h3⟩:=h.sl;have e:a.tmps[j]? =(v0++rest)[j]? :=by rw[<-h1,Array.getElem?_toList]
 rw[e,h2,List.getElem?_toArray];rcases hj with rfl|hj;rw[append_nil];rw[getElem?_append_left (by omega)]
theorem ko.eval{n:Nat}{rest:List Value}{Ds:List Nat}{a t:Act}(h:ko n rest Ds a t){x:Operand}(hx:rest=[]\/∀j,x=.tmp j->j<n):t.eval x=a.eval x:=by
 cases x with
 |tmp j=>
  show t.tmps.getD j undef=a.tmps.getD j undef;rw[getD_eq_getD_getElem?,getD_eq_getD_getElem?,h.get (hx.imp id λg=>g j rfl)]
 |const v=>rfl|global g=>rfl|func f=>rfl
theorem ko.put{n:Nat}{rest:List Value}{Ds:List Nat}{a t:Act}(h:ko n rest Ds a t){dst:Option Tmp}(hd:rest=[]\/∀d,dst=some d->d<n)(v:Value):ko n rest Ds (a.put dst v) (t.put dst v):=by
 cases dst with
 |none=>exact h|some d=>
  have⟨v0,h1,h2,h3⟩:=h.sl;refine⟨⟨v0.set d v, ?_, ?_,by simp[h3]⟩,h.df⟩;show(a.tmps.setIfInBounds d v).toList=_;rw[Array.toList_setIfInBounds,h1];rcases hd with rfl|hd;simp;rw[List.set_append_left _ _ (h3▸hd d rfl)];show t.tmps.setIfInBounds d v=_;rw[h2];simp
theorem aoh{R:Value->World->Prop}{i:Nat}{rest:List Nat}{o:Oper}(ho:ops[i]? =some o)(hw:Region.wanted o (yielded ops a.tmps)=true)(iU:∀c,o.op≠.defer c)(h:Yields P o a.eval w R)(b:Frame)(k:List Item)(cs:List Frame):
 ∃v w',R v w'/\Steps P (lone (b.atR a (.inRegion ops (i::rest)::k)) cs w) (lone (b.atR (a.put o.dst v) (.inRegion ops rest::k)) cs w'):=by
 have hg:=stepGR_op (P:=P) (b:=b) (k:=k) (cs:=cs) (w:=w) (rest:=rest) ho hw;rw[Oper.semAt_eq _ _ _ iU]at hg
 have sI:∀v,(b.atR a (.inRegion ops (i::rest)::k)).finish v=b.atR (a.put o.dst v) (.inRegion ops rest::k):=by
  intro v;rw[Frame.finish_atR,ho];rfl
 unfold Yields at h;split at h;rename_i v w' hr;refine⟨v,w',h,.one (step_lone_go ?_)⟩;rw[hg,<-sI];simp[stepG.apply,hr];rename_i w' hr;refine⟨undef,w',h,.one (step_lone_go ?_)⟩;rw[hg,<-sI];simp[stepG.apply,hr];rename_i f args w' hr;obtain⟨e,w2,fr,⟨v,rfl,hv⟩,h2,h3,h4⟩:=h (b.atR a (.inRegion ops (i::rest)::k)::cs);have fO:step P (lone (b.atR a (.inRegion ops (i::rest)::k)) cs w)=
  .next (lone (Frame.enter P f args .normal) (b.atR a (.inRegion ops (i::rest)::k)::cs) w'):=
  step_lone_go (by rw[hg];simp[stepG.apply,hr,Frame.atR])
 refine⟨v,w2,hv,.head fO (Steps.trans h2 (.one ?_))⟩;rw[<-sI];exact step_leave_returned h4;exact h.elim
theorem aaw{i:Nat}{rest:List Nat}{o:Oper}(ho:ops[i]? =some o)(hw:Region.wanted o (yielded ops a.tmps)=false)(b:Frame)(k:List Item)(cs:List Frame):
 step P (lone (b.atR a (.inRegion ops (i::rest)::k)) cs w)=.next (lone (b.atR (a.put o.dst undef) (.inRegion ops rest::k)) cs w):=by
 have:=stepR_op_skip (P:=P) (b:=b) (a:=a) (k:=k) (cs:=cs) (w:=w) (ops:=ops) (i:=i) (rest:=rest) (by simp[ho];simpa using hw);simpa[ho]using this
theorem ake{i:Nat}{rest:List Nat}{o:Oper}(ho:ops[i]? =some o)(hw:Region.wanted o (yielded ops a.tmps)=true)(iU:∀c,o.op≠.defer c){f:FuncId}{args:Array Value}(h:(execOp a.eval o).run P w=.ok (.enter f args) w')(b:Frame)(k:List Item)(cs:List Frame):
 step P (lone (b.atR a (.inRegion ops (i::rest)::k)) cs w)=.next (lone (Frame.enter P f args .normal) (b.atR a (.inRegion ops (i::rest)::k)::cs) w'):=by
 have hg:=stepGR_op (P:=P) (b:=b) (k:=k) (cs:=cs) (w:=w) (rest:=rest) ho hw;rw[Oper.semAt_eq _ _ _ iU]at hg;exact step_lone_go (by rw[hg];simp[stepG.apply,h,Frame.atR])
theorem akf{i:Nat}{rest:List Nat}{o:Oper}(ho:ops[i]? =some o)(hw:Region.wanted o (yielded ops a.tmps)=true)(iU:∀c,o.op≠.defer c){l:Nat}{f:FuncId}{tmps:Array Value}{asg body:Code}(h:(execOp a.eval o).run P w=.ok (.round l f tmps asg body) w')(b:Frame)(k:List Item)(cs:List Frame):
 step P (lone (b.atR a (.inRegion ops (i::rest)::k)) cs w)=.next (lone (Frame.round l f tmps asg body .normal) (b.atR a (.inRegion ops (i::rest)::k)::cs) w'):=by
 have hg:=stepGR_op (P:=P) (b:=b) (k:=k) (cs:=cs) (w:=w) (rest:=rest) ho hw;rw[Oper.semAt_eq _ _ _ iU]at hg;exact step_lone_go (by rw[hg];simp[stepG.apply,h])
theorem q9(h:kR ops=true){i:Nat}{o:Oper}(ho:ops[i]? =some o):∀c,o.op≠.defer c:=by
 intro c hc;simp only[kR,all_eq_true]at h;have:=h o (by rw[<-Array.getElem?_toList]at ho;exact List.mem_of_getElem? ho);rw[hc]at this;cases this
theorem gQ{Q:Exit->Act->World->Prop}(iU:kR ops=true)(hQ:∀e a w,Q e a w->e=.normal):∀(l:List Nat) (a:Act) (w:World),wpOps P ops Q l a w->∀(b:Frame) (k:List Item) (cs:List Frame),
 ∃a' w',Q .normal a' w'/\Steps P (lone (b.atR a (.inRegion ops l::k)) cs w) (lone (b.atR a' k) cs w')
 |[],a,w,h,b,k,cs=>⟨a,w,h,.one stepR_region_end⟩|i::rest,a,w,h,b,k,cs=>by
  simp only[wpOps]at h;split at h;rename_i ho;have⟨a',w',h1,h2⟩:=gQ iU hQ rest a w h b k cs;have hs:=stepR_op_skip (P:=P) (b:=b) (a:=a) (k:=k) (cs:=cs) (w:=w) (ops:=ops) (i:=i) (rest:=rest) (by simp[ho]);simp only[ho,Option.bind_none,Act.put]at hs;exact⟨a',w',h1,.head hs h2⟩;rename_i o ho;by_cases hw:Region.wanted o (yielded ops a.tmps)=true;rw[if_pos hw]at h;rcases h with h|⟨_,a0,w0,hq⟩;unfold Oper.wp Oper.upon at h;have hg:=stepGR_op (P:=P) (b:=b) (k:=k) (cs:=cs) (w:=w) (rest:=rest) ho hw;rw[Oper.semAt_eq _ _ _ (q9 iU ho)]at hg
  have sI:∀v,(b.atR a (.inRegion ops (i::rest)::k)).finish v=b.atR (a.put o.dst v) (.inRegion ops rest::k):=by
   intro v;rw[Frame.finish_atR,ho];rfl
  split at h;rename_i v w' hr;have⟨a',w2,h1,h2⟩:=gQ iU hQ rest _ _ h b k cs;refine⟨a',w2,h1,.head (step_lone_go ?_) h2⟩;rw[hg,<-sI];simp[stepG.apply,hr];rename_i w' hr;have⟨a',w2,h1,h2⟩:=gQ iU hQ rest _ _ h b k cs;refine⟨a',w2,h1,.head (step_lone_go ?_) h2⟩;rw[hg,<-sI];simp[stepG.apply,hr];rename_i d w' hr;have⟨a',w2,h1,h2⟩:=gQ iU hQ rest _ _ h b k cs;refine⟨a',w2,h1,.head (step_lone_go ?_) h2⟩;have:({b.atR a (.inRegion ops (i::rest)::k)with defers:=d::a.defers}:Frame).finish undef=
   b.atR ({a with defers:=d::a.defers}.put o.dst undef) (.inRegion ops rest::k):=by
   have:=Frame.finish_atR b {a with defers:=d::a.defers} ops i rest k undef;rw[ho]at this;exact this
  rw[hg];simp only[stepG.apply,Sem.runT_eq,hr,GStep.bare_after];exact congrArg (λfr=>GStep.go {frame:=fr,callers:=cs,status:=.running,dying:=none} w') this;rename_i f args w' hr;have⟨e,w2,fr,hR,kp,hfn,qi⟩:=h (b.atR a (.inRegion ops (i::rest)::k)::cs);have fO:step P (lone (b.atR a (.inRegion ops (i::rest)::k)) cs w)=
   .next (lone (Frame.enter P f args .normal) (b.atR a (.inRegion ops (i::rest)::k)::cs) w'):=
   step_lone_go (by rw[hg];simp[stepG.apply,hr,Frame.atR])
  cases e with
  |returned v=>
   have⟨a',w3,h1,h2⟩:=gQ iU hQ rest _ _ hR b k cs;refine⟨a',w3,h1,.head fO (Steps.trans kp (.head ?_ h2))⟩;rw[<-sI];exact step_leave_returned qi
  |panicked chain=>cases hQ _ _ _ hR
  |outgrown=>
   have⟨a0,w0,hq⟩:=hR;cases hQ _ _ _ hq
  rename_i row args w' hr;have⟨v,w2,hR,kp⟩:=h (b.atR a (.inRegion ops (i::rest)::k)) cs;have fO:step P (lone (b.atR a (.inRegion ops (i::rest)::k)) cs w)=
   .next (lone (Frame.ofRow P row args .normal) (b.atR a (.inRegion ops (i::rest)::k)::cs) w'):=
   step_lone_go (by rw[hg];simp[stepG.apply,hr,Frame.atR])
  have⟨a',w3,h1,h2⟩:=gQ iU hQ rest _ _ hR b k cs;refine⟨a',w3,h1,.head fO (Steps.trans kp ?_)⟩;rw[sI];exact h2;cases hQ _ _ _ h;exact h.elim;cases hQ _ _ _ hq;rw[if_neg hw]at h;have⟨a',w',h1,h2⟩:=gQ iU hQ rest _ _ h b k cs;exact⟨a',w',h1,.head (aaw ho (by simpa using hw) b k cs) h2⟩
theorem fP{more:List Nat}{Q:Exit->Act->World->Prop}(iU:kR ops=true)(hQ:∀e a w,Q e a w->e=.normal):∀(l:List Nat) (a:Act) (w:World),wpOps P ops Q l a w->∀(b:Frame) (k:List Item) (cs:List Frame),
 ∃a' w',Q .normal a' w'/\Steps P (lone (b.atR a (.inRegion ops (l++more)::k)) cs w) (lone (b.atR a' (.inRegion ops more::k)) cs w')
 |[],a,w,h,b,k,cs=>⟨a,w,h,⟨0,rfl⟩⟩|i::rest,a,w,h,b,k,cs=>by
  rw[cons_append];simp only[wpOps]at h;split at h;rename_i ho;have⟨a',w',h1,h2⟩:=fP (more:=more) iU hQ rest a w h b k cs;have hs:=stepR_op_skip (P:=P) (b:=b) (a:=a) (k:=k) (cs:=cs) (w:=w) (ops:=ops) (i:=i) (rest:=rest++more) (by simp[ho]);simp only[ho,Option.bind_none,Act.put]at hs;exact⟨a',w',h1,.head hs h2⟩;rename_i o ho;by_cases hw:Region.wanted o (yielded ops a.tmps)=true;rw[if_pos hw]at h;rcases h with h|⟨_,a0,w0,hq⟩;unfold Oper.wp Oper.upon at h;have hg:=stepGR_op (P:=P) (b:=b) (k:=k) (cs:=cs) (w:=w) (rest:=rest++more) ho hw;rw[Oper.semAt_eq _ _ _ (q9 iU ho)]at hg
  have sI:∀v,(b.atR a (.inRegion ops (i::(rest++more))::k)).finish v=b.atR (a.put o.dst v) (.inRegion ops (rest++more)::k):=by
   intro v;rw[Frame.finish_atR,ho];rfl
  split at h;rename_i v w' hr;have⟨a',w2,h1,h2⟩:=fP (more:=more) iU hQ rest _ _ h b k cs;refine⟨a',w2,h1,.head (step_lone_go ?_) h2⟩;rw[hg,<-sI];simp[stepG.apply,hr];rename_i w' hr;have⟨a',w2,h1,h2⟩:=fP (more:=more) iU hQ rest _ _ h b k cs;refine⟨a',w2,h1,.head (step_lone_go ?_) h2⟩;rw[hg,<-sI];simp[stepG.apply,hr];rename_i d w' hr;have⟨a',w2,h1,h2⟩:=fP (more:=more) iU hQ rest _ _ h b k cs;refine⟨a',w2,h1,.head (step_lone_go ?_) h2⟩;have:({b.atR a (.inRegion ops (i::(rest++more))::k)with defers:=d::a.defers}:Frame).finish undef=
   b.atR ({a with defers:=d::a.defers}.put o.dst undef) (.inRegion ops (rest++more)::k):=by
   have:=Frame.finish_atR b {a with defers:=d::a.defers} ops i (rest++more) k undef;rw[ho]at this;exact this
  rw[hg];simp only[stepG.apply,Sem.runT_eq,hr,GStep.bare_after];exact congrArg (λfr=>GStep.go {frame:=fr,callers:=cs,status:=.running,dying:=none} w') this;rename_i f args w' hr;have⟨e,w2,fr,hR,kp,hfn,qi⟩:=h (b.atR a (.inRegion ops (i::(rest++more))::k)::cs);have fO:step P (lone (b.atR a (.inRegion ops (i::(rest++more))::k)) cs w)=
   .next (lone (Frame.enter P f args .normal) (b.atR a (.inRegion ops (i::(rest++more))::k)::cs) w'):=
   step_lone_go (by rw[hg];simp[stepG.apply,hr,Frame.atR])
  cases e with
  |returned v=>
   have⟨a',w3,h1,h2⟩:=fP (more:=more) iU hQ rest _ _ hR b k cs;refine⟨a',w3,h1,.head fO (Steps.trans kp (.head ?_ h2))⟩;rw[<-sI];exact step_leave_returned qi
  |panicked chain=>cases hQ _ _ _ hR
  |outgrown=>
   have⟨a0,w0,hq⟩:=hR;cases hQ _ _ _ hq
  rename_i row args w' hr;have⟨v,w2,hR,kp⟩:=h (b.atR a (.inRegion ops (i::(rest++more))::k)) cs;have fO:step P (lone (b.atR a (.inRegion ops (i::(rest++more))::k)) cs w)=
   .next (lone (Frame.ofRow P row args .normal) (b.atR a (.inRegion ops (i::(rest++more))::k)::cs) w'):=
   step_lone_go (by rw[hg];simp[stepG.apply,hr,Frame.atR])
  have⟨a',w3,h1,h2⟩:=fP (more:=more) iU hQ rest _ _ hR b k cs;refine⟨a',w3,h1,.head fO (Steps.trans kp ?_)⟩;rw[sI];exact h2;cases hQ _ _ _ h;exact h.elim;cases hQ _ _ _ hq;rw[if_neg hw]at h;have⟨a',w',h1,h2⟩:=fP (more:=more) iU hQ rest _ _ h b k cs;exact⟨a',w',h1,.head (aaw ho (by simpa using hw) b k cs) h2⟩
def tH(n:Nat)(rest:List Value)(ops:Array Oper):Prop:=rest=[]\/q7 n ops=true
theorem tH.op{n:Nat}{rest:List Value}(h:tH n rest ops){i:Nat}{o:Oper}(ho:ops[i]? =some o):rest=[]\/((∀t∈o.looksAt ops,t<n)/\(∀d,o.dst=some d->d<n)/\∀cs b,o.op≠.select cs b):=by
 refine h.imp id λh=> ?_;simp only[q7,all_eq_true]at h;have:=h o (by rw[<-Array.getElem?_toList]at ho;exact List.mem_of_getElem? ho);simp only[af2,and_eq_true,all_eq_true]at this;have⟨⟨h1,h2⟩,h3⟩:=this;refine⟨λt ht=>by have:=h1 t ht;simpa[Nat.blt,Nat.lt_iff_add_one_le]using this,λd hd=>by rw[hd]at h2;simpa[Nat.blt,Nat.lt_iff_add_one_le]using h2,λcs b hc=>by rw[hc]at h3;cases h3⟩
theorem ko.same{n:Nat}{rest:List Value}{Ds:List Nat}{a t:Act}(h:ko n rest Ds a t)(dH:tH n rest ops){i:Nat}{o:Oper}(ho:ops[i]? =some o):
 execOp t.eval o=execOp a.eval o/\Region.wanted o (yielded ops t.tmps)=Region.wanted o (yielded ops a.tmps):=by
 rcases dH.op ho with hr|⟨h1,h2,h3⟩
 have e:t.tmps=a.tmps:=by
  have⟨v0,k1,k2,_⟩:=h.sl;rw[hr,append_nil]at k1;rw[k2,<-k1]
 have ee:t.eval=a.eval:=funext λx=>by cases x<;>simp[Act.eval,e]
 rw[ee,e];exact⟨rfl,rfl⟩;refine⟨execOp_congr o h3 λx hx=>h.eval (.inr λj hj=>h1 j ?_), ?_⟩;subst hj;simp only[Oper.looksAt,mem_append,List.mem_filterMap];exact .inl ⟨.tmp j,by simpa using hx,rfl⟩;unfold Region.wanted;cases hg:o.guard with
 |none=>rfl|some g=>
  have⟨g,b⟩:=g;simp only[];congr 1;unfold yielded;cases hd:(ops[g]?).bind (·.dst)with
  |none=>rfl|some d=>
   have:t.tmps[d]? =a.tmps[d]? :=h.get (.inr (h1 d (by simp[Oper.looksAt,hg,hd])));simp only[Option.bind_some,this]
theorem gR{n:Nat}{rest:List Value}{Ds:List Nat}{Q:Exit->Act->World->Prop}(dH:tH n rest ops)(hQ:∀e a w,Q e a w->e=.normal):∀(l:List Nat) (a t:Act) (w:World),ko n rest Ds a t->wpOps P ops Q l a w->
 wpOps P ops (λe t' w'=>e=.normal/\∃a',Q .normal a' w'/\ko n rest Ds a' t') l t w
 |[],a,t,w,ht,h=>⟨rfl,a,h,ht⟩|i::l,a,t,w,ht,h=>by
  simp only[wpOps]at h ⊢;split at h;rename_i ho;exact gR dH hQ l a t w ht h;rename_i o ho;have⟨e1,e2⟩:=ht.same dH ho;have lV:rest=[]\/∀d,o.dst=some d->d<n:=(dH.op ho).imp id (·.2.1);rw[e2];split at h;rename_i hw;rw[if_pos hw];rcases h with h|⟨_,a0,w0,hq⟩;refine .inl ?_;unfold Oper.wp at *;rw[e1];generalize (execOp a.eval o).run P w=r at *;cases r with
  |ok x w'=>
   cases x<;>simp only[Oper.upon]at h ⊢ <;>first
    |exact gR dH hQ l _ _ _ (ht.put lV _) h|exact gR dH hQ l _ _ _ (ko.put (a:={a with defers:=_::a.defers}) (t:={t with defers:=_::t.defers}) ⟨ht.sl,by simp[ht.df]⟩ lV _) h
    |exact Calls.mono h (λe w'' he=>by
     cases e<;>first
      |exact gR dH hQ l _ _ _ (ht.put lV _) he|(exact(by cases hQ _ _ _ he))
      |(have⟨a0,w0,h2⟩:=he;exact(by cases hQ _ _ _ h2)))
    |exact Rows.mono h (λ_ _ he=>gR dH hQ l _ _ _ (ht.put lV _) he)
  |halt x w'=>cases x<;>simp only[Oper.upon]at h ⊢ <;>exact(by cases hQ _ _ _ h)
  cases hQ _ _ _ hq;rename_i hw;rw[if_neg hw];exact gR dH hQ l _ _ _ (ht.put lV _) h
end
section
variable{ρ aU:Nat->Value}{H H':a8}{G G' O O' O2:Nat->Prop}{w w':World}{P:Program}{S:fA}{Z:aZ}{X:Ctx}{s:St}{a:Act}{K:List au->AV->Prop}{C:bQ->Prop}{ops:Array Oper}{E E':List (Nat×Obj)}
theorem Step.src(h:Step ρ H O w aU H' O' w')(k:∀b,O b->O2 b):Step ρ H O2 w aU H' O' w':=
 ⟨h.yq,h.fj,λb hb=>(h.gf b hb).imp (k b) id,λb hb ho=>h.heap b hb (λh1=>ho (k b h1)),h.size⟩
theorem Kept.sub(h:Kept (X.at G E) w)(hs:∀y∈E',y∈E):Kept (X.at G E') w:=λy hy=>h y (hs y hy)
theorem cq.sub(h:cq (X.at G E) ρ s a w)(hs:∀y∈E',y∈E):cq (X.at G E') ρ s a w:=⟨h.sat,h.size,h.den,h.defers,h.ao,h.jr,h.kept.sub hs⟩
theorem cq.aoi(h:cq (X.at G E) ρ s a w){D:Nat}{o o':Obj}(hx:(D,o)∈E)(hE:∀y∈E',(y∈E/\y.1≠D)\/y=(D,o')):cq (X.at G E') ρ s a (w.putObj D o'):=by
 have⟨hG,hle,hh⟩:=h.kept _ hx;have hs:=h.sat;have br:D<w.heap.size:=(Array.getElem?_eq_some_iff.1 hh).1
 have st:Step ρ s.look (bg ρ s.look G) w ρ s.look (bg ρ s.look G) (w.putObj D o'):=
  ⟨λ_ _ _=>rfl,λ_ o h=>⟨o,h,λc' e' e=>⟨c',e',e,rfl,rfl⟩⟩,λ_ h=>.inl h,λb hb hO=>World.putObj_heap_other (λe=>hO (.inr (e▸hG))),by simp⟩
 have dR:∀b,Own ρ s.look b->(w.putObj D o').heap[b]? =w.heap[b]? :=λb hb=>World.putObj_heap_other (λe=>hs.apart b hb (e▸hG));refine⟨⟨λid o ho=>(hs.obj id o ho).step st (λb ha hb=>dR b ⟨id,o,ho,ha,hb⟩),hs.inj,hs.apart,λb hb=>by rw[World.putObj_size];exact hs.low b hb⟩,h.size,λt=>ag.step st _ _ (h.den t),h.defers,h.ao.trans st,⟨h.jr.os,h.jr.tape,h.jr.output,λb hb hO=> ?_⟩,λy hy=> ?_⟩;rw[World.putObj_heap_other (by have:X.w.heap.size<=D:=hle;have:b<X.w.heap.size:=hb;omega)];exact h.jr.heap b hb hO;rcases hE y hy with⟨h1,h2⟩|rfl;have⟨k1,k2,k3⟩:=h.kept y h1;exact⟨k1,k2,by rw[World.putObj_heap_other h2];exact k3⟩;exact⟨hG,hle,World.putObj_heap_same br⟩
def qj(ρ:Nat->Value)(n:Nat)(u:Value):Nat->Value:=λj=>if j=n then u else ρ j
theorem cq.grow(h:cq (X.at G E) ρ s a w)(o:Obj)(u:Value):
 cq (X.at (λb=>G b\/b=w.heap.size) ((w.heap.size,o)::E)) (qj ρ s.H.length u) ⟨s.tmps,s.H++[.aH]⟩ a (w.alloc o)/\
 Step ρ s.look (bg ρ s.look G) w (qj ρ s.H.length u) (St.look ⟨s.tmps,s.H++[.aH]⟩) (bg (qj ρ s.H.length u) (St.look ⟨s.tmps,s.H++[.aH]⟩) (λb=>G b\/b=w.heap.size)) (w.alloc o):=by
 have hs:=h.sat
 have old:∀{id:Nat} {o:au},(s.H++[.aH])[id]? =some o->(id=s.H.length/\o=.aH)\/(id≠s.H.length/\s.look id=some o):=by
  intro id o ho;have h2:=(List.getElem?_eq_some_iff.1 ho).1;simp only[length_append,length_cons,length_nil]at h2;by_cases dI:id=s.H.length;subst dI;simp at ho;exact .inl ⟨rfl,ho.symm⟩;refine .inr ⟨dI, ?_⟩;rwa[getElem?_append_left (by omega)]at ho
 have br:∀{id:Nat} {o:au},s.look id=some o->id<s.H.length:=λh=>(List.getElem?_eq_some_iff.1 h).1
 have dR:∀b,Own (qj ρ s.H.length u) (St.look ⟨s.tmps,s.H++[.aH]⟩) b->Own ρ s.look b:=by
  rintro b ⟨id,o,ho,ha,hb⟩;rcases old ho with⟨_,rfl⟩|⟨h1,h2⟩;cases ha;rw[qj,if_neg h1]at hb;exact⟨id,o,h2,ha,hb⟩
 have st:Step ρ s.look (bg ρ s.look G) w (qj ρ s.H.length u) (St.look ⟨s.tmps,s.H++[.aH]⟩) (bg (qj ρ s.H.length u) (St.look ⟨s.tmps,s.H++[.aH]⟩) (λb=>G b\/b=w.heap.size)) (w.alloc o):=by
  refine⟨λid o ho=> ?_,λid o ho=> ?_,λb hb=> ?_,λb hb _=>alloc_old hb,by rw[fL];omega⟩;have:=br ho;rw[qj,if_neg (by omega)];have h1:=br ho;exact⟨o,by show(s.H++[.aH])[id]? =_;rw[getElem?_append_left h1];exact ho,λc' e' hc=>⟨c',e',hc,rfl,rfl⟩⟩;rcases hb with hb|hb|hb;exact .inl (.inl (dR b hb));exact .inl (.inr hb);exact .inr (by omega)
 have hle:X.w.heap.size<=w.heap.size:=h.ao.size;refine⟨?_,st⟩;refine⟨⟨λid o' ho=> ?_,λi j oi oj b hi hj ai aj bi bj=> ?_,λb hb hg=> ?_,λb hb=> ?_⟩,h.size,λt=>ag.step st _ _ (h.den t),h.defers,(h.ao.trans st).src (λb hb=>hb.imp id .inl),⟨h.jr.os,h.jr.tape,h.jr.output,λb hb hO=> ?_⟩,λy hy=> ?_⟩;rcases old ho with⟨_,rfl⟩|⟨h1,h2⟩;trivial;rw[qj,if_neg h1];exact(hs.obj id o' h2).step st (λb ha hb=>alloc_old (gX hs ⟨id,o',h2,ha,hb⟩));rcases old hi with⟨_,rfl⟩|⟨h1,h2⟩;cases ai;rcases old hj with⟨_,rfl⟩|⟨h3,h4⟩;cases aj;rw[qj,if_neg h1]at bi;rw[qj,if_neg h3]at bj;exact hs.inj i j oi oj b h2 h4 ai aj bi bj;rcases hg with hg|hg;exact hs.apart b (dR b hb) hg;have:=gX hs (dR b hb);omega;rw[fL];rcases hb with hb|hb;have:=hs.low b hb;omega;omega;rw[alloc_old (show b<w.heap.size from Nat.lt_of_lt_of_le hb hle)];exact h.jr.heap b hb hO;rcases mem_cons.1 hy with rfl|hy;exact⟨.inr rfl,hle,lS⟩;have⟨k1,k2,k3⟩:=h.kept y hy;exact⟨.inl k1,k2,by rw[alloc_old (Array.getElem?_eq_some_iff.1 k3).1];exact k3⟩
theorem ki.asA{L:List au}{tmps:List AV}{r:AV}{v:Value}(ij:∀b,X.G b->G b)(iv:∀b,G b->X.G b\/X.w.heap.size<=b)(hr:cq (X.at G E) ρ ⟨tmps,L⟩ a w)
 (hv:ag ρ (λid=>L[id]?) (bg ρ (λid=>L[id]?) G) w r v) (hK:K L r):ki X K (.returned v) w:=by
 have hs:Sat ρ (λid=>L[id]?) G w:=hr.sat;have hf:Step X.ρ X.H (bg X.ρ X.H G) X.w ρ (λid=>L[id]?) (bg ρ (λid=>L[id]?) G) w:=hr.ao;have less:∀b,bg ρ (λid=>L[id]?) X.G b->bg ρ (λid=>L[id]?) G b:=λb hb=>hb.imp id (ij b);refine⟨v,rfl,L,r,hK,ρ,⟨λid o ho=> ?_,hs.inj,λb hb hg=>hs.apart b hb (ij b hg),λb hb=>hs.low b (ij b hb)⟩, ?_, ?_,hr.jr⟩
 have st:Step ρ (λid=>L[id]?) (bg ρ (λid=>L[id]?) G) w ρ (λid=>L[id]?) (bg ρ (λid=>L[id]?) X.G) w:=
  ⟨λ_ _ _=>rfl,λ_ o h=>⟨o,h,λc' e' e=>⟨c',e',e,rfl,rfl⟩⟩,λb h=>.inl (less b h),λ_ _ _=>rfl,le_refl _⟩
 exact(hs.obj id o ho).step st (λ_ _ _=>rfl)
 have st:Step ρ (λid=>L[id]?) (bg ρ (λid=>L[id]?) G) w ρ (λid=>L[id]?) (bg ρ (λid=>L[id]?) X.G) w:=
  ⟨λ_ _ _=>rfl,λ_ o h=>⟨o,h,λc' e' e=>⟨c',e',e,rfl,rfl⟩⟩,λb h=>.inl (less b h),λ_ _ _=>rfl,le_refl _⟩
 exact hv.step st;refine⟨hf.yq,hf.fj,λb hb=> ?_,λb hb hO=>hr.jr.heap b hb (λho=>hO (.inl ho)),hf.size⟩;rcases hf.gf b (less b hb)with(h1|h1)|h1;exact .inl (.inl h1);rcases iv b h1 with h2|h2;exact .inl (.inr h2);exact .inr h2;exact .inr h1
theorem ab9{fr:Frame}{cs:List Frame}{D:Nat}{Ds:List Deferred}(hm:fr.mode=.returning)(hd:fr.defers=pD D::Ds)(h:w.heap[D]? =some (.deferred (some []))):
 step P (lone fr cs w)=.next (lone {fr with defers:=Ds} cs (w.putObj D (.deferred none))):=by
 have hr:=run_takeDeferred (P:=P) h;exact step_lone_go (by simp[stepG,unwind,hm,hd,pD,Sem.runT_eq,hr,GStep.bare_after])
theorem v8:∀(Ds:List Nat) {ρ:Nat->Value} {E2:List (Nat×Obj)} {a:Act} {w:World} {fr:Frame},((Ds.map (λD=>(D,Obj.deferred (some [])))++E2).map (·.1)).Nodup->
 cq (X.at G (Ds.map (λD=>(D,Obj.deferred (some [])))++E2)) ρ s a w->fr.mode=.returning->fr.defers=Ds.map pD->
 ∃w',cq (X.at G E2) ρ s a w'/\∀cs,Steps P (lone fr cs w) (lone {fr with defers:=[]} cs w')
 |[],ρ,E2,a,w,fr,hn,hr,hm,hd=>⟨w,hr,λcs=>by
    have:fr={fr with defers:=[]}:=by cases fr;simp only[map_nil]at hd;subst hd;rfl
    rw[<-this];exact .refl _ _⟩
 |D::Ds,ρ,E2,a,w,fr,hn,hr,hm,hd=>by
  simp only[map_cons,cons_append,List.nodup_cons]at hn;have jK:(D,Obj.deferred (some []))∈((D::Ds).map (λD=>(D,Obj.deferred (some [])))++E2):=by simp
  have hh:=(hr.kept _ jK).2.2
  have fo:cq (X.at G (Ds.map (λD=>(D,Obj.deferred (some [])))++E2)) ρ s a (w.putObj D (.deferred none)):=by
   refine hr.aoi jK (λy hy=>.inl ⟨by simp only[map_cons,cons_append,mem_cons];exact .inr hy,λe=>hn.1 (e▸List.mem_map_of_mem (f:=Prod.fst) hy)⟩)
  have⟨w',h1,h2⟩:=v8 Ds (fr:={fr with defers:=Ds.map pD}) hn.2 fo hm rfl;exact⟨w',h1,λcs=>.head (ab9 hm hd hh) (h2 cs)⟩
def upE(l:Nat)(o:Obj)(E:List (Nat×Obj)):List (Nat×Obj):=E.map λx=>if x.1=l then(l,o)else x
theorem aca(l:Nat)(o:Obj)(E:List (Nat×Obj)):(upE l o E).map (·.1)=E.map (·.1):=by
 rw[upE,List.map_map];refine List.map_congr_left λx _=> ?_;simp only[Function.comp];split;rename_i h;exact h.symm;rfl
theorem ra{l:Nat}{o:Obj}{E:List (Nat×Obj)}(h:l ∉ E.map (·.1)):upE l o E=E:=by
 rw[upE,show E=E.map id from(List.map_id _).symm,List.map_map];refine List.map_congr_left λx hx=> ?_;simp only[Function.comp,id];rw[if_neg];rintro rfl;exact h (List.mem_map_of_mem hx)
theorem af9{l:Nat}{o:Obj}{E:List (Nat×Obj)}:∀y∈upE l o E,(y∈E/\y.1≠l)\/y=(l,o):=by
 intro y hy;simp only[upE,mem_map]at hy;obtain⟨x,hx,rfl⟩:=hy;split;exact .inr rfl;rename_i cG;exact .inl ⟨hx,cG⟩
theorem mJ(l:Nat)(o:Obj)(E F:List (Nat×Obj)):upE l o (E++F)=upE l o E++upE l o F:=map_append
theorem WfS.len{f0:FuncId}:∀{ds:List tE} {vs:List Value} {E:List (Nat×Obj)} {fs:List Frame},WfS f0 ds vs E fs->vs.length=afZ ds
 |[],vs,E,fs,h=>by rw[h.1];rfl
 |d::ds,vs,E,fs,h=>by
  obtain⟨v0,rv,v2,Ds,E1,E2,b,a,fs2,lv,lE,todo,rfl,rfl,rfl,h1,h2,h3,h4,h5⟩:=h
  have x6:rv.length=gP d.round:=by
   have⟨r,_,h6⟩:=h3.fr;cases hd:d.round<;>rw[hd]at h6<;>simp only[]at h6;rw[h6.1];rfl;obtain⟨l,rfl,_⟩:=h6;rfl
  have hlv:lv.length=gP d.lp.isSome:=by
   cases hd:d.lp<;>rw[hd]at h5<;>simp only[]at h5;rw[h5.1];rfl;obtain⟨l,D,rfl,_⟩:=h5;rfl
  simp only[length_append,length_map,afZ,tE.size,h4.len,x6,hlv,h1,h2];omega
theorem wc{l l':Nat}(h:cr l=cr l'):l=l':=by
 simp only[cr,Value.func.injEq,Fn.yield.injEq]at h;exact h.1
theorem oV{f0:FuncId}{id:Nat}{d:tE}{L:Lp}{st:l7}{cN:List AV}:∀{ds:List tE} {aT:List AV} {vs:List Value} {E:List (Nat×Obj)} {fs:List Frame},
 kg id ds aT=some (d,L,st,cN)->WfS f0 ds vs E fs->(E.map (·.1)).Nodup->(∀t,ag ρ H O w (aT.getD t (.s .bm)) (vs.getD t undef))->
 ∃(l D:Nat) (v0:List Value),ρ id=cr l/\v0.length=d.n/\(l,Obj.loop (st.gg L (d.f.getD f0) v0.toArray D))∈E/\(∀t,t<d.n->ag ρ H O w (cN.getD t (.s .bm)) (v0.getD t undef))/\(aT.length=vs.length->cN.length=d.n)/\
  ∀qD,WfS f0 (jh id qD ds aT) vs (upE l (Obj.loop (qD.gg L (d.f.getD f0) v0.toArray D)) E) fs
 |[],aT,vs,E,fs,h,_,_,_=>by simp[kg]at h
 |e::ds,aT,vs,E,fs,h,hw,hn,hd=>by
  have hw0:=hw;obtain⟨v0,rv,v2,Ds,E1,E2,b,a,fs2,lv,lE,todo,rfl,rfl,rfl,h1,h2,h3,h4,h5⟩:=hw
  have x6:rv.length=gP e.round:=by
   have⟨r,_,h6⟩:=h3.fr;cases hd:e.round<;>rw[hd]at h6<;>simp only[]at h6
   ·rw[h6.1];rfl
   ·obtain⟨l,rfl,_⟩:=h6;rfl
  have hlv:lv.length=gP e.lp.isSome:=by
   cases hd:e.lp<;>rw[hd]at h5<;>simp only[]at h5
   ·rw[h5.1];rfl
   ·obtain⟨l,D,rfl,_⟩:=h5;rfl
  have avo:∀t,ag ρ H O w ((aT.drop e.size).getD t (.s .bm)) (v2.getD t undef):=by
   intro t;have:=hd (e.size+t);have e1:(aT.drop e.size).getD t (.s .bm)=aT.getD (e.size+t) (.s .bm):=by simp[List.getD]
   have e2:(v0++(rv++(Ds.map dT++(lv++v2)))).getD (e.size+t) undef=v2.getD t undef:=by
    rw[show v0++(rv++(Ds.map dT++(lv++v2)))=(v0++(rv++(Ds.map dT++lv)))++v2 from by simp];rw[List.getD,getElem?_append_right (by simp only[length_append,length_map,x6,hlv,h1,h2,tE.size];omega)];rw[show e.size+t - (v0++(rv++(Ds.map dT++lv))).length=t from by simp only[length_append,length_map,x6,hlv,h1,h2,tE.size];omega];rfl
   rw[e1,<-e2];exact this
  have next:(kg id ds (aT.drop e.size)=some (d,L,st,cN))->(∀qD,jh id qD (e::ds) aT=e::jh id qD ds (aT.drop e.size))->
   ∃(l D:Nat) (qk:List Value),ρ id=cr l/\qk.length=d.n/\(l,Obj.loop (st.gg L (d.f.getD f0) qk.toArray D))∈(E1++(lE++E2))/\(∀t,t<d.n->ag ρ H O w (cN.getD t (.s .bm)) (qk.getD t undef))/\(aT.length=(v0++(rv++(Ds.map dT++(lv++v2)))).length->cN.length=d.n)/\
    ∀qD,WfS f0 (jh id qD (e::ds) aT) (v0++(rv++(Ds.map dT++(lv++v2)))) (upE l (Obj.loop (qD.gg L (d.f.getD f0) qk.toArray D)) (E1++(lE++E2))) (b.atR a todo::fs2):=by
   intro hf nS
   have z7:(E2.map (·.1)).Nodup:=by
    rw[map_append,map_append]at hn;exact(nodup_append.1 (nodup_append.1 hn).2.1).2.1
   have⟨l,D,qk,g1,g2,g3,g4,g5,g6⟩:=oV hf h4 z7 avo;have yE:l∈E2.map (·.1):=List.mem_map_of_mem (f:=Prod.fst) g3
   have hl1:l ∉ (E1++lE).map (·.1):=by
    intro hm;rw[<-append_assoc,map_append]at hn;exact(nodup_append.1 hn).2.2 l hm l yE rfl
   rw[map_append,mem_append,not_or]at hl1;refine⟨l,D,qk,g1,g2,by simp[g3],g4,λhl=>g5 ?_,λqD=> ?_⟩
   ·rw[length_drop,hl];simp only[length_append,length_map,x6,hlv,h1,h2,tE.size];omega
   ·rw[nS,mJ,mJ,ra hl1.1,ra hl1.2];exact⟨v0,rv,v2,Ds,E1,_,b,a,fs2,lv,lE,todo,rfl,rfl,rfl,h1,h2,h3,g6 qD,h5⟩
  unfold kg at h;split at h
  ·rename_i L' st0 hlp;rw[hlp]at h5;obtain⟨l,D,rfl,rfl,rfl⟩:=h5;split at h
   ·rename_i j hj;rw[cond_eq_ite]at h;split at h
    ·rename_i akg;have akg:j=id:=Nat.eq_of_beq_eq_true akg;subst akg;simp only[Option.some.injEq,Prod.mk.injEq]at h;obtain⟨rfl,rfl,rfl,rfl⟩:=h
     have jL:(v0++(rv++(Ds.map dT++([cr l]++v2)))).getD (e.n+gP e.round+e.marks) undef=cr l:=by
      rw[show v0++(rv++(Ds.map dT++([cr l]++v2)))=(v0++(rv++Ds.map dT))++(cr l::v2)from by simp];rw[List.getD,getElem?_append_right (by simp only[length_append,length_map,x6,h1,h2];omega)];rw[show e.n+gP e.round+e.marks - (v0++(rv++Ds.map dT)).length=0 from by simp only[length_append,length_map,x6,h1,h2];omega];rfl
     have kI:=hd (e.n+gP e.round+e.marks);rw[hj,jL]at kI;unfold ag aS at kI;refine⟨l,D,v0,kI.1.symm,h1,by simp,λt ht=> ?_,λhl=> ?_,λqD=> ?_⟩
     ·have:=hd t;have e1:(aT.take e.n).getD t (.s .bm)=aT.getD t (.s .bm):=by simp[List.getD,getElem?_take,ht]
      have e2:(v0++(rv++(Ds.map dT++([cr l]++v2)))).getD t undef=v0.getD t undef:=by
       rw[List.getD,getElem?_append_left (by omega)];rfl
      rw[e1,<-e2];exact this
     ·rw[length_take,hl];simp only[length_append,h1];omega
     ·have hs:jh j qD (e::ds) aT={e with lp:=some (L',qD)}::ds:=by
       unfold jh;rw[hlp];simp only[hj,Nat.beq_eq_true_eq,cond_eq_ite,show Nat.beq j j=true from Nat.beq_refl j,if_true]
      rw[hs]
      have hl1:l ∉ E1.map (·.1):=by
       intro hm;rw[map_append]at hn;exact(nodup_append.1 hn).2.2 l hm l (by simp) rfl
      have yE:l ∉ E2.map (·.1):=by
       intro hm;rw[map_append,map_append]at hn;exact(nodup_append.1 (nodup_append.1 hn).2.1).2.2 l (by simp) l hm rfl
      rw[mJ,mJ,ra hl1,ra yE,show upE l (Obj.loop (qD.gg L' (e.f.getD f0) v0.toArray D)) [(l,Obj.loop (st0.gg L' (e.f.getD f0) v0.toArray D))]=[(l,Obj.loop (qD.gg L' (e.f.getD f0) v0.toArray D))]from by simp[upE]];exact⟨v0,rv,v2,Ds,E1,E2,b,a,fs2,_,_,_,rfl,rfl,rfl,h1,h2,h3,h4,⟨l,D,rfl,rfl,rfl⟩⟩
    ·rename_i akg;refine next h (λqD=> ?_)
     rw[show jh id qD (e::ds) aT=_ from by unfold jh;rw[hlp]];simp only[hj,cond_eq_ite,if_neg akg]
   ·rename_i hj;refine next h (λqD=> ?_)
    rw[jh,hlp]
    all_goals (try simp only[])
    all_goals (split<;>first|(rename_i j' jJ;exact absurd jJ (hj j'))|rfl)
  ·rename_i hlp;refine next h (λqD=> ?_)
   rw[show jh id qD (e::ds) aT=_ from by unfold jh;rw[hlp]]
end
section
variable{ρ aU:Nat->Value}{H H':a8}{G G' O O' O2:Nat->Prop}{w w':World}{P:Program}{S:fA}{Z:aZ}{X:Ctx}{s:St}{a:Act}{K:List au->AV->Prop}{C:bQ->Prop}{ops:Array Oper}{E E':List (Nat×Obj)}
structure DP (ρ:Nat->Value) (H:a8) (O:Nat->Prop) (w:World) (T:List AV) (vs:List Value):Prop where
 len:T.length=vs.length
 get:∀t,ag ρ H O w (T.getD t (.s .bm)) (vs.getD t undef)
theorem acb(x:Array Value)(t:Nat):x.getD t undef=x.toList.getD t undef:=by
 rw[getD_eq_getD_getElem?,List.getD,Array.getElem?_toList]
theorem cq.dp(h:cq X ρ s a w):DP ρ s.look (bg ρ s.look X.G) w s.tmps a.tmps.toList:=
 ⟨by rw[h.size];simp,λt=>by rw[<-acb];exact h.den t⟩
theorem cq.cN(h:cq X ρ s a w){T:List AV}{vs:List Value}(hd:DP ρ s.look (bg ρ s.look X.G) w T vs):cq X ρ ⟨T,s.H⟩ ⟨vs.toArray,[]⟩ w:=
 ⟨h.sat,by simpa using hd.len,λt=>by rw[acb];exact hd.get t,rfl,h.ao,h.jr,h.kept⟩
theorem DP.step{T:List AV}{vs:List Value}(h:DP ρ H O w T vs)(st:Step ρ H O w aU H' O' w'):DP aU H' O' w' T vs:=⟨h.len,λt=>(h.get t).step st⟩
theorem DP.nil:DP ρ H O w [] []:=⟨rfl,λt=>by simp only[List.getD_nil];unfold ag;trivial⟩
theorem DP.cons{x:AV}{v:Value}{T:List AV}{vs:List Value}(hx:ag ρ H O w x v)(h:DP ρ H O w T vs):DP ρ H O w (x::T) (v::vs):=
 ⟨by simp[h.len],λt=>by
   cases t with
   |zero=>simpa using hx|succ t=>simpa using h.get t⟩
theorem DP.append{T T':List AV}{vs vs':List Value}(h:DP ρ H O w T vs)(h':DP ρ H O w T' vs'):DP ρ H O w (T++T') (vs++vs'):=by
 refine⟨by simp[h.len,h'.len],λt=> ?_⟩;by_cases ht:t<T.length;have:=h.get t;simp only[List.getD]at this ⊢;rwa[getElem?_append_left ht,getElem?_append_left (h.len▸ht)];have:=h'.get (t - T.length);simp only[List.getD]at this ⊢;rwa[getElem?_append_right (by omega),getElem?_append_right (by have:=h.len;omega),<-h.len]
theorem DP.drop{T:List AV}{vs:List Value}(h:DP ρ H O w T vs)(n:Nat):DP ρ H O w (T.drop n) (vs.drop n):=
 ⟨by simp[h.len],λt=>by have:=h.get (n+t);simpa[List.getD]using this⟩
theorem DP.take{T:List AV}{vs:List Value}(h:DP ρ H O w T vs)(n:Nat):DP ρ H O w (T.take n) (vs.take n):=by
 refine⟨by simp[h.len],λt=> ?_⟩;have:=h.get t;simp only[List.getD,getElem?_take]at this ⊢;split;exact this;unfold ag;trivial
theorem DP.set{T:List AV}{vs:List Value}(h:DP ρ H O w T vs)(d:Nat){x:AV}{v:Value}(hx:ag ρ H O w x v):DP ρ H O w (T.set d x) (vs.set d v):=by
 refine⟨by simp[h.len],λt=> ?_⟩;rw[cV,cV,h.len];split;exact hx;exact h.get t
theorem DP.asB(n:Nat):DP ρ H O w (replicate n (.bd [])) (replicate n undef):=by
 induction n with
 |zero=>exact DP.nil|succ n ih=>exact DP.cons cX ih
theorem DP.ofL:∀{aT:List AV} {vs:List Value},bI ρ H O w aT vs->DP ρ H O w aT vs
 |[],vs,h=>by rw[bp.1 h];exact DP.nil
 |x::aT,vs,h=>by
  obtain⟨v,rest,rfl,h1,h2⟩:=aJ.1 h;exact DP.cons h1 (DP.ofL h2)
theorem DP.split{T1 T2:List AV}{v1 v2:List Value}(h:DP ρ H O w (T1++T2) (v1++v2))(hl:T1.length=v1.length):DP ρ H O w T1 v1/\DP ρ H O w T2 v2:=by
 have h1:=h.take T1.length;have h2:=h.drop T1.length;rw[List.take_left' rfl,hl,List.take_left' rfl]at h1;rw[List.drop_left' rfl,hl,List.drop_left' rfl]at h2;exact⟨h1,h2⟩
theorem DP.lB:∀(ps:List Tmp) {args:List AV} {us:List Value} {T:List AV} {vs:List Value},DP ρ H O w T vs->bI ρ H O w args us->DP ρ H O w (lB T ps args) (lB vs ps us)
 |[],args,us,T,vs,h,_=>h|p::ps,[],us,T,vs,h,hl=>by rw[bp.1 hl];exact h
 |p::ps,x::args,us,T,vs,h,hl=>by
  obtain⟨u,rest,rfl,h1,h2⟩:=aJ.1 hl;exact DP.lB ps (h.set p h1) h2
theorem aeX:∀(ps:List Tmp) (us:List Value) (vs:List Value),(ps.toArray.zip us.toArray).foldl (λ(tmps:Array Value) (x:Tmp×Value)=>tmps.setIfInBounds x.1 x.2) vs.toArray=(lB vs ps us).toArray:=by
 intro ps us vs;rw[<-Array.foldl_toList];simp only[Array.toList_zip]
 have:∀(l:List (Tmp×Value)) (vs:List Value),l.foldl (λ(tmps:Array Value) (x:Tmp×Value)=>tmps.setIfInBounds x.1 x.2) vs.toArray=(l.foldl (λt x=>t.set x.1 x.2) vs).toArray:=by
  intro l
  induction l with
  |nil=>intro vs;rfl
  |cons x l ih=>intro vs;simp only[List.foldl_cons,List.setIfInBounds_toArray];exact ih _
 exact this _ _
theorem aoj{o:Oper}{ev:Operand->AV}{e:Operand->Value}{g:AV}{args:List AV}(h:qZ o ev=some (g,args))(hd:∀x∈o.op.operands,ag ρ H O w (ev x) (e x)):
 ∃(vf:Value) (us:List Value),ag ρ H O w g vf/\bI ρ H O w args us/\
  (∀f vs,vf=.func (.func f) #[] vs.toArray->iY P f=true->(execOp e o).run P w=.ok (.enter f (us++vs).toArray) w)/\
  (∀l,vf=cr l->∀r,w.heap[l]? =some (.loop r)->us.length=r.params.size->(execOp e o).run P w=.ok (.round l r.fn ((r.params.zip us.toArray).foldl (λtmps (t,a)=>tmps.setIfInBounds t a) r.tmps) r.assign r.body) w):=by
 unfold qZ at h;split at h;rename_i c ho;split at h;rename_i f hc;simp only[Option.some.injEq,Prod.mk.injEq]at h;obtain⟨rfl,rfl⟩:=h;have hf:=lT (hd f (by simp[ho,Op.operands,Call.operands,hc]));have hl:=n6 c.args.toList (ev:=λx=>pz (ev x)) (e:=e) (λx hx=>lT (hd x (by simp[ho,Op.operands,Call.operands,hc,Array.mem_toList_iff.1 hx])));have e1:(c.args.toList.map e).toArray=c.args.map e:=by apply toList_inj.1;simp
 refine⟨e f,c.args.toList.map e,hf,hl,λg vs hv gm=> ?_,λl hv r hr hs=> ?_⟩;have e2:(c.args.toList.map e++vs).toArray=c.args.map e++vs.toArray:=by apply toList_inj.1;simp
 rw[e2];simp[execOp,ho,resolve,hc,hv,Deferred.ofValue,invoke,hJ gm];rw[e1];have hy:=run_yield (P:=P) (args:=c.args.map e) hr (by rw[<-hs];simp);simp only[cr]at hv;simp[execOp,ho,resolve,hc,hv,Deferred.ofValue,invoke,hy];cases h;cases h
def fz(P:Program)(f:FuncId)(R:Ending->World->Prop)(top:Frame)(fs:List Frame)(w:World):Prop:=
 ∀cs,∃e w' fr,R e w'/\Comes P (lone top (fs++cs) w) (lone fr cs w') e/\fr.fn=f/\fr.leaving P w' e
theorem fz.steps{f:FuncId}{R:Ending->World->Prop}{top avp:Frame}{fs nn:List Frame}(hs:∀cs,Steps P (lone top (fs++cs) w) (lone avp (nn++cs) w'))(h:fz P f R avp nn w'):fz P f R top fs w:=by
 intro cs;have⟨e,w2,fr,h1,h2,h3⟩:=h cs;exact⟨e,w2,fr,h1,Comes.of_steps (hs cs) h2,h3⟩
theorem tI{f0 f:FuncId}{c:bQ}{args:List AV}{us:List Value}{wait:tE}{go:bQ->Tree}{fs:List Frame}(h:(n9 P c f args wait go).bt K C)(oh:∀c',(go c').bt K C->Safe P f0 X K c')
 (ij:∀b,X.G b->G b) (iv:∀b,G b->X.G b\/X.w.heap.size<=b) (hr:cq (X.at G E) ρ ⟨c.tmps,c.H⟩ a w) (hl:bI ρ (St.look ⟨c.tmps,c.H⟩) (bg ρ (St.look ⟨c.tmps,c.H⟩) G) w args us) (hn:(E.map (·.1)).Nodup)
 (hw:WfS f0 (wait::c.stk.below) a.tmps.toList E fs):iY P f=true/\fz P f0 (ki X K) (Frame.enter P f us.toArray .normal) fs w:=by
 unfold n9 at h;split at h;rename_i g hg;rw[cond_eq_ite]at h;split at h;rename_i hb;simp only[and_eq_true]at hb;have⟨gm,bx⟩:=hb;refine⟨gm, ?_⟩;have bx:args.length<=g.ntmps:=le_of_ble_eq_true bx;have hul:us.length=args.length:=(DP.ofL hl).len.symm
 have hb:g.body.isSome=true:=by
  unfold iY at gm;rw[hg]at gm;simp only[and_eq_true]at gm;exact gm.1
 have⟨cd,hcd⟩:=isSome_iff_exists.1 hb;have fo:=hr.cN (((DP.ofL hl).append (DP.asB (g.ntmps - args.length))).append hr.dp);have key:=oh _ h G E ρ _ w ij iv fo {(default:Frame)with fn:=f,kind:=.normal,roundOf:=none} {tmps:=(us++replicate (g.ntmps - args.length) undef).toArray,defers:=[]} fs
  ⟨hn,us++replicate (g.ntmps - args.length) undef,[],a.tmps.toList,[],[],E,by simp,rfl,rfl,⟨⟨none,rfl,rfl,rfl⟩,rfl,rfl⟩,hw⟩
 have fO:Frame.enter P f us.toArray .normal=Frame.atR {(default:Frame)with fn:=f,kind:=.normal,roundOf:=none} {tmps:=(us++replicate (g.ntmps - args.length) undef).toArray,defers:=[]} [.code (g.body.getD .skip)]:=by
  simp[Frame.enter,Frame.atR,hg,hcd,hul]
 rw[fO];exact key;exact h.elim;exact h.elim
theorem acd{f0:FuncId}{c:bQ}{id:Nat}{args:List AV}{us:List Value}{wait:tE}{go:bQ->Tree}{fs:List Frame}{E0 E1:List (Nat×Obj)}{vs1:List Value}{fs1:List Frame}{v:Value}(h:(aap c id args wait go).bt K C)(oh:∀c',(go c').bt K C->Safe P f0 X K c')
 (ij:∀b,X.G b->G b) (iv:∀b,G b->X.G b\/X.w.heap.size<=b) (hr:cq (X.at G E) ρ ⟨c.tmps,c.H⟩ a w) (hl:bI ρ (St.look ⟨c.tmps,c.H⟩) (bg ρ (St.look ⟨c.tmps,c.H⟩) G) w args us) (hn:(E.map (·.1)).Nodup)
 (hw:WfS f0 (wait::c.stk.below) a.tmps.toList E fs) (hE:E=E0++E1) (hvs:a.tmps.toList.drop (c.n+c.stk.extra)=vs1) (hb:WfS f0 c.stk.below vs1 E1 fs1) (avq:ag ρ (St.look ⟨c.tmps,c.H⟩) (bg ρ (St.look ⟨c.tmps,c.H⟩) G) w (.tag id) v):
 ∃l r,v=cr l/\w.heap[l]? =some (.loop r)/\us.length=r.params.size/\
  fz P f0 (ki X K) (Frame.round l r.fn ((r.params.zip us.toArray).foldl (λtmps (t,a)=>tmps.setIfInBounds t a) r.tmps) r.assign r.body .normal) fs w:=by
 unfold aap at h;split at h;rename_i d L st cN hf;rw[cond_eq_ite]at h;split at h;rename_i hb1;simp only[and_eq_true]at hb1;have bx:args.length=L.ps.length:=Nat.eq_of_beq_eq_true hb1.1
 have hn1:(E1.map (·.1)).Nodup:=by
  rw[hE,map_append]at hn;exact(nodup_append.1 hn).2.1
 have hdp:=hr.dp.drop (c.n+c.stk.extra);rw[hvs]at hdp;have⟨l,D,v0,g1,g2,g3,g4,g5,g6⟩:=oV hf hb hn1 hdp.get;have kI:=avq;unfold ag aS at kI;have avr:cN.length=d.n:=g5 hdp.len;have jK:(l,Obj.loop (st.gg L (d.f.getD f0) v0.toArray D))∈E:=by rw[hE];exact List.mem_append_right _ g3
 have jf:=(hr.kept _ jK).2.2;have hul:us.length=args.length:=(DP.ofL hl).len.symm;refine⟨l,st.gg L (d.f.getD f0) v0.toArray D,kI.1.trans g1,jf,by rw[hul,bx];simp[l7.gg], ?_⟩
 have hsl:DP ρ (St.look ⟨c.tmps,c.H⟩) (bg ρ (St.look ⟨c.tmps,c.H⟩) G) w cN v0:=⟨by rw[avr,g2],λt=>by
  by_cases ht:t<d.n;exact g4 t ht;have e1:cN.getD t (.s .bm)=.s .bm:=by rw[List.getD,getElem?_eq_none (by omega)];rfl
  rw[e1];unfold ag;trivial⟩
 have fo:=hr.cN ((hsl.lB L.ps hl).append (DP.cons avq hr.dp));have hv:v=cr l:=kI.1.trans g1;have key:=oh _ h G E ρ _ w ij iv fo {(default:Frame)with fn:=d.f.getD f0,kind:=.normal,roundOf:=some l} {tmps:=(lB v0 L.ps us).toArray,defers:=[]} fs
  ⟨hn,lB v0 L.ps us,[v],a.tmps.toList,[],[],E,by simp,rfl,rfl,⟨⟨some l,rfl,l,by rw[hv],rfl⟩,rfl,rfl⟩,hw⟩
 have dV:Frame.round l (st.gg L (d.f.getD f0) v0.toArray D).fn (((st.gg L (d.f.getD f0) v0.toArray D).params.zip us.toArray).foldl (λtmps (t,a)=>tmps.setIfInBounds t a) (st.gg L (d.f.getD f0) v0.toArray D).tmps) (st.gg L (d.f.getD f0) v0.toArray D).assign (st.gg L (d.f.getD f0) v0.toArray D).body .normal
  =Frame.atR {(default:Frame)with fn:=d.f.getD f0,kind:=.normal,roundOf:=some l} {tmps:=(lB v0 L.ps us).toArray,defers:=[]} [.code L.asg,.beginRound,.code L.body]:=by
  have:=aeX L.ps us v0;simp only[l7.gg,Frame.round,Frame.atR];rw[<-this]
 rw[dV];exact key;exact h.elim;exact h.elim
end
section
variable{ρ aU:Nat->Value}{H H':a8}{G O O':Nat->Prop}{w w':World}{P:Program}{S:fA}{Z:aZ}{X:Ctx}{s:St}{a:Act}{K:List au->AV->Prop}{C:bQ->Prop}
theorem ace{t:TypeId}{va v:Value}{w':World}(h:(Instr.loadAt t va).run P w=.ok v w'):(do loadVar t (<-asAddr va):Sem Value).run P w=.ok v w':=by
 cases va with
 |pointer o=>
  cases o with
  |none=>simp[Instr.loadAt,Instr.sureAddr]at h|some x=>simpa[Instr.loadAt,Instr.sureAddr,asAddr]using h
 |_=>simp[Instr.loadAt,Instr.sureAddr]at h
theorem oo(h:cq X ρ s a w):∀(rs:List ResultVar) {vs:List AV},gp P s rs=some vs->
 ∃us:List Value,(rs.mapM (m:=Sem) λ|.tmp t=>pure (a.tmps.getD t undef)|.cell x t=>do loadVar t (<-asAddr (a.tmps.getD x undef))).run P w=.ok us w/\bI ρ s.look (bg ρ s.look X.G) w vs us
 |[],vs,hv=>by
  simp only[gp,Option.some.injEq]at hv;subst hv;exact⟨[],by simp,bp.2 rfl⟩
 |.tmp t::rs,vs,hv=>by
  simp only[gp,map_eq_some_iff]at hv;obtain⟨vs',h1,rfl⟩:=hv;have⟨us,h2,h3⟩:=oo h rs h1;refine⟨a.tmps.getD t undef::us, ?_,aJ.2 ⟨_,_,rfl,h.den t,h3⟩⟩;simp only[List.mapM_cons,Sem.run_bind,Sem.run_pure,Result.andThen_ok,h2]
 |.cell t T::rs,vs,hv=>by
  simp only[gp]at hv;split at hv;rename_i r vs' hr hrs;split at hv;rename_i e1 e2 e3;simp only[Option.some.injEq]at hv;subst hv;have⟨us,h2,h3⟩:=oo h rs hrs;have⟨_,_,v,h4,h5⟩:=abI hr (by rw[e1];trivial) h.sat (h.den t);refine⟨v::us, ?_,aJ.2 ⟨_,_,rfl,h5 0,h3⟩⟩;have h6:=ace h4;simp only[List.mapM_cons];rw[Sem.run_bind,h6];simp only[Result.andThen_ok,Sem.run_bind,h2,Sem.run_pure];cases hv;cases hv
theorem aeY{fn:Func}(h:cq X ρ s a w){vs:List AV}(hv:gp P s fn.results.toList=some vs):∃v,(results fn a.tmps).run P w=.ok v w/\ag ρ s.look (bg ρ s.look X.G) w (oneOf vs) v:=by
 have⟨us,h1,h2⟩:=oo h _ hv
 have key:(results fn a.tmps).run P w=.ok (if h:us.toArray.size=1 then us.toArray[0]else .tuple us.toArray) w:=by
  unfold results;rw[Array.mapM_eq_mapM_toList];simp only[Sem.run_bind,Sem.run_map];erw [h1];rfl
 refine⟨_,key, ?_⟩;unfold oneOf;split;rename_i x;obtain⟨v,rest,rfl,h3,h4⟩:=aJ.1 h2;obtain rfl:=bp.1 h4;simpa using h3;rename_i cG
 have:¬us.toArray.size=1:=by
  intro h0;cases us with
  |nil=>simp at h0|cons u us=>
   cases us with
   |nil=>
    cases vs with
    |nil=>have:=bp.1 h2;cases this
    |cons y ys=>
     have⟨v,rest,e,h3,h4⟩:=aJ.1 h2;cases e;cases ys with
     |nil=>exact cG y rfl|cons z zs=>
      have⟨v',avs,e',_⟩:=aJ.1 h4;cases e'
   |cons _ _=>simp at h0
 rw[dif_neg this];unfold ag;exact⟨us,rfl,h2⟩
end
section
variable{ρ aU:Nat->Value}{H H':a8}{G G' O O' O2:Nat->Prop}{w w':World}{P:Program}{S:fA}{Z:aZ}{X:Ctx}{s:St}{a:Act}{K:List au->AV->Prop}{C:bQ->Prop}{ops:Array Oper}{E E':List (Nat×Obj)}
theorem aeZ{T:List AV}{vs:List Value}(h:DP ρ H O w T vs)(dst:Option Tmp){x:AV}{v:Value}(hx:ag ρ H O w x v):DP ρ H O w (db T dst x) (match dst with|some d=>vs.set d v|none=>vs):=by
 cases dst with
 |none=>exact h|some d=>exact h.set d hx
theorem tJ{f0:FuncId}{c:bQ}{v:AV}{u:Value}{below:List tE}{go:bQ->Tree}{vs1:List Value}{fs:List Frame}(h:(resume c v below go).bt K C)(oh:∀c',(go c').bt K C->Safe P f0 X K c')
 (ij:∀b,X.G b->G b) (iv:∀b,G b->X.G b\/X.w.heap.size<=b) (hr:cq (X.at G E) ρ ⟨c.tmps,c.H⟩ a w) (hvs:a.tmps.toList.drop (c.n+c.stk.extra)=vs1) (hb:WfS f0 below vs1 E fs) (hn:(E.map (·.1)).Nodup)
 (hv:ag ρ (St.look ⟨c.tmps,c.H⟩) (bg ρ (St.look ⟨c.tmps,c.H⟩) G) w v u):∃fr fs1,fs=fr::fs1/\fz P f0 (ki X K) (fr.finish u) fs1 w:=by
 unfold resume at h;split at h;rename_i d ds;simp only[]at h;split at h;rename_i ops i rest td hlp nG;simp only[cond_eq_ite]at h;split at h;rename_i lV;have⟨v0,rv,v2,Ds,E1,E2,b,t,fs2,lv,lE,todo,e1,e2,e3,h1,h2,h3,h4,h5⟩:=hb;rw[hlp]at h5;obtain⟨rfl,rfl,rfl⟩:=h5;rw[nG]at e3;refine⟨_,_,e3, ?_⟩;rw[Frame.finish_atR];have hdp:=aeZ (hr.dp.drop (c.n+c.stk.extra)) ((ops[i]?).bind (·.dst)) hv;have fo:=hr.cN hdp
 have hdn:∀d',(ops[i]?).bind (·.dst)=some d'->d'<v0.length:=λd' hd=>by
  rw[hd]at lV;rw[h1];simpa[Nat.blt,Nat.lt_iff_add_one_le]using lV
 refine oh _ h G E ρ _ w ij iv fo b (t.put ((ops[i]?).bind (·.dst)) u) fs2 ⟨hn,match(ops[i]?).bind (·.dst)with|some d'=>v0.set d' u|none=>v0,rv,v2,Ds,E1,E2, ?_,by rw[e2];rfl,h2,⟨h3.fr, ?_,h3.ghost⟩,h4⟩;rw[hvs,e1];cases hd:(ops[i]?).bind (·.dst)with
 |none=>simp|some d'=>
  simp only[List.toList_toArray];rw[List.set_append_left _ _ (hdn d' hd)];simp
 rw[h3.act];cases hd:(ops[i]?).bind (·.dst)with
 |none=>rfl|some d'=>simp[Act.put]
 exact h.elim;exact h.elim;exact h.elim
theorem oW{f0:FuncId}{c:bQ}{vs:List Value}{v0 rv v2:List Value}{Ds:List Nat}{E1 E2:List (Nat×Obj)}{b:Frame}{t:Act}{fs:List Frame}(hl:c.tmps.length=vs.length)(e:vs=v0++(rv++(Ds.map dT++v2)))(hd:Ds.length=c.stk.marks)
 (h3:aj9 f0 c.stk.round v0 rv Ds E1 b t) {f1:FuncId} (h4:WfS f1 c.stk.below v2 E2 fs):v0.length=c.n/\rv.length=gP c.stk.round/\vs.drop (c.n+c.stk.extra)=v2:=by
 have x6:rv.length=gP c.stk.round:=by
  have⟨r,_,h6⟩:=h3.fr;cases hd:c.stk.round<;>rw[hd]at h6<;>simp only[]at h6;rw[h6.1];rfl;obtain⟨l,rfl,_⟩:=h6;rfl
 have h0:v0.length=c.n:=by
  unfold bQ.n;rw[hl,e];simp only[length_append,length_map,x6,hd,h4.len,yJ.extra];omega
 refine⟨h0,x6, ?_⟩;rw[e,show v0++(rv++(Ds.map dT++v2))=(v0++(rv++Ds.map dT))++v2 from by simp];exact List.drop_left' (by simp only[length_append,length_map,x6,hd,h0,yJ.extra])
theorem ae0{f0:FuncId}{c:bQ}{fn g:Func}{vs:List AV}{go:bQ->Tree}{b:Frame}{t:Act}{fs:List Frame}{todo:List Item}(hf:P.funcs[f0]? =some fn)(hg:c.stk.fn P fn=some g)(dV:c.stk.round=false)
 (aeS:gp P ⟨c.tmps.take c.n,c.H⟩ g.results.toList=some vs) (h:(af3 c (oneOf vs) go).bt K C) (oh:∀c',(go c').bt K C->Safe P f0 X K c')
 (ij:∀b,X.G b->G b) (iv:∀b,G b->X.G b\/X.w.heap.size<=b) (hr:cq (X.at G E) ρ ⟨c.tmps,c.H⟩ a w) (hw:Wf f0 c.stk a.tmps.toList E b t fs):
 fz P f0 (ki X K) {b.atR t todo with mode:=.returning} fs w:=by
 obtain⟨hn,v0,rv,v2,Ds,E1,E2,e1,rfl,hd,h3,h4⟩:=hw;have⟨l0,l1,l2⟩:=oW hr.dp.len e1 hd h3 h4;have hgE:=h3.ghost;subst hgE;have hb:=h3.fr;rw[dV]at hb;obtain⟨r,rfl,x6,hrr⟩:=hb;subst x6 hrr;have asC:=h3.act;subst asC;have⟨w',fo,ny⟩:=v8 (P:=P) Ds (fr:={Frame.atR {(default:Frame)with fn:=c.stk.f.getD f0,kind:=.normal,roundOf:=none} {tmps:=v0.toArray,defers:=Ds.map pD} todo with mode:=.returning}) hn hr rfl rfl
 have z7:(E2.map (·.1)).Nodup:=by
  rw[map_append]at hn;exact(nodup_append.1 hn).2.1
 have uw:DP ρ (St.look ⟨c.tmps,c.H⟩) (bg ρ (St.look ⟨c.tmps,c.H⟩) G) w' (c.tmps.take c.n) v0:=by
  have:=fo.dp.take c.n;rw[e1,List.take_left' l0]at this;exact this
 have hrt:=fo.cN uw;have⟨u,iD,kI⟩:=aeY (fn:=g) hrt aeS
 have hfn:P.funcs[c.stk.f.getD f0]? =some g:=by
  unfold yJ.fn at hg;split at hg;rename_i h0;rw[h0];cases hg;exact hf;rename_i g' h0;rw[h0];exact hg
 let fr:Frame:={Frame.atR {(default:Frame)with fn:=c.stk.f.getD f0,kind:=.normal,roundOf:=none} {tmps:=v0.toArray,defers:=Ds.map pD} todo with mode:=.returning,defers:=[]};have qi:fr.leaving P w' (.returned u):=⟨rfl,rfl,rfl,g,hfn,iD⟩;refine fz.steps (λcs=>ny (fs++cs)) ?_;show fz P f0 (ki X K) fr fs w';have aok:a.tmps.toList.drop (c.n+c.stk.extra)=v2:=l2;unfold af3 at h;split at h;rename_i asD;rw[asD]at h4;obtain⟨_,_,rfl⟩:=h4;intro cs;rw[cond_eq_ite]at h;split at h;rename_i hk;refine⟨.returned u,w',fr,ki.asA ij iv fo kI h,Steps.refl _ _, ?_,qi⟩;show c.stk.f.getD f0=f0;rw[Option.isNone_iff_eq_none.1 hk];rfl;exact h.elim;rename_i d ds asD;split at h;rename_i hlp;obtain⟨fr1,fs1,rfl,key⟩:=tJ h oh ij iv fo aok h4 z7 kI;exact fz.steps (λcs=>.one (step_leave_returned qi)) key;exact h.elim;rename_i L st ayl hlp;rw[asD]at h4;have⟨qk,rv',v2',Ds',E1',E2',b',t',fs2,lv,lE,azL,e1',e2',e3',h1',h2',h3',h4',h5'⟩:=h4;rw[hlp]at h5';obtain⟨l,D,rfl,rfl,rfl⟩:=h5';subst e3' e2';have jK:(l,Obj.loop (st.gg L (d.f.getD f0) qk.toArray D))∈(E1'++([(l,Obj.loop (st.gg L (d.f.getD f0) qk.toArray D))]++E2')):=by simp
 have jf:=(fo.kept _ jK).2.2
 have hnb:(st.gg L (d.f.getD f0) qk.toArray D).state≠.busy:=by
  unfold l7.gg;cases st with
  |busy=>exact absurd rfl (ayl)|ready=>simp|done c=>simp
 have aol:=run_endLoop (P:=P) jf hnb
 have hl1:l ∉ E1'.map (·.1):=by
  intro hm;rw[map_append]at z7;exact(nodup_append.1 z7).2.2 l hm l (by simp) rfl
 have yE:l ∉ E2'.map (·.1):=by
  intro hm;rw[map_append,map_append]at z7;exact(nodup_append.1 (nodup_append.1 z7).2.1).2.2 l (by simp) l hm rfl
 have hr2:cq (X.at G (E1'++E2')) ρ ⟨c.tmps,c.H⟩ a (w'.putObj l (.loop {st.gg L (d.f.getD f0) qk.toArray D with state:=.exhausted})):=
  fo.aoi jK (λy hy=>.inl (by
   rcases mem_append.1 hy with h6|h6;exact⟨by simp[h6],λe=>hl1 (e▸List.mem_map_of_mem (f:=Prod.fst) h6)⟩;exact⟨by simp[h6],λe=>yE (e▸List.mem_map_of_mem (f:=Prod.fst) h6)⟩))
 have hn3:((E1'++E2').map (·.1)).Nodup:=by
  rw[map_append,map_append]at z7;rw[map_append];have⟨n1,n2,n3⟩:=nodup_append.1 z7;exact nodup_append.2 ⟨n1,(nodup_append.1 n2).2.1,λx hx y hy=>n3 x hx y (List.mem_append_right _ hy)⟩
 have hdp:DP ρ (St.look ⟨c.tmps,c.H⟩) (bg ρ (St.look ⟨c.tmps,c.H⟩) G) (w'.putObj l (.loop {st.gg L (d.f.getD f0) qk.toArray D with state:=.exhausted}))
  ((c.tmps.drop (c.n+c.stk.extra)).take (d.n+gP d.round+d.marks)++(c.tmps.drop (c.n+c.stk.extra)).drop (d.n+gP d.round+d.marks+1)) (qk++(rv'++(Ds'.map dT++v2'))):=by
  have avt:rv'.length=gP d.round:=by
   have⟨r,_,h6⟩:=h3'.fr;cases hd:d.round<;>rw[hd]at h6<;>simp only[]at h6;rw[h6.1];rfl;obtain⟨l,rfl,_⟩:=h6;rfl
  have h6:=hr2.dp.drop (c.n+c.stk.extra);rw[aok,e1']at h6;have h7:=(h6.take (d.n+gP d.round+d.marks)).append (h6.drop (d.n+gP d.round+d.marks+1));rw[show qk++(rv'++(Ds'.map dT++([cr l]++v2')))=(qk++(rv'++Ds'.map dT))++([cr l]++v2')from by simp]at h7
  rw[List.take_left' (by simp only[length_append,length_map,avt,h1',h2'];omega),show(qk++(rv'++Ds'.map dT))++([cr l]++v2')=((qk++(rv'++Ds'.map dT))++[cr l])++v2' from by simp,
   List.drop_left' (by simp only[length_append,length_map,avt,h1',h2',length_cons,length_nil];omega)]at h7
  rw[append_assoc,append_assoc]at h7;exact h7
 have hr3:=hr2.cN hdp;have key:=oh _ h G (E1'++E2') ρ _ _ ij iv hr3 b' t' fs2 ⟨hn3,qk,rv',v2',Ds',E1',E2',by simp,rfl,h2',h3',h4'⟩;refine fz.steps (λcs=>.head (step_leave_returned qi) ?_) key;rw[finish_atR_inRangeFunc];refine .one ?_;have:=stepR_endRangeFunc (P:=P) (b:=b') (a:=t') (k:=d.todo) (cs:=fs2++cs) aol;rw[List.append_eq];rw[this];cases st<;>rfl
theorem ql{f0:FuncId}{c:bQ}{jump:Option Code}{go:bQ->Tree}{b:Frame}{t:Act}{fs:List Frame}{todo:List Item}(dV:c.stk.round=true)
 (h:(ab4 c jump go).bt K C) (oh:∀c',(go c').bt K C->Safe P f0 X K c')
 (ij:∀b,X.G b->G b) (iv:∀b,G b->X.G b\/X.w.heap.size<=b) (hr:cq (X.at G E) ρ ⟨c.tmps,c.H⟩ a w) (hw:Wf f0 c.stk a.tmps.toList E b t fs)
 (avu:∀(l:Nat) (w':World) (c0:Frame) (cs:List Frame),b.roundOf=some l->b.kind=.normal->(Instr.endRound l jump).run P w=.ok (.bool jump.isNone) w'->step P (lone (b.atR t todo) (c0::cs) w)=.next (lone (c0.finish (.bool jump.isNone)) cs w')):
 fz P f0 (ki X K) (b.atR t todo) fs w:=by
 obtain⟨hn,v0,rv,v2,Ds,E1,E2,e1,rfl,hd,h3,h4⟩:=hw;have⟨l0,l1,l2⟩:=oW hr.dp.len e1 hd h3 h4;have hb:=h3.fr;rw[dV]at hb;obtain⟨r,rfl,l,x6,hrr⟩:=hb;subst x6 hrr;unfold ab4 at h;split at h;rename_i id dI;rw[cond_eq_ite]at h;split at h;rename_i hm
 have hD0:Ds=[]:=by
  have:=Nat.eq_of_beq_eq_true hm;exact List.eq_nil_of_length_eq_zero (hd.trans this)
 subst hD0;have hgE:E1=[]:=h3.ghost;subst hgE;split at h;rename_i y hf;have⟨d,L,st,cN⟩:=y;have hdp:=hr.dp.drop (c.n+c.stk.extra);rw[l2]at hdp;have z7:(E2.map (·.1)).Nodup:=by simpa using hn
 have⟨l',D,qk,g1,g2,g3,g4,g5,g6⟩:=oV hf h4 z7 hdp.get
 have jL:a.tmps.toList.getD c.n undef=cr l:=by
  rw[e1,List.getD,getElem?_append_right (by omega),show c.n - v0.length=0 from by omega];rfl
 have kI:=hr.dp.get c.n;rw[dI,jL]at kI;unfold ag aS at kI;have hll:l'=l:=wc (g1.symm.trans kI.1.symm);subst hll;have jf:=(hr.kept _ (show _∈([]++E2)from g3)).2.2;have aol:=run_endRound (P:=P) jump jf
 have aym:({st.gg L (d.f.getD f0) qk.toArray D with state:=if jump.isNone then .ready else .done,pending:=jump}:Loop)=(match jump with|none=>l7.ready|some j=>l7.done j).gg L (d.f.getD f0) qk.toArray D:=by
  cases jump<;>rfl
 rw[aym]at aol
 have hr2:cq (X.at G (upE l' (Obj.loop ((match jump with|none=>l7.ready|some j=>l7.done j).gg L (d.f.getD f0) qk.toArray D)) E2)) ρ ⟨c.tmps,c.H⟩ a (w.putObj l' (Obj.loop ((match jump with|none=>l7.ready|some j=>l7.done j).gg L (d.f.getD f0) qk.toArray D))):=
  hr.aoi (show(l',Obj.loop (st.gg L (d.f.getD f0) qk.toArray D))∈([]++E2)from g3) (λy hy=>by
   rcases af9 y hy with h6|h6;exact .inl h6;exact .inr h6)
 obtain⟨fr1,fs1,rfl,key⟩:=tJ (u:=.bool jump.isNone) h oh ij iv hr2 l2 (g6 _) (by rw[aca];exact z7) (aK (.aN _));exact fz.steps (λcs=>.one (avu l' _ fr1 (fs1++cs) rfl rfl aol)) key;exact h.elim;exact h.elim;exact h.elim
theorem tK{f0 f:FuncId}{c:bQ}{dh:List AV}{cvs:List Value}{L:Lp}{td:List Item}{go:bQ->Tree}{b:Frame}{t:Act}{fs:List Frame}{g:Operand}{asg body:Code}{ps:Array Tmp}(hL:L=⟨ps.toList,asg,body⟩)
 (h:(aaq P c f dh L td go).bt K C) (oh:∀c',(go c').bt K C->Safe P f0 X K c')
 (ij:∀b,X.G b->G b) (iv:∀b,G b->X.G b\/X.w.heap.size<=b) (hr:cq (X.at G E) ρ ⟨c.tmps,c.H⟩ a w) (hw:Wf f0 c.stk a.tmps.toList E b t fs)
 (hg:t.eval g=.func (.func f) #[] cvs.toArray) (hl:bI ρ (St.look ⟨c.tmps,c.H⟩) (bg ρ (St.look ⟨c.tmps,c.H⟩) G) w dh cvs):
 fz P f0 (ki X K) (b.atR t (.code (.rangeFunc g ps asg body)::td)) fs w:=by
 unfold aaq at h;rw[cond_eq_ite]at h;split at h;exact h.elim;rename_i dV;have dV:c.stk.round=false:=by simpa using dV
 obtain⟨hn,v0,rv,v2,Ds,E1,E2,e1,rfl,hd,h3,h4⟩:=hw;have⟨l0,l1,l2⟩:=oW hr.dp.len e1 hd h3 h4;have hb:=h3.fr;rw[dV]at hb;obtain⟨r,rfl,x6,hrr⟩:=hb;subst x6 hrr;have hgE:=h3.ghost;subst hgE;have asC:=h3.act;subst asC;let Dn:=w.heap.size;let ln:=w.heap.size+1;let rb:Loop:=l7.ready.gg L (c.stk.f.getD f0) v0.toArray Dn;have⟨r1,s1⟩:=hr.grow (.deferred (some [])) (dT Dn);have⟨r2,s2⟩:=r1.grow (.loop rb) (cr ln);have bZ:(w.alloc (.deferred (some []))).heap.size=ln:=fL;rw[bZ]at r2 s2
 have hold:∀x∈(Ds.map (λD=>(D,Obj.deferred (some [])))++E2).map (·.1),x<Dn:=λx hx=>by
  obtain⟨y,hy,rfl⟩:=mem_map.1 hx;exact(Array.getElem?_eq_some_iff.1 (hr.kept y hy).2.2).1
 have r3:=r2.sub (E':=(Dn::Ds).map (λD=>(D,Obj.deferred (some [])))++([(ln,Obj.loop rb)]++E2)) (λy hy=>by
  simp only[map_cons,cons_append,mem_cons,mem_append,nil_append]at hy ⊢;rcases hy with rfl|hy|rfl|hy;exact .inr (.inl rfl);exact .inr (.inr (.inl hy));exact .inl rfl;exact .inr (.inr (.inr hy)))
 have hn3:(((Dn::Ds).map (λD=>(D,Obj.deferred (some [])))++([(ln,Obj.loop rb)]++E2)).map (·.1)).Nodup:=by
  rw[map_append]at hn;have⟨n1,n2,n3⟩:=nodup_append.1 hn;rw[map_append,map_append];refine nodup_append.2 ⟨?_, ?_, ?_⟩;rw[map_cons,map_cons,List.nodup_cons];exact⟨λhm=>absurd (hold Dn (by rw[map_append];exact List.mem_append_left _ hm)) (Nat.lt_irrefl _),n1⟩;rw[map_cons,map_nil,List.singleton_append,List.nodup_cons];exact⟨λhm=>absurd (hold ln (by rw[map_append];exact List.mem_append_right _ hm)) (by omega),n2⟩;intro x hx y hy hxy;subst hxy;simp only[map_cons,map_nil,mem_cons,mem_append,List.not_mem_nil,or_false]at hx hy;rcases hx with rfl|hx;rcases hy with hy|hy;omega;exact absurd (hold Dn (by rw[map_append];exact List.mem_append_right _ hy)) (Nat.lt_irrefl _);rcases hy with rfl|hy;exact absurd (hold ln (by rw[map_append];exact List.mem_append_left _ hx)) (by omega);exact n3 x hx x hy rfl
 let L0:=c.H++[au.aH]++[au.aH];let G2:Nat->Prop:=λb=>(G b\/b=w.heap.size)\/b=ln;let gG:=qj (qj ρ c.H.length (dT Dn)) (c.H++[au.aH]).length (cr ln);have azM:(c.H++[au.aH]).length=c.H.length+1:=by simp
 have ayn:gG (c.H.length+1)=cr ln:=by simp[gG,qj]
 have ayo:gG c.H.length=dT Dn:=by simp[gG,qj]
 have avv:(St.look ⟨c.tmps,L0⟩) c.H.length=some .aH:=by simp[St.look,L0]
 have avw:(St.look ⟨c.tmps,L0⟩) (c.H.length+1)=some .aH:=by simp[St.look,L0]
 have d3:=r3.dp
 have ayp:ag gG (St.look ⟨c.tmps,L0⟩) (bg gG (St.look ⟨c.tmps,L0⟩) G2) ((w.alloc (.deferred (some []))).alloc (.loop rb)) (.tag c.H.length) (dT Dn):=by
  unfold ag aS;exact⟨ayo.symm,rfl,by rw[avv];rfl⟩
 have avx:ag gG (St.look ⟨c.tmps,L0⟩) (bg gG (St.look ⟨c.tmps,L0⟩) G2) ((w.alloc (.deferred (some []))).alloc (.loop rb)) (.tag (c.H.length+1)) (cr ln):=by
  unfold ag aS;exact⟨ayn.symm,rfl,by rw[avw];rfl⟩
 have ayq:DP gG (St.look ⟨c.tmps,L0⟩) (bg gG (St.look ⟨c.tmps,L0⟩) G2) ((w.alloc (.deferred (some []))).alloc (.loop rb))
  (c.tmps.take c.n++.tag c.H.length::((c.tmps.drop c.n).take c.stk.marks++.tag (c.H.length+1)::c.tmps.drop (c.n+c.stk.marks))) (v0++([]++((Dn::Ds).map dT++([cr ln]++v2)))):=by
  have e2:a.tmps.toList=v0++(Ds.map dT++v2):=by simpa using e1
  have a1:=d3.take c.n;have a2:=(d3.drop c.n).take c.stk.marks;have a3:=d3.drop (c.n+c.stk.marks);rw[e2,List.take_left' l0]at a1;rw[e2,List.drop_left' l0,List.take_left' (by rw[length_map,hd])]at a2;rw[e2,show v0++(Ds.map dT++v2)=(v0++Ds.map dT)++v2 from by simp,List.drop_left' (by rw[length_append,length_map,hd,l0])]at a3;have:=a1.append (DP.cons ayp (a2.append (DP.cons avx a3)));exact this
 have r4:=r3.cN ayq;have asE:Step ρ (St.look ⟨c.tmps,c.H⟩) (bg ρ (St.look ⟨c.tmps,c.H⟩) G) w gG (St.look ⟨c.tmps,L0⟩) (bg gG (St.look ⟨c.tmps,L0⟩) G2) ((w.alloc (.deferred (some []))).alloc (.loop rb)):=s1.trans s2
 have gb:bI gG (St.look ⟨c.tmps,L0⟩) (bg gG (St.look ⟨c.tmps,L0⟩) G2) ((w.alloc (.deferred (some []))).alloc (.loop rb)) (.tag (c.H.length+1)::dh) (cr ln::cvs):=
  aJ.2 ⟨_,_,rfl,avx,bI.step asE _ _ hl⟩
 have aga:WfS f0 (⟨c.stk.f,c.n,false,c.stk.marks+1,some (L,.ready),td,((hM L.body).getD 0,0)⟩::c.stk.below) (v0++([]++((Dn::Ds).map dT++([cr ln]++v2))))
  ((Dn::Ds).map (λD=>(D,Obj.deferred (some [])))++([(ln,Obj.loop rb)]++E2))
  ((Frame.atR {(default:Frame)with fn:=c.stk.f.getD f0,kind:=.normal,roundOf:=none} {tmps:=v0.toArray,defers:=(Dn::Ds).map pD} (.inRangeFunc ln::td))::fs):=
  ⟨v0,[],v2,Dn::Ds,_,E2,_,_,fs,[cr ln],[(ln,Obj.loop rb)],_,rfl,rfl,rfl,l0,by simp[hd],⟨⟨none,rfl,rfl,rfl⟩,rfl,rfl⟩,h4,⟨ln,Dn,rfl,rfl,rfl⟩⟩
 have key:=tI (us:=cr ln::cvs) h oh (λb hb=>.inl (.inl (ij b hb))) (λb hb=>by
  have hle:X.w.heap.size<=w.heap.size:=hr.ao.size;rcases hb with(hb|hb)|hb;exact iv b hb;exact .inr (by omega);exact .inr (by omega)) r4 gb hn3 (by simpa using aga)
 have⟨gm,key⟩:=key;refine fz.steps (λcs=>.one ?_) key;have he:=run_enterLoop_outer (P:=P) (w:=w) (c.stk.f.getD f0) v0.toArray ps asg body
 have avy:rb={state:=.ready,pending:=none,fn:=c.stk.f.getD f0,tmps:=v0.toArray,params:=ps,assign:=asg,body:=body,defers:=w.heap.size}:=by
  simp only[rb,l7.gg,hL,Dn]
 rw[<-avy]at he;refine stepR_rangeFunc (b:={(default:Frame)with fn:=c.stk.f.getD f0,kind:=.normal,roundOf:=none}) (a:={tmps:=v0.toArray,defers:=Ds.map pD}) (ps:=ps) (assign:=asg) (body:=body) (w:=w) (l:=ln) (w₁':=(w.alloc (.deferred (some []))).alloc (.loop rb)) (d:={target:=.fn (.func f) cvs.toArray,args:= #[cr ln]}) he ?_ ?_;simp only[resolve,hg];simp[go_sem,cr,ln];have:=hJ gm (#[cr ln]++cvs.toArray) ((w.alloc (.deferred (some []))).alloc (.loop rb));simp only[invoke];rw[this];simp
end
section
variable{ρ aU:Nat->Value}{H H':a8}{G O O':Nat->Prop}{w w':World}{P:Program}{S:fA}{Z:aZ}{X:Ctx}{s:St}{a:Act}{K:List au->AV->Prop}{C:bQ->Prop}{ops:Array Oper}
def wpC(P:Program)(ops:Array Oper)(Q:Act->World->Prop):Nat->Array Bool->Act->World->Prop
 |0,_,a,w=>Q a w|fuel+1,listed,a,w=>Region.ready .any ops listed≠[]/\∀i∈Region.ready .any ops listed,wpOp P ops (λe a w=>e=.normal/\Q a w) i (wpC P ops Q fuel (listed.setIfInBounds i true)) a w
theorem aih{Q:Act->World->Prop}:∀(fuel t:Nat) (listed:Array Bool) (a:Act) (w:World),wpC P ops Q fuel listed a w->
 wpOps P ops (λe a w=>e=.normal/\Q a w) (Region.linearise.go .any ops fuel t listed []) a w:=by
 intro fuel
 induction fuel with
 |zero=>intro t listed a w h;simpa[Region.linearise.go,wpOps,wpC]using h
 |succ fuel ih=>
  intro t listed a w h;have⟨h₀,h₁⟩:=h;simp only[Region.linearise.go]
  change wpOps P ops _ (match(Region.ready .any ops listed)[t%(Region.ready .any ops listed).length]? with
   |some i=>Region.linearise.go .any ops fuel (t / (Region.ready .any ops listed).length) (listed.setIfInBounds i true) [i]|none=>[].reverse) a w
  cases hi:(Region.ready .any ops listed)[t%(Region.ready .any ops listed).length]? with
  |none=>
   exfalso;cases hr:Region.ready .any ops listed with
   |nil=>exact h₀ hr|cons x xs=>
    rw[hr]at hi;have br:t%(x::xs).length<(x::xs).length:=Nat.mod_lt _ (by simp);simp at hi;simp at br;omega
  |some i=>
   simp only[];rw[linearise_go_acc,List.reverse_singleton,List.singleton_append,wpOps_cons];exact wpOp_mono (λa w=>ih _ _ a w) (h₁ i (List.mem_of_getElem? hi))
theorem fW{listed:Array Bool}{i:Nat}(hi:i∈Region.ready .any ops listed):i<ops.size/\listed.getD i true=false/\∃o,ops[i]? =some o/\∀e∈o.after,Region.binds .any e=true->listed.getD e.on false=true:=by
 simp only[Region.ready,List.mem_filter,mem_range,and_eq_true]at hi;have⟨h1,h2,h3⟩:=hi;refine⟨h1,by simpa using h2, ?_⟩;cases ho:ops[i]? with
 |none=>rw[ho]at h3;simp at h3|some o=>
  rw[ho]at h3;simp only[map_some,getD_some,Array.all_eq_true]at h3;refine⟨o,rfl,λe he hb=> ?_⟩;obtain⟨n,hn,rfl⟩:=Array.mem_iff_getElem.1 he;have:=h3 n hn;rw[hb]at this;simpa using this
theorem we{listed:Array Bool}(bZ:listed.size=ops.size)(heb:dP ops=true){i:Nat}(hi:i<ops.size)(hn:listed.getD i true=false)(hl:∀k,k<i->listed.getD k true=true):i∈Region.ready .any ops listed:=by
 simp only[Region.ready,List.mem_filter,mem_range,and_eq_true];have ho:ops[i]? =some ops[i]:=Array.getElem?_eq_getElem hi;refine⟨hi,by simpa using hn, ?_⟩;rw[ho];simp only[map_some,getD_some,Array.all_eq_true];intro n hn;have hb:dP ops=true:=heb;simp only[dP,all_eq_true,mem_range]at hb;have hb:=hb i hi;rw[ho]at hb;simp only[Array.all_eq_true]at hb;have hb:=hb n hn;cases hbi:Region.binds .any (ops[i].after[n])with
 |false=>simp|true=>
  rw[hbi]at hb;have hon:(ops[i].after[n]).on<i:=by simpa[Nat.blt,Nat.lt_iff_add_one_le]using hb
  have cG:=hl _ hon;have dH:(ops[i].after[n]).on<listed.size:=by omega
  simp only[Array.getD,dH,dif_pos]at cG ⊢;simpa using cG
theorem wg{j i k:Nat}(h:vX ops j=true)(hi:i<ops.size)(hj:j<=i)(hk:k<i):gz ops i k=true:=by
 have h1:=all_eq_true.1 h i (mem_range.2 hi);rw[or_eq_true]at h1;rcases h1 with h1|h1;have:i<j:=by simpa[Nat.blt,Nat.lt_iff_add_one_le]using h1
 omega;exact all_eq_true.1 h1 k (mem_range.2 hk)
def Down(ops:Array Oper)(listed:Array Bool):Prop:=∀i o,ops[i]? =some o->listed.getD i false=true->∀e∈o.after,Region.binds .any e=true->listed.getD e.on false=true
theorem aii{listed:Array Bool}{i:Nat}(h:listed.getD i false=true):listed.getD i true=true:=by
 simp only[getD_eq_getD_getElem?]at h ⊢;cases hx:listed[i]? with
 |none=>rw[hx]at h;simp at h|some b=>rw[hx]at h;simpa using h
theorem oq{listed:Array Bool}(hd:Down ops listed){i k:Nat}(hi:i∈Region.ready .any ops listed)(ha:gz ops i k=true):listed.getD k true=true:=by
 have⟨h1,h2,o,ho,h3⟩:=fW hi;exact aii (iT (L:=λi=>listed.getD i false=true) hd 9 ho h3 ha)
theorem Down.set{listed:Array Bool}(hd:Down ops listed){i:Nat}(hi:i∈Region.ready .any ops listed):Down ops (listed.setIfInBounds i true):=by
 have⟨h1,h2,o,ho,h3⟩:=fW hi
 have fj:∀j,listed.getD j false=true->(listed.setIfInBounds i true).getD j false=true:=λj hj=>by
  simp only[getD_eq_getD_getElem?,Array.getElem?_setIfInBounds]at hj ⊢;split;split<;>simp_all;exact hj
 intro k o' du fh e he hb;by_cases hif:k=i;subst hif;rw[ho]at du;cases du;exact fj _ (h3 e he hb);refine fj _ (hd k o' du ?_ e he hb);simp only[getD_eq_getD_getElem?,Array.getElem?_setIfInBounds,if_neg (Ne.symm hif)]at fh ⊢;exact fh
theorem agb{listed:Array Bool}(bZ:listed.size=ops.size){i k:Nat}(hi:i<ops.size):(listed.setIfInBounds i true).getD k true=if k=i then true else listed.getD k true:=by
 simp only[getD_eq_getD_getElem?,Array.getElem?_setIfInBounds];by_cases hjf:i=k;subst hjf;simp[bZ,hi];simp[hjf,Ne.symm hjf]
theorem agc(heb:dP ops=true){j:Nat}(hc:vX ops j=true):∀(m t i:Nat) (listed:Array Bool),i+m=ops.size->j<=i->listed.size=ops.size->Down ops listed->(∀k,k<ops.size->(listed.getD k true=false↔i<=k))->
 Region.linearise.go .any ops m t listed []=range' i m
 |0,t,i,listed,_,_,_,_,_=>rfl|m+1,t,i,listed,him,hj,bZ,hd,hl=>by
  have hr:Region.ready .any ops listed=[i]:=by
   have jK:i∈Region.ready .any ops listed:=we bZ heb (by omega) ((hl i (by omega)).2 (le_refl _)) (λk hk=>by
    cases h:listed.getD k true with
    |true=>rfl|false=>have:=(hl k (by omega)).1 h;omega)
   have yN:∀k∈Region.ready .any ops listed,k=i:=λk hk=>by
    have⟨h1,h2,_⟩:=fW hk;have h3:=(hl k h1).1 h2;rcases lt_or_ge i k with h4|h4;have:=oq hd hk (wg hc h1 (by omega) h4);rw[(hl i (by omega)).2 (le_refl _)]at this;cases this;omega
   have iU:(Region.ready .any ops listed).Nodup:=List.Nodup.sublist List.filter_sublist List.nodup_range;generalize Region.ready .any ops listed=l at *
   match l,jK,yN,iU with
   |[x],jK,yN,iU=>rw[yN x (by simp)]
   |x::y::l,jK,yN,iU=>
    have h1:=yN x (by simp);have h2:=yN y (by simp);rw[h1,h2]at iU;simp at iU
  simp only[Region.linearise.go]
  change (match(Region.ready .any ops listed)[t%(Region.ready .any ops listed).length]? with
   |some i=>Region.linearise.go .any ops m (t / (Region.ready .any ops listed).length) (listed.setIfInBounds i true) [i]|none=>[].reverse)=_
  rw[hr];simp only[List.length_singleton,Nat.mod_one,List.getElem?_cons_zero];rw[linearise_go_acc,List.reverse_singleton,List.singleton_append,List.range'_succ];congr 1;have jK:i∈Region.ready .any ops listed:=by rw[hr];simp
  refine agc heb hc m _ (i+1) _ (by omega) (by omega) (by simp[bZ]) (hd.set jK) (λk hk=> ?_);rw[agb bZ (by omega)];by_cases hki:k=i;subst hki;simp;rw[if_neg hki,hl k hk];omega
theorem acf(heb:dP ops=true){j:Nat}(hj:j<=ops.size)(hc:vX ops j=true):∀(m t:Nat) (listed:Array Bool) (us:List Nat),us.length=m->us.Nodup->(∀i∈us,i<j)->listed.size=ops.size->Down ops listed->
 (∀k,k<ops.size->(listed.getD k true=false↔k∈us\/j<=k))->Region.linearise.go .any ops (m+(ops.size - j)) t listed []=Region.linearise.go .any ops m t listed []++range' j (ops.size - j)
 |0,t,listed,us,hm,_,_,bZ,hd,hl=>by
  obtain rfl:us=[]:=List.length_eq_zero_iff.1 hm;rw[zero_add,agc heb hc (ops.size - j) t j listed (by omega) (le_refl _) bZ hd (λk hk=>by rw[hl k hk];simp)];rfl
 |m+1,t,listed,us,hm,iU,br,bZ,hd,hl=>by
  rw[show m+1+(ops.size - j)=(m+(ops.size - j))+1 from by omega];simp only[Region.linearise.go]
  change (match(Region.ready .any ops listed)[t%(Region.ready .any ops listed).length]? with
   |some i=>Region.linearise.go .any ops (m+(ops.size - j)) (t / (Region.ready .any ops listed).length) (listed.setIfInBounds i true) [i]|none=>[].reverse)=(match(Region.ready .any ops listed)[t%(Region.ready .any ops listed).length]? with
   |some i=>Region.linearise.go .any ops m (t / (Region.ready .any ops listed).length) (listed.setIfInBounds i true) [i]|none=>[].reverse)++_
  obtain⟨mn,hmn,ayr⟩:∃i∈us,∀k∈us,i<=k:=by
   cases us with
   |nil=>simp at hm|cons x xs=>
    clear iU br hl hm
    induction xs generalizing x with
    |nil=>exact⟨x,by simp,by simp⟩
    |cons y ys ih=>
     have⟨i,h1,h2⟩:=ih y;rcases Nat.le_total x i with h3|h3
     exact⟨x,by simp,λk hk=>by
      rcases mem_cons.1 hk with rfl|hk;exact le_refl _;exact Nat.le_trans h3 (h2 k hk)⟩
     exact⟨i,List.mem_cons_of_mem _ h1,λk hk=>by
      rcases mem_cons.1 hk with rfl|hk;exact h3;exact h2 k hk⟩
  have hr0:mn∈Region.ready .any ops listed:=by
   have h1:=br mn hmn;refine we bZ heb (by omega) ((hl mn (by omega)).2 (.inl hmn)) (λk hk=> ?_);cases h:listed.getD k true with
   |true=>rfl|false=>
    rcases(hl k (by omega)).1 h with h2|h2;have:=ayr k h2;omega;omega
  cases hi:(Region.ready .any ops listed)[t%(Region.ready .any ops listed).length]? with
  |none=>
   exfalso;cases hr:Region.ready .any ops listed with
   |nil=>rw[hr]at hr0;simp at hr0|cons x xs=>
    rw[hr]at hi;have br:t%(x::xs).length<(x::xs).length:=Nat.mod_lt _ (by simp);simp at hi;simp at br;omega
  |some i=>
   simp only[];have jK:=List.mem_of_getElem? hi;have⟨h1,h2,_⟩:=fW jK
   have nZ:i∈us:=by
    rcases(hl i h1).1 h2 with h3|h3;exact h3;have h4:=br mn hmn;have:=oq hd jK (wg hc h1 h3 (show mn<i by omega));rw[(hl mn (by omega)).2 (.inl hmn)]at this;cases this
   rw[linearise_go_acc _ _ (m+(ops.size - j)),linearise_go_acc _ _ m,append_assoc];congr 1;refine acf heb hj hc m _ _ (us.erase i) (by rw[List.length_erase_of_mem nZ];omega) (iU.erase i) (λk hk=>br k (List.mem_of_mem_erase hk)) (by simp[bZ]) (hd.set jK) (λk hk=> ?_);rw[agb bZ h1];by_cases hki:k=i;subst hki;have:=br k nZ;simp only[if_true,Bool.true_eq_false,false_iff,not_or];exact⟨λh=>(List.Nodup.not_mem_erase iU) h,by omega⟩;rw[if_neg hki,hl k hk,List.Nodup.mem_erase_iff iU];simp[hki]
theorem wh(heb:dP ops=true){j:Nat}(hj:j<=ops.size)(hc:vX ops j=true)(t:Nat):
 Region.linearise .any ops t=Region.linearise.go .any ops j t (Array.replicate ops.size false) []++range' j (ops.size - j):=by
 have:=acf heb hj hc j t (Array.replicate ops.size false) (List.range j) List.length_range List.nodup_range (λi hi=>mem_range.1 hi) (by simp)
  (λi o _ hi=>by rw[getD_eq_getD_getElem?,Array.getElem?_replicate]at hi;split at hi<;>simp at hi) (λk hk=>by
    simp only[getD_eq_getD_getElem?,Array.getElem?_replicate,hk,if_true,getD_some,true_iff,mem_range];omega)
 rw[show j+(ops.size - j)=ops.size from by omega]at this;exact this
theorem aax{j0:Nat}(aij:vX ops j0=true)(hS:SOk P S Z)(nz:cP Z X)(heb:dP ops=true){T':List AV}{H':a8}{Q:Act->World->Prop}(hQ:∀aU a' w',l8 X aU T' H' a' w'->Q a' w'):
 ∀(fuel:Nat) (listed:Array Bool) (es:List El) (T:List AV) (H:a8) (ρ:Nat->Value) (a:Act) (w:World),es.length=fuel->listed.size=ops.size->es.Pairwise (qh ops)->
 (∀e∈es,e.i<j0)->(∀i,i<ops.size->(listed.getD i true=false↔(∃e∈es,e.i=i)\/j0<=i))->(∀i o,ops[i]? =some o->listed.getD i false=true->∀e∈o.after,Region.binds .any e=true->listed.getD e.on false=true)->l8 X ρ T H a w->oe P S ops T H es T' H'->wpC P ops Q fuel listed a w:=by
 intro fuel
 induction fuel with
 |zero=>
  intro listed es T H ρ a w bx bZ hp akh hl hdc aeW hc;obtain rfl:es=[]:=List.length_eq_zero_iff.1 bx;obtain⟨rfl,rfl⟩:=hc;exact hQ _ _ _ aeW
 |succ fuel ih=>
  intro listed es T H ρ a w bx bZ hp akh hl hdc aeW hc
  have first:∃e∈es,e.i∈Region.ready .any ops listed:=by
   cases es with
   |nil=>simp at bx|cons e es=>
    have ho:=hc.1.op;have br:e.i<ops.size:=(Array.getElem?_eq_some_iff.1 ho).1;refine⟨e,by simp,we bZ heb br ((hl e.i br).2 (.inl ⟨e,by simp,rfl⟩)) (λk hk=> ?_)⟩;have hej:=akh e (by simp);cases h:listed.getD k true with
    |true=>rfl|false=>
     rcases(hl k (by omega)).1 h with⟨f,hf1,hf2⟩|h2;rcases mem_cons.1 hf1 with rfl|hf1;omega;have:=((pairwise_cons.1 hp).1 f hf1).1;omega;omega
  refine⟨λhr=> ?_,λi hi=> ?_⟩;have⟨e,_,he⟩:=first
  rw[hr]at he;simp at he;have⟨h1,h2,o,ho,h3⟩:=fW hi
  obtain⟨f,hf,rfl⟩:∃e∈es,e.i=i:=by
   rcases(hl i h1).1 h2 with h|h;exact h;have⟨e,he1,he2⟩:=first
   have⟨h4,h5,_⟩:=fW he2;have h6:=akh e he1;have:=oq hdc hi (wg aij h1 h (show e.i<i by omega));rw[h5]at this;cases this
  obtain⟨pre,post,rfl⟩:=List.append_of_mem hf;have l9:∀e∈pre,qh ops e f:=λe he=>(List.pairwise_append.1 hp).2.2 e he f (by simp)
  have asx:∀e∈pre,ab6 ops e f:=by
   intro e he;rcases(l9 e he).2 with h4|h4;exfalso;have h8:listed.getD e.i false=true:=iT (L:=λi=>listed.getD i false=true) hdc 9 ho h3 h4;have br:e.i<ops.size:=by have:=(l9 e he).1;omega
   have h9:=(hl e.i br).2 (.inl ⟨e,by simp[he],rfl⟩);have dH:e.i<listed.size:=by omega
   simp only[Array.getD,dH,dif_pos]at h8 h9;rw[h8]at h9;cases h9;exact h4
  have⟨hok,hch⟩:=front pre hc asx;refine af6 hS nz hok aeW (λaU a' w' fo=> ?_)
  have fj:∀j,listed.getD j false=true->(listed.setIfInBounds f.i true).getD j false=true:=λj hj=>by
   simp only[getD_eq_getD_getElem?,Array.getElem?_setIfInBounds]at hj ⊢;split;split<;>simp_all;exact hj
  have asy:∀i o,ops[i]? =some o->(listed.setIfInBounds f.i true).getD i false=true->∀e∈o.after,Region.binds .any e=true->(listed.setIfInBounds f.i true).getD e.on false=true:=by
   intro i o' du fh e he hb;by_cases hif:i=f.i;subst hif;rw[ho]at du;cases du;exact fj _ (h3 e he hb);refine fj _ (hdc i o' du ?_ e he hb);simp only[getD_eq_getD_getElem?,Array.getElem?_setIfInBounds,if_neg (Ne.symm hif)]at fh ⊢;exact fh
  refine ih _ (pre++post) _ _ aU a' w' ?_ (by simp[bZ]) ?_ (λe he=>akh e (by
   rcases mem_append.1 he with he|he;exact mem_append.2 (.inl he);exact mem_append.2 (.inr (List.mem_cons_of_mem _ he)))) ?_ asy fo hch
  simp only[length_append,length_cons]at bx ⊢;omega;exact hp.sublist (List.Sublist.append (List.Sublist.refl _) (List.sublist_cons_self _ _));intro j hj
  have ajY:∀e∈pre++post,e.i≠f.i:=by
   intro e he;rcases mem_append.1 he with he|he;have:=(l9 e he).1;omega;have:=(pairwise_cons.1 (List.pairwise_append.1 hp).2.1).1 e he;have:=this.1;omega
  have dH:j<listed.size:=by omega
  have asz:(listed.setIfInBounds f.i true).getD j true=if j=f.i then true else listed.getD j true:=by
   simp only[getD_eq_getD_getElem?,Array.getElem?_setIfInBounds];by_cases hjf:f.i=j;subst hjf;simp[dH];simp[hjf,Ne.symm hjf]
  rw[asz];by_cases hjf:j=f.i;subst hjf;have:=akh f hf;simp only[if_true,Bool.true_eq_false,false_iff,not_or,not_exists,not_and];exact⟨ajY,by omega⟩;rw[if_neg hjf,hl j hj];constructor;rintro(⟨e,he,rfl⟩|h);refine .inl ⟨e, ?_,rfl⟩;simp only[mem_append,mem_cons]at he ⊢;rcases he with he|rfl|he;exact .inl he;exact(hjf rfl).elim;exact .inr he;exact .inr h;rintro(⟨e,he,rfl⟩|h);refine .inl ⟨e, ?_,rfl⟩;simp only[mem_append,mem_cons]at he ⊢;rcases he with he|he;exact .inl he;exact .inr (.inr he);exact .inr h
theorem ae1{j0:Nat}(hj0:j0<=ops.size)(aij:vX ops j0=true)(hS:SOk P S Z)(nz:cP Z X){cont:St->List Touch->Tree}(hso:hY ops=true)(heb:dP ops=true)(h:(lA P S ops cont 0 (ops.toList.take j0) s []).bt K C)(hcl:∀s' qE,(cont s' qE).bt K C->iF ops qE=true)
 {Q:Act->World->Prop} (hQ:∀aU s' qE a' w',(cont s' qE).bt K C->cq X aU s' a' w'->Q a' w') (hr:cq X ρ s a w):wpC P ops Q j0 (Array.replicate ops.size false) a w:=by
 have⟨es,s',qE,T',g1,g2,g3,g4,g5,g6⟩:=gA (ops.toList.take j0) 0 s [] s.tmps (λj o hj=>by
  rw[getElem?_take]at hj;split at hj;simpa using hj;cases hj) h rfl (λt=>.inl rfl)
 have hcf:=gF _ (hcl _ _ g1);rw[g6,append_nil,List.pairwise_reverse,List.pairwise_map,List.pairwise_filter]at hcf;have xM:=v7 g2
 have abT:es.Pairwise (λe f=>e.i<f.i):=by
  have:(es.map El.i).Pairwise (· < ·):=by rw[g5];exact List.pairwise_lt_range'
  rwa[List.pairwise_map]at this
 have aav:es.Pairwise (qh ops):=by
  refine(hcf.and abT).imp_of_mem (λ{e f} he hf ⟨hc,br⟩=>⟨br, ?_⟩);cases hna:gz ops f.i e.i with
  |true=>exact .inl rfl|false=>
   refine .inr ?_;have⟨s1,s2⟩:=tG hso (xM e he) (xM f hf) br hna
   have hh:(∀id∈e.wr,id ∉ f.rd/\id ∉ f.wr)/\∀id∈f.wr,id ∉ e.rd:=by
    cases hqe:e.q with
    |none=>
     have e1:e.wr=[]:=by simp[El.wr,hqe]
     have e2:=kj g2 e he hqe;exact⟨λid dI=>by rw[e1]at dI;simp at dI,λid _=>by rw[e2];simp⟩
    |some qe=>
     cases hqf:f.q with
     |none=>
      have e1:f.wr=[]:=by simp[El.wr,hqf]
      have e2:=kj g2 f hf hqf;exact⟨λid _=>by rw[e1,e2];simp,λid dI=>by rw[e1]at dI;simp at dI⟩
     |some qf=>
      rcases hc (by rw[hqe];rfl) (by rw[hqf];rfl)with h1|h1;exact Touch.vZ (a:=e.np) (b:=f.np) h1;exact(by rw[show f.np.i=f.i from rfl,show e.np.i=e.i from rfl,hna]at h1;cases h1)
   exact⟨s1,s2,hh.1,hh.2⟩
 have bx:es.length=j0:=by
  have:=congrArg List.length g5;simp only[length_map,List.length_range',length_take,length_toList]at this;omega
 refine aax aij hS nz heb (λaU a' w' fo=>hQ aU s' qE a' w' g1 ⟨fo.sat,g3▸fo.size,λt=>(g4 t).den (fo.den t),fo.defers,fo.ao,fo.jr,fo.kept⟩) j0 _ es s.tmps s.look ρ a w bx (by simp) aav (λe he=> ?_) ?_ (λi o _ hi=>by rw[getD_eq_getD_getElem?,Array.getElem?_replicate]at hi;split at hi<;>simp at hi) hr.toF g2;have:e.i∈es.map El.i:=List.mem_map_of_mem he;rw[g5,List.mem_range'_1,length_take]at this;omega;intro i hi;simp only[getD_eq_getD_getElem?,Array.getElem?_replicate,hi,if_true,getD_some,true_iff];rcases lt_or_ge i j0 with h1|h1;have:i∈es.map El.i:=by rw[g5,List.mem_range'_1,length_take,length_toList];omega
 obtain⟨e,he,rfl⟩:=mem_map.1 this;exact .inl ⟨e,he,rfl⟩;exact .inr h1
end
section
variable{ρ aU:Nat->Value}{H H':a8}{G O O':Nat->Prop}{w w':World}{P:Program}{Z:aZ}{X:Ctx}{s:St}{a:Act}
theorem wi{id:Nat}{c:ba}{o:au}:(ab2 id c o).alive=o.alive:=by cases o<;>rfl
theorem aki{id:Nat}{c:ba}{o:au}{c':ba}{e':TypeId}(h:ab2 id c o=.vec c' e'):o=.vec c' e':=by
 cases o<;>simp[ab2]at h ⊢;exact h
theorem cq.aik(h:cq X ρ s a w)(id:Nat):cq X ρ (ab3 s id) a w:=by
 unfold ab3;split;rename_i c e ho;have hs:=h.sat;have br:id<s.H.length:=(List.getElem?_eq_some_iff.1 ho).1;let s':St:=⟨s.tmps.map (n8 id c),(s.H.map (ab2 id c)).set id .aH⟩
 have look:∀j,s'.look j=if j=id then some .aH else(s.look j).map (ab2 id c):=by
  intro j;show((s.H.map (ab2 id c)).set id .aH)[j]? =_;rw[getElem?_set];by_cases hj:id=j;subst hj;simp[br];rw[if_neg hj,if_neg (Ne.symm hj),getElem?_map];rfl
 have qN:∀b,Own ρ s'.look b->Own ρ (aP s.look id .aH) b:=by
  rintro b ⟨j,o,hj,h1,h2⟩;rw[look]at hj;by_cases e1:j=id;rw[if_pos e1]at hj;cases hj;cases h1;rw[if_neg e1]at hj;obtain⟨o0,h3,rfl⟩:=map_eq_some_iff.1 hj;exact⟨j,o0,by simp[aP,e1,h3],by rw[wi]at h1;exact h1,h2⟩
 have ak:∀b,Own ρ s'.look b->Own ρ s.look b:=λb hb=>eY (qN b hb)
 have st:Step ρ s.look (bg ρ s.look X.G) w ρ s'.look (bg ρ s'.look X.G) w:=by
  refine⟨λ_ _ _=>rfl,λj o hj=> ?_,λb hb=>.inl (hb.imp (ak b) (λx=>x)),λ_ _ _=>rfl,le_refl _⟩;by_cases e1:j=id;exact⟨.aH,by rw[look,if_pos e1],λc' e' he=>by cases he⟩;refine⟨ab2 id c o,by rw[look,if_neg e1,hj];rfl,λc' e' he=> ?_⟩;exact⟨c',e',aki he,rfl,rfl⟩
 have gone:bh (bg ρ s'.look X.G) w (.ro c) (ρ id):=(qY hs ho).aqQ λb hb=>hb.imp (qN b) (λx=>x)
 have eqv:∀{j:Nat} {v:Value},aS ρ s.look (bg ρ s.look X.G) w (.vec j) v->j=id->v=ρ id:=by
  intro j v hv e1;subst e1;unfold aS at hv;have⟨_,o,h1,h2⟩:=hv;have h3:s.look j=some (.vec c e):=ho;rw[h3]at h1;cases h1;exact h2 c e rfl
 have ae2:∀x cs,aX ρ s.look (bg ρ s.look X.G) w x cs->aX ρ s'.look (bg ρ s'.look X.G) w (n7 id c x) cs:=by
  intro x cs hx;have ny:=aX.step st x cs hx;cases x<;>try exact ny
  rename_i j;simp only[n7,cond_eq_ite];split;rename_i hj;have hj:j=id:=by simpa using hj
  unfold aX at hx ⊢;obtain⟨u,rfl,hu⟩:=hx;exact⟨u,rfl,by rw[eqv hu hj];exact gone⟩;exact ny
 have mK:∀(xs:List AV) cs,aE ρ s.look (bg ρ s.look X.G) w xs cs->aE ρ s'.look (bg ρ s'.look X.G) w (xs.map (n7 id c)) cs:=by
  intro xs
  induction xs with
  |nil=>intro cs hx;exact aG.2 (aG.1 hx)
  |cons x xs ih=>
   intro cs hx;obtain⟨c1,c2,rfl,h1,h2⟩:=aq.1 hx;exact aq.2 ⟨c1,c2,rfl,ae2 _ _ h1,ih _ h2⟩
 have asF:∀x v,ag ρ s.look (bg ρ s.look X.G) w x v->ag ρ s'.look (bg ρ s'.look X.G) w (n8 id c x) v:=by
  intro x v hx;have ny:=ag.step st x v hx;cases x with
  |agg aD=>
   unfold ag at hx;obtain⟨cs,rfl,h1⟩:=hx;show ag _ _ _ _ (.agg _) _;unfold ag;exact⟨cs,rfl,mK _ _ h1⟩
  |vec j=>
   simp only[n8,cond_eq_ite];split;rename_i hj;have hj:j=id:=by simpa using hj
   unfold ag at hx;rw[eqv hx hj];exact aK gone;exact ny
  |_=>exact ny
 refine⟨⟨λj o hj=> ?_,λi j oi oj b h1 h2 h3 h4 h5 h6=> ?_,λb hb=>hs.apart b (ak b hb),hs.low⟩,by rw[<-h.size];exact length_map _,λt=> ?_,h.defers,h.ao.trans st,h.jr,h.kept⟩;have hj:s'.look j=some o:=hj;rw[look]at hj;by_cases e1:j=id;rw[if_pos e1]at hj;cases hj;trivial;rw[if_neg e1]at hj;obtain⟨o0,h3,rfl⟩:=map_eq_some_iff.1 hj;have ej:=hs.obj j o0 h3;cases o0 with
 |ak aD e1=>
  have⟨b,cells,fr,g1,g2,g3,g4⟩:=ej;exact⟨b,cells,fr,g1,g2,g3,mK _ _ g4⟩
 |_=>exact ej.step st (λ_ _ _=>rfl)
 have key:∀i oi,s'.look i=some oi->oi.alive=true->∃x,s.look i=some x/\x.alive=true:=by
  intro i oi hi ha;rw[look]at hi;by_cases e1:i=id;rw[if_pos e1]at hi;cases hi;cases ha;rw[if_neg e1]at hi;obtain⟨o0,h3,rfl⟩:=map_eq_some_iff.1 hi;exact⟨o0,h3,by rw[wi]at ha;exact ha⟩
 have⟨x,hx,hxa⟩:=key i oi h1 h3;have⟨y,hy,hya⟩:=key j oj h2 h4;exact hs.inj i j x y b hx hy hxa hya h5 h6
 have e1:(s.tmps.map (n8 id c)).getD t (.s .bm)=n8 id c (s.tmps.getD t (.s .bm)):=by
  rw[List.getD_eq_getElem?_getD,List.getD_eq_getElem?_getD,getElem?_map];cases s.tmps[t]? <;>rfl
 show ag _ _ _ _ ((s.tmps.map (n8 id c)).getD t (.s .bm)) _;rw[e1];exact asF _ _ (h.den t);exact h
theorem cq.avz(ids:List Nat):∀{s:St},cq X ρ s a w->cq X ρ (ids.foldl ab3 s) a w:=by
 induction ids with
 |nil=>intro s h;exact h
 |cons id ids ih=>intro s h;exact ih (h.aik id)
theorem cq.hU(h:cq X ρ s a w)(o:Oper):cq X ρ (hU s o) a w:=by
 unfold Sx.hU;split;exact h.avz _;split;exact h.avz _;exact h;exact h
end
section
variable{ρ aU:Nat->Value}{H H':a8}{G O O':Nat->Prop}{w w':World}{P:Program}{S:fA}{Z:aZ}{X:Ctx}{s:St}{a:Act}{K:List au->AV->Prop}{C:bQ->Prop}{ops:Array Oper}{E E':List (Nat×Obj)}
theorem ko.tmp{n:Nat}{rest:List Value}{Ds:List Nat}{a t:Act}(h:ko n rest Ds a t){o:Oper}{i:Nat}(dH:tH n rest ops)(ho:ops[i]? =some o):Region.wanted o (yielded ops t.tmps)=Region.wanted o (yielded ops a.tmps):=(h.same dH ho).2
theorem mL(hS:SOk P S Z)(nz:cP Z X){f0:FuncId}{R:Ending->World->Prop}{enter:St->Nat->Oper->Option Tree}{cont:St->Tree}{n:Nat}{rest:List Value}{Ds:List Nat}{b:Frame}{k:List Item}{fs:List Frame}
 (iU:kR ops=true) (dH:tH n rest ops)
 (akj:∀s,(cont s).bt K C->∀ρ a t w,cq X ρ s a w->ko n rest Ds a t->cO P f0 R b t k fs w)
 (fO:∀s i o tr,enter s i o=some tr->tr.bt K C->∀ρ a t w,ops[i]? =some o->Region.wanted o (yielded ops a.tmps)=true->cq X ρ s a w->ko n rest Ds a t->
   cO P f0 R b t (.inRegion ops (range' i (ops.size - i))::k) fs w):
 ∀(l:List Oper) (i:Nat) (s:St),(∀j,l[j]? =ops[i+j]?)->i+l.length=ops.size->(kQ P S ops enter cont i l s).bt K C->∀(ρ:Nat->Value) (a t:Act) (w:World),cq X ρ s a w->ko n rest Ds a t->
  cO P f0 R b t (.inRegion ops (range' i l.length)::k) fs w
 |[],i,s,hl,bZ,h,ρ,a,t,w,hr,ht=>cO.step (λ_=>stepR_region_end) (akj s h ρ a t w hr ht)|o::l,i,s,hl,bZ,h,ρ,a,t,w,hr,ht=>by
  have ho:ops[i]? =some o:=by simpa using(hl 0).symm
  have hl':∀j,l[j]? =ops[i+1+j]? :=λj=>by
   have:=hl (j+1);rw[show i+(j+1)=i+1+j from by omega]at this;simpa using this
  have ahN:i+1+l.length=ops.size:=by simp only[length_cons]at bZ;omega
  have lV:rest=[]\/∀d,o.dst=some d->d<n:=(dH.op ho).imp id (·.2.1);simp only[length_cons,List.range'_succ];have oh:∀(s:St) (a:Act),cq X ρ s a w->ko n rest Ds a t->Region.wanted o (yielded ops a.tmps)=true->
   (match enter s i o with
     |some t=>t|none=>match(rZ P (S (hU s o).H.length) (iE (hU s o).tmps) o).eval (hU s o).look with
      |some r=>bif yL (hU s o).H.length r.up then Tree.yK r.ab (kQ P S ops enter cont (i+1) l ((hU s o).put o.dst r))else .stuck ""|none=>.stuck (o.pos++ " " ++(rZ P (S (hU s o).H.length) (iE (hU s o).tmps) o).why (hU s o).look)).bt K C->
   cO P f0 R b t (.inRegion ops (i::range' (i+1) l.length)::k) fs w:=by
   intro s a hr ht hw h;split at h;rename_i tr hc;have:=fO s i o tr hc h ρ a t w ho hw hr ht;rwa[show ops.size - i=l.length+1 from by omega,List.range'_succ]at this;have hr:=hr.hU o;generalize hU s o=s at *;split at h;rename_i q hq;rw[cond_eq_ite]at h;split at h;rename_i hup;have⟨hn,h2⟩:=oa _ _ h;have hy:=hr.op hS nz hq hn (akb hup)
   have hy':Yields P o t.eval w (λv w'=>∃aU,cq X aU (s.put o.dst q) (a.put o.dst v) w'):=by
    unfold Yields at *;rw[(ht.same dH ho).1];exact hy
   intro cs;have⟨v,w',⟨aU,fo⟩,ny⟩:=aoh ho (by rw[(ht.same dH ho).2];exact hw) (q9 iU ho) hy' b k (fs++cs) (rest:=range' (i+1) l.length);have⟨e,w2,fr,g1,g2,g3⟩:=mL hS nz iU dH akj fO l (i+1) _ hl' ahN h2 aU _ _ w' fo (ht.put lV v) cs;exact⟨e,w2,fr,g1,Comes.of_steps ny g2,g3⟩;exact h.elim;exact h.elim
  have om:∀(s:St) (a:Act),cq X ρ s a w->ko n rest Ds a t->Region.wanted o (yielded ops a.tmps)=false->(kQ P S ops enter cont (i+1) l {s with tmps:=db s.tmps o.dst (.bd [])}).bt K C->
   cO P f0 R b t (.inRegion ops (i::range' (i+1) l.length)::k) fs w:=by
   intro s a hr ht hw h;refine cO.step (λcs=>aaw ho (by rw[(ht.same dH ho).2];exact hw) b k (fs++cs)) ?_;exact mL hS nz iU dH akj fO l (i+1) _ hl' ahN h ρ _ _ w (hr.skip o.dst) (ht.put lV undef)
  unfold kQ at h;simp only[]at h;split at h;rename_i hg;exact oh s a hr ht (by simp[Region.wanted,hg]) h;rename_i g want hg;split at h;exact h.elim;rename_i d hd;split at h;rename_i b' hb
  have hy:yielded ops a.tmps g=some b':=by
   simp only[yielded,hd,Option.bind_some,oc hr hb]
  rw[cond_eq_ite]at h;split at h;rename_i hbw;exact oh s a hr ht (by simp only[Region.wanted,hg,hy];simpa using hbw) h;rename_i hbw;exact om s a hr ht (by simp only[Region.wanted,hg,hy];simpa using hbw) h;rename_i b' hb;have fo:cq X ρ {s with tmps:=s.tmps.set d (.s (.aN b'))} a w:=hr.refine hb od
  have br:d<s.tmps.length:=by
   rcases lt_or_ge d s.tmps.length with h3|h3;exact h3;rw[List.getD,getElem?_eq_none h3]at hb;simp at hb
  have hy:yielded ops a.tmps g=some b':=by
   simp only[yielded,hd,Option.bind_some];rw[oc fo (d:=d) (b:=b') (by simp[List.getD,br])]
  have⟨h1,h2⟩:=h;cases b';have h2:=h2 rfl;cases want;exact oh _ a fo ht (by simp only[Region.wanted,hg,hy];rfl) h2;exact om _ a fo ht (by simp only[Region.wanted,hg,hy];rfl) h2;have h1:=h1 rfl;cases want;exact om _ a fo ht (by simp only[Region.wanted,hg,hy];rfl) h1;exact oh _ a fo ht (by simp only[Region.wanted,hg,hy];rfl) h1;rename_i n0 eq hb
  have br:d<s.tmps.length:=by
   rcases lt_or_ge d s.tmps.length with h3|h3;exact h3;rw[List.getD,getElem?_eq_none h3]at hb;simp at hb
  have hd0:=hr.den d;rw[hb]at hd0
  obtain⟨bb,hbv,hb0⟩:∃bb,a.tmps.getD d undef=.bool bb/\(bb=eq->n0=0):=by
   have h2:=aC (by simp) hd0;generalize a.tmps.getD d undef=u at h2;cases h2;exact⟨_,rfl,by assumption⟩
  have fo:cq X ρ {s with tmps:=s.tmps.set d (.s (.aN bb))} a w:=hr.aas hb (by rw[hbv];exact aK (.aN bb))
  have hy:yielded ops a.tmps g=some bb:=by
   simp only[yielded,hd,Option.bind_some];rw[oc fo (d:=d) (b:=bb) (by simp[List.getD,br])]
  have⟨h1,h2⟩:=h;cases bb;have h2:=h2 (by cases eq<;>first|exact hb0 rfl|trivial);cases want;exact oh _ a fo ht (by simp only[Region.wanted,hg,hy];rfl) h2;exact om _ a fo ht (by simp only[Region.wanted,hg,hy];rfl) h2;have h1:=h1 (by cases eq<;>first|exact hb0 rfl|trivial);cases want;exact om _ a fo ht (by simp only[Region.wanted,hg,hy];rfl) h1;exact oh _ a fo ht (by simp only[Region.wanted,hg,hy];rfl) h1;rename_i hb
  have hy:yielded ops a.tmps g=none:=by
   simp only[yielded,hd,Option.bind_some,aie hr hb,undef]
  exact om s a hr ht (by simp only[Region.wanted,hg,hy];simp) h;exact h.elim
theorem Wf.top{f0:FuncId}{c:bQ}{vs:List Value}{b:Frame}{t:Act}{fs:List Frame}(hl:c.tmps.length=vs.length)(hw:Wf f0 c.stk vs E b t fs):∃rest Ds,ko c.n rest Ds ⟨vs.toArray,[]⟩ t/\(c.stk.plain=true->rest=[])/\
 ∀a' t',ko c.n rest Ds a' t'->a'.defers=[]->Wf f0 c.stk a'.tmps.toList E b t' fs:=by
 obtain⟨hn,v0,rv,v2,Ds,E1,E2,rfl,rfl,hd,h3,h4⟩:=hw;have⟨l0,l1,l2⟩:=oW hl rfl hd h3 h4;refine⟨rv++(Ds.map dT++v2),Ds,⟨⟨v0,by simp,by rw[h3.act],l0⟩,by rw[h3.act];rfl⟩,λhp=> ?_,λa' t' ht hdf=> ?_⟩;simp only[yJ.plain,and_eq_true,not_eq_true']at hp;have⟨⟨p1,p2⟩,p3⟩:=hp;have e1:rv=[]:=List.eq_nil_of_length_eq_zero (by rw[l1,p1];rfl);have e2:Ds=[]:=List.eq_nil_of_length_eq_zero (hd.trans (Nat.eq_of_beq_eq_true p2));have e3:c.stk.below=[]:=List.isEmpty_iff.1 p3;rw[e3]at h4;rw[e1,e2,h4.1];rfl;have⟨qk,k1,k2,k3⟩:=ht.sl;refine⟨hn,qk,rv,v2,Ds,E1,E2,k1,rfl,hd,⟨h3.fr, ?_,h3.ghost⟩,h4⟩;have⟨tt,td⟩:=t';have:=ht.df;rw[hdf]at this;simp only[nil_append]at this;simp only at k2 this;rw[k2,this]
theorem Act.eta{a:Act}(h:a.defers=[]):(⟨a.tmps.toList.toArray,[]⟩:Act)=a:=by
 have⟨x,y⟩:=a;simp only at h;subst h;simp
theorem ko.bool{n:Nat}{rest:List Value}{Ds:List Nat}{a t:Act}(h:ko n rest Ds a t){j:Nat}(hj:rest=[]\/j<n):t.eval (.tmp j)=a.tmps.getD j undef:=by
 rw[h.eval (hj.imp id λg=>λi e=>by cases e;exact g)];rfl
theorem agd{p q:Bool}{rest:List Value}{R:Prop}(h:(p||q)=true)(h1:p=true->rest=[])(h2:q=true->R):rest=[]\/R:=by
 rcases Bool.or_eq_true_iff.1 h with h|h;exact .inl (h1 h);exact .inr (h2 h)
theorem ae3{a b:Nat}(h:a.blt b=true):a<b:=by simpa[Nat.blt,Nat.lt_iff_add_one_le]using h
theorem aay{f0:FuncId}{c:bQ}{id:Nat}{y:tE×Lp×List AV}{b:Frame}{t:Act}{fs:List Frame}{k:List Item}(dV:c.stk.round=true)(dI:c.tmps.getD c.n (.s .bm)=.tag id)
 (hf:kg id c.stk.below (c.tmps.drop (c.n+c.stk.extra))=some (y.1,y.2.1,.ready,y.2.2))
 (oh:Safe P f0 X K {c with todo:=k,stk:={c.stk with below:=jh id .busy c.stk.below (c.tmps.drop (c.n+c.stk.extra))}})
 (ij:∀b,X.G b->G b) (iv:∀b,G b->X.G b\/X.w.heap.size<=b) (hr:cq (X.at G E) ρ ⟨c.tmps,c.H⟩ a w) (hw:Wf f0 c.stk a.tmps.toList E b t fs):
 cO P f0 (ki X K) b t (.beginRound::k) fs w:=by
 obtain⟨hn,v0,rv,v2,Ds,E1,E2,e1,rfl,hd,h3,h4⟩:=hw;have⟨l0,l1,l2⟩:=oW hr.dp.len e1 hd h3 h4;have hb:=h3.fr;rw[dV]at hb;obtain⟨r,rfl,l,x6,hrr⟩:=hb;subst x6 hrr;have hdp:=hr.dp.drop (c.n+c.stk.extra);rw[l2]at hdp
 have z7:(E2.map (·.1)).Nodup:=by
  rw[map_append]at hn;exact(nodup_append.1 hn).2.1
 have⟨l',D,qk,g1,g2,g3,g4,g5,g6⟩:=oV hf h4 z7 hdp.get
 have jL:a.tmps.toList.getD c.n undef=cr l:=by
  rw[e1,List.getD,getElem?_append_right (by omega),show c.n - v0.length=0 from by omega];rfl
 have kI:=hr.dp.get c.n;rw[dI,jL]at kI;unfold ag aS at kI;have hll:l'=l:=wc (g1.symm.trans kI.1.symm);subst hll;have jf:=(hr.kept _ (show _∈(E1++E2)from List.mem_append_right _ g3)).2.2;have ays:=run_beginRound (P:=P) jf rfl
 have hl1:l' ∉ E1.map (·.1):=by
  intro hm;rw[map_append]at hn;exact(nodup_append.1 hn).2.2 l' hm l' (List.mem_map_of_mem (f:=Prod.fst) g3) rfl
 have hr2:cq (X.at G (E1++upE l' (Obj.loop (l7.busy.gg y.2.1 (y.1.f.getD f0) qk.toArray D)) E2)) ρ ⟨c.tmps,c.H⟩ a (w.putObj l' (Obj.loop (l7.busy.gg y.2.1 (y.1.f.getD f0) qk.toArray D))):=
  hr.aoi (show(l',Obj.loop (l7.ready.gg y.2.1 (y.1.f.getD f0) qk.toArray D))∈(E1++E2)from List.mem_append_right _ g3) (λz hz=>by
   rcases mem_append.1 hz with h6|h6;exact .inl ⟨List.mem_append_left _ h6,λe=>hl1 (e▸List.mem_map_of_mem (f:=Prod.fst) h6)⟩;rcases af9 z h6 with h7|h7;exact .inl ⟨List.mem_append_right _ h7.1,h7.2⟩;exact .inr h7)
 have key:=oh G _ ρ a _ ij iv hr2 _ t fs ⟨by rw[map_append,aca,<-map_append];exact hn,v0,[cr l'],v2,Ds,E1,_,e1,rfl,hd,h3,g6 .busy⟩;exact cO.step (λcs=>stepR_beginRound (l:=l') rfl ays) key
theorem fX{f:FuncId}{fn:Func}{stop inl:Nat→Bool}(hS:SOk P S Z)(nz:cP Z X)(hm:P.follows .mixedOrders=true)(hf:P.funcs[f]? =some fn):∀(n:Nat) (fst:Bool) (c:bQ),(exec P S fn stop inl n fst c).bt K (Safe P f X K)→Safe P f X K c
 |0,_,c,h=>h
 |n+1,fst,c,h=>by
  intro G E ρ a w ij iv hr b t fs hw;have oh:∀c',(exec P S fn stop inl n false c').bt K (Safe P f X K)→Safe P f X K c':=fun c' h'=>fX hS nz hm hf n false c' h';obtain⟨rest,Ds,uw,aaz,hwf⟩:=hw.top hr.dp.len;rw[Act.eta hr.defers]at uw;have hto:∀k,(exec P S fn stop inl n fst {c with todo:=k}).bt K (Safe P f X K)→cO P f (ki X K) b t k fs w:=fun k hk=>fX hS nz hm hf n fst _ hk G E ρ a w ij iv hr b t fs hw
  have hbr:c.stk.round=false→b.roundOf=none:=fun h0=>by
   obtain⟨_,_,_,_,_,_,_,_,_,_,h3,_⟩:=hw;have:=h3.fr;rw[h0]at this;obtain⟨r,rfl,_,rfl⟩:=this;rfl
  have aqS:∀k,(k=[]∨∃k',k=.code .ret::k')→c.stk.round=false→
   (match c.stk.fn P fn with
     |some g=>(match gp P ⟨c.tmps.take c.n,c.H⟩ g.results.toList with
      |some vs=>af3 c (oneOf vs) (fun c=>exec P S fn stop inl n false c)
      |none=>.stuck "")
     |none=>.stuck "").bt K (Safe P f X K)→cO P f (ki X K) b t k fs w:=by
   intro k hk h0 h;split at h;rename_i g hg;split at h;rename_i vs hv;have key:=ae0 (todo:=k) hf hg h0 hv h oh ij iv hr hw;refine fz.steps (fun cs=>.one ?_) key;rcases hk with rfl|⟨k',rfl⟩;exact stepR_end (hbr h0);exact stepR_ret (hbr h0);exact h.elim;exact h.elim
  have avA:∀(ff:Bool) (id:Nat) (rs:Array Oper) (i:Nat) (k:List Item),i≤rs.size→
   (bif kR rs&&(c.stk.plain||q7 c.n rs)then
     kQ P S rs (fun s j o=>
      bif stop (aj8 c.stk id j)&& !(ff&&j.beq i)then some (.at {c with tmps:=s.tmps,H:=s.H,todo:=.inRegion rs (range' j (rs.size - j))::k,stk:={c.stk with rid:=id}})else
      match qZ o (iE s.tmps)with
      |some (g,args)=>(match g with
      |.s (.qF f)=>bif inl f then some (n9 P {c with tmps:=s.tmps,H:=s.H} f args ⟨c.stk.f,c.n,c.stk.round,c.stk.marks,none,.inRegion rs (range' j (rs.size - j))::k,(id,j)⟩ (fun c=>exec P S fn stop inl n false c))else none
      |.fn f dh=>bif inl f then some (n9 P {c with tmps:=s.tmps,H:=s.H} f (args++dh) ⟨c.stk.f,c.n,c.stk.round,c.stk.marks,none,.inRegion rs (range' j (rs.size - j))::k,(id,j)⟩ (fun c=>exec P S fn stop inl n false c))else none
      |.tag y=>some (aap {c with tmps:=s.tmps,H:=s.H} y args ⟨c.stk.f,c.n,c.stk.round,c.stk.marks,none,.inRegion rs (range' j (rs.size - j))::k,(id,j)⟩ (fun c=>exec P S fn stop inl n false c))
      |_=>none)
      |none=>bif af1 o then some (.at {c with tmps:=s.tmps,H:=s.H,todo:=.inRegion rs (range' j (rs.size - j))::k,stk:={c.stk with rid:=id}})else none) (fun s=>exec P S fn stop inl n ff {c with tmps:=s.tmps,H:=s.H,todo:=k,stk:={c.stk with rid:=0}}) i (rs.toList.drop i) ⟨c.tmps,c.H⟩
     else .stuck "").bt K (Safe P f X K)→
   cO P f (ki X K) b t (.inRegion rs (range' i (rs.size - i))::k) fs w:=by
   intro ff id rs i k hi h;rw[cond_eq_ite]at h;split at h;rename_i hc;simp only[and_eq_true]at hc;have dH:tH c.n rest rs:=agd hc.2 aaz (fun x=>x);have bx:(rs.toList.drop i).length=rs.size - i:=by simp
   have hcn:∀(s:St),s.tmps.length=c.tmps.length→(bQ.n {c with tmps:=s.tmps,H:=s.H})=c.n:=fun s hs=>by unfold bQ.n;simp only[hs]
   have key:=mL (X:=X.at G E) (b:=b) (fs:=fs) (k:=k) (f0:=f) (R:=ki X K) (n:=c.n) (rest:=rest) (Ds:=Ds) hS (nz.at G E) hc.1 dH (fun s hs aU a' t' w' fo ht'=> ?_) (fun s j o tr x7 htr aU a' t' w' ho avC fo ht'=> ?_)
    (rs.toList.drop i) i ⟨c.tmps,c.H⟩ (fun j=>by rw[List.getElem?_drop,Array.getElem?_toList]) (by rw[bx];omega) h ρ a t w hr uw
   rw[bx]at key;exact key;exact fX hS nz hm hf n ff _ hs G E aU a' w' ij iv fo b t' fs (hwf a' t' ht' fo.defers);have hw':=hwf a' t' ht' fo.defers;have iU:=q9 hc.1 ho;rw[cond_eq_ite]at x7;split at x7;cases x7;exact htr G E aU a' w' ij iv fo b t' fs hw';by_cases avD:qZ o (iE s.tmps)=none;rw[avD]at x7;simp only[cond_eq_ite]at x7;split at x7;cases x7;exact htr G E aU a' w' ij iv fo b t' fs hw';cases x7;obtain⟨⟨g,args⟩,gm⟩:=Option.ne_none_iff_exists'.1 avD;rw[gm]at x7;simp only[]at x7;obtain⟨vf,us,hvf,hus,hcf,hcy⟩:=aoj (P:=P) gm (e:=a'.eval) (fun x _=>fo.ev x);have akk:Region.wanted o (yielded rs t'.tmps)=true:=by rw[(ht'.same dH ho).2];exact avC
   have hj:j<rs.size:=(Array.getElem?_eq_some_iff.1 ho).1
   have aag:range' j (rs.size - j)=j::range' (j+1) (rs.size - (j+1)):=by
    rw[show rs.size - j=rs.size - (j+1)+1 from by omega,List.range'_succ]
   have aqT:s.tmps.length=a'.tmps.toList.length:=fo.dp.len
   have ayt:c.tmps.length=s.tmps.length:=by
    obtain⟨v0,k1,_,k3⟩:=ht'.sl;obtain⟨qk,k1',_,k3'⟩:=uw.sl;rw[aqT,k1,hr.dp.len,k1',length_append,length_append,k3,k3']
   have hn':=hcn s ayt.symm;obtain⟨hnE,v0,rv,v2,Ds',E1,E2,e1,e2,hd,h3,h4⟩:=hw';obtain⟨q0,q1,q2⟩:=oW (c:={c with tmps:=s.tmps,H:=s.H}) aqT e1 hd h3 h4;have aga:∀key,WfS f (⟨c.stk.f,c.n,c.stk.round,c.stk.marks,none,.inRegion rs (range' j (rs.size - j))::k,key⟩::c.stk.below) a'.tmps.toList E
    (b.atR t' (.inRegion rs (range' j (rs.size - j))::k)::fs):=fun key=>
    ⟨v0,rv,v2,Ds',E1,E2,b,t',fs,[],[],_,by simpa using e1,by simpa using e2,rfl,q0.trans hn',hd,h3,h4,rfl,rfl,rfl⟩
   have push:∀(g':FuncId) (cs:List AV) (vs:List Value),vf=.func (.func g') #[] vs.toArray→bI aU s.look (bg aU s.look G) w' cs vs→
    (n9 P {c with tmps:=s.tmps,H:=s.H} g' (args++cs) ⟨c.stk.f,c.n,c.stk.round,c.stk.marks,none,.inRegion rs (range' j (rs.size - j))::k,(id,j)⟩ (fun c=>exec P S fn stop inl n false c)).bt K (Safe P f X K)→
    cO P f (ki X K) b t' (.inRegion rs (range' j (rs.size - j))::k) fs w':=by
    intro g' cs vs hv qd htr;obtain⟨asG,key⟩:=tI (c:={c with tmps:=s.tmps,H:=s.H}) (us:=us++vs) htr oh ij iv fo (jg hus qd) hnE (aga _);refine fz.steps (fun cs=>.one ?_) key;rw[aag];refine ake ho akk iU ?_ b k (fs++cs);rw[(ht'.same dH ho).1];exact hcf g' vs hv asG
   split at x7;rename_i g';rw[cond_eq_ite]at x7;split at x7;cases x7;exact push g' [] [] (aao (aC (by simp) hvf)) (bp.2 rfl) (by rw[append_nil];exact htr);cases x7;rename_i g' dh;rw[cond_eq_ite]at x7;split at x7;cases x7;unfold ag at hvf;obtain⟨vs,hv,qX⟩:=hvf;exact push g' dh vs hv qX htr;cases x7;rename_i y;cases x7;have aok:a'.tmps.toList.drop (bQ.n {c with tmps:=s.tmps,H:=s.H}+c.stk.extra)=v2:=q2;obtain⟨l,r,hv,jf,avF,key⟩:=acd (c:={c with tmps:=s.tmps,H:=s.H}) (us:=us) htr oh ij iv fo hus hnE (aga _) e2 aok h4 hvf;refine fz.steps (fun cs=>.one ?_) key;rw[aag];refine akf ho akk iU ?_ b k (fs++cs);rw[(ht'.same dH ho).1];exact hcy l hv r jf avF;cases x7;exact h.elim
  unfold exec at h;simp only[]at h;split at h;rename_i nG;rw[nG];rw[cond_eq_ite]at h;split at h;rename_i dV;exact ql dV h oh ij iv hr hw (fun l w' c0 cs h1 h2 h3=>stepR_round_end h1 h2 h3);rename_i dV;exact aqS [] (.inl rfl) (by simpa using dV) h;rename_i k nG;rw[nG];rw[cond_eq_ite]at h;split at h;rename_i dV;exact ql dV h oh ij iv hr hw (fun l w' c0 cs h1 h2 h3=>stepR_round_ret h1 h2 h3);rename_i dV;exact aqS _ (.inr ⟨k,rfl⟩) (by simpa using dV) h;rename_i k nG;rw[nG];exact cO.step (fun _=>stepR_skip) (hto _ h);rename_i k l nG;rw[nG];exact cO.step (fun _=>stepR_label) (hto _ h);rename_i k nG;rw[nG];exact cO.step (fun _=>stepR_inBlock) (hto _ h);rename_i k nG;rw[nG];exact cO.step (fun _=>step_lone_go (by simp[stepG,stepG.exec,Frame.atR])) (hto _ h);rename_i x y k nG;rw[nG];exact cO.step (fun _=>stepR_seq) (hto _ h);rename_i id body k nG;rw[nG];exact cO.step (fun _=>stepR_block) (hto _ h);rename_i body k nG;rw[nG];exact cO.step (fun _=>step_lone_go (by simp[stepG,stepG.exec,Frame.atR])) (hto _ h);rename_i id k nG;rw[nG];split at h;rename_i k' hk';exact cO.step (fun _=>stepR_exit hk') (hto _ h);rename_i hk';rw[cond_eq_ite]at h;split at h;rename_i dV;exact ql dV h oh ij iv hr hw (fun l w' c0 cs h1 h2 h3=>stepR_round_exit h1 h2 hk' h3);exact h.elim;rename_i j x y k nG;rw[nG];rw[cond_eq_ite]at h;split at h;rename_i asH;have dH:rest=[]∨j<c.n:=agd asH aaz ae3;split at h;rename_i bb hb
  have hev:t.eval (.tmp j)=.bool bb:=by
   rw[uw.bool dH];have h1:=oc hr hb;rw[getD_eq_getD_getElem?,h1];rfl
  refine cO.step (fun _=>stepR_cond hev) ?_;have:=hto _ h;cases bb<;>exact this;rename_i bb hb;have fo:cq (X.at G E) ρ ⟨c.tmps.set j (.s (.aN bb)),c.H⟩ a w:=hr.refine hb od
  have br:j<c.tmps.length:=by
   rcases lt_or_ge j c.tmps.length with h3|h3;exact h3;rw[List.getD,getElem?_eq_none h3]at hb;simp at hb
  have hev:t.eval (.tmp j)=.bool bb:=by
   rw[uw.bool dH];have h1:=oc fo (d:=j) (b:=bb) (by simp[List.getD,br]);rw[getD_eq_getD_getElem?,h1];rfl
  refine cO.step (fun _=>stepR_cond hev) ?_;obtain⟨h1,h2⟩:=h;cases bb;exact fX hS nz hm hf n _ _ (h2 rfl) G E ρ a w ij iv fo b t fs hw;exact fX hS nz hm hf n _ _ (h1 rfl) G E ρ a w ij iv fo b t fs hw;rename_i n0 eq hb
  have br:j<c.tmps.length:=by
   rcases lt_or_ge j c.tmps.length with h3|h3;exact h3;rw[List.getD,getElem?_eq_none h3]at hb;simp at hb
  have hd0:=hr.den j;rw[show(St.tmps ⟨c.tmps,c.H⟩).getD j (.s .bm)=_ from hb]at hd0
  obtain⟨bb,hbv,hb0⟩:∃bb,a.tmps.getD j undef=.bool bb∧(bb=eq→n0=0):=by
   have h2:=aC (by simp) hd0;generalize a.tmps.getD j undef=u at h2;cases h2;exact⟨_,rfl,by assumption⟩
  have fo:cq (X.at G E) ρ ⟨c.tmps.set j (.s (.aN bb)),c.H⟩ a w:=hr.aas hb (by rw[hbv];exact aK (.aN bb));have hev:t.eval (.tmp j)=.bool bb:=by rw[uw.bool dH,hbv]
  refine cO.step (fun _=>stepR_cond hev) ?_;obtain⟨h1,h2⟩:=h;cases bb;exact fX hS nz hm hf n _ _ (h2 (by cases eq<;>first|exact hb0 rfl|trivial)) G E ρ a w ij iv fo b t fs hw;exact fX hS nz hm hf n _ _ (h1 (by cases eq<;>first|exact hb0 rfl|trivial)) G E ρ a w ij iv fo b t fs hw;exact h.elim;exact h.elim;rename_i id rs draw k nG;rw[nG];rw[cond_eq_ite]at h;split at h;have:=h G E ρ a w ij iv hr b t fs hw;rwa[nG]at this;cases draw;simp only[cond_false]at h;have key:=avA false id rs 0 k (zero_le _) h;refine cO.step (fun _=>stepR_region) ?_;rw[List.range_eq_range'];simpa using key;simp only[cond_true]at h;rw[cond_eq_ite]at h;split at h;rename_i hso;simp only[and_eq_true]at hso;obtain⟨⟨⟨avG,asI⟩,iU⟩,hsl⟩:=hso;have dH:tH c.n rest rs:=agd hsl aaz (fun x=>x);rw[cond_eq_ite]at h;split at h;rename_i hcc;simp only[and_eq_true]at hcc;obtain⟨br,aij⟩:=hcc;have br:=ae3 br
  have asJ:=ae1 (j0:=cutAt rs) (Nat.le_of_lt br) aij (X:=X.at G E) (Q:=fun a' w'=>∃aU s',(exec P S fn stop inl n false {c with tmps:=s'.tmps,H:=s'.H,todo:=.inRegion rs (range' (cutAt rs) (rs.size - cutAt rs))::k,stk:={c.stk with rid:=id}}).bt K (Safe P f X K)∧cq (X.at G E) aU s' a' w') hS (nz.at G E) avG asI h (fun s' qE hh=>by
   rw[cond_eq_ite]at hh;split at hh;rename_i hc;exact hc;exact hh.elim) (fun aU s' qE a' w' hh fo=>by
   rw[cond_eq_ite]at hh;split at hh;exact⟨aU,s',hh,fo⟩;exact hh.elim) hr.drew
  have ae4:=fun tt=>aih (cutAt rs) tt _ a _ asJ;refine cO.step (fun _=>stepR_region_draw) ?_
  have ayu:Region.schedule (P.follows .mixedOrders) rs (w.tape w.drawn (.order b.fn id))=Region.linearise.go .any rs (cutAt rs) (w.tape w.drawn (.order b.fn id)) (Array.replicate rs.size false) []++range' (cutAt rs) (rs.size - cutAt rs):=by
   simp only[Region.schedule,hm,Bool.true_or,if_true];exact wh asI (Nat.le_of_lt br) aij _
  rw[ayu];have akl:=gR dH (fun e a w hq=>hq.1) _ a t _ uw (ae4 (w.tape w.drawn (.order b.fn id)));intro cs;obtain⟨a1,w1,⟨_,a',⟨_,aU,s',hh,fo⟩,ht'⟩,kp⟩:=fP iU (fun e a w hq=>hq.1) _ t _ akl b k (fs++cs);have key:=fX hS nz hm hf n false _ hh G E aU a' w1 ij iv fo b a1 fs (hwf a' a1 ht' fo.defers) cs;obtain⟨e,w2,fr,g1,g2,g3⟩:=key;exact⟨e,w2,fr,g1,Comes.of_steps kp g2,g3⟩
  have asJ:=aau (X:=X.at G E) (Q:=fun a' w'=>∃aU s',(exec P S fn stop inl n false {c with tmps:=s'.tmps,H:=s'.H,todo:=k}).bt K (Safe P f X K)∧cq (X.at G E) aU s' a' w') hS (nz.at G E) avG asI h (fun s' qE hh=>by
   rw[cond_eq_ite]at hh;split at hh;rename_i hc;exact hc;exact hh.elim) (fun aU s' qE a' w' hh fo=>by
   rw[cond_eq_ite]at hh;split at hh;exact⟨aU,s',hh,fo⟩;exact hh.elim) hr.drew
  have ae4:∀tt,wpOps P rs (fun e a' w'=>e=.normal∧∃aU s',(exec P S fn stop inl n false {c with tmps:=s'.tmps,H:=s'.H,todo:=k}).bt K (Safe P f X K)∧cq (X.at G E) aU s' a' w') (Region.schedule (P.follows .mixedOrders) rs tt) a {w with drawn:=w.drawn+1}:=fun tt=>by
   simp only[Region.schedule,hm,Bool.true_or,if_true];exact wpAny_sound rs.size tt _ a _ asJ
  refine cO.step (fun _=>stepR_region_draw) ?_;have akl:=gR dH (fun e a w hq=>hq.1) _ a t _ uw (ae4 (w.tape w.drawn (.order b.fn id)));intro cs;obtain⟨a1,w1,⟨_,a',⟨_,aU,s',hh,fo⟩,ht'⟩,kp⟩:=gQ iU (fun e a w hq=>hq.1) _ t _ akl b k (fs++cs);have key:=fX hS nz hm hf n false _ hh G E aU a' w1 ij iv fo b a1 fs (hwf a' a1 ht' fo.defers) cs;obtain⟨e,w2,fr,g1,g2,g3⟩:=key;exact⟨e,w2,fr,g1,Comes.of_steps kp g2,g3⟩;exact h.elim;rename_i rs todo k nG;rw[nG];rw[cond_eq_ite]at h;split at h;rename_i he;simp only[and_eq_true]at he;have hle:todo.length≤rs.size:=le_of_ble_eq_true he.1;have he:todo=range' (rs.size - todo.length) todo.length:=by simpa using he.2
  have key:=avA fst c.stk.rid rs (rs.size - todo.length) k (by omega) h;rw[show rs.size - (rs.size - todo.length)=todo.length from by omega,←he]at key;exact key;exact h.elim;rename_i k nG;rw[nG];rw[cond_eq_ite]at h;split at h;rename_i dV;split at h;rename_i id dI;split at h;rename_i d L sl hf';exact aay (y:=(d,L,sl)) dV dI hf' (fX hS nz hm hf n _ _ h) ij iv hr hw;exact h.elim;exact h.elim;exact h.elim;rename_i j ps asg body k nG;rw[nG];rw[cond_eq_ite]at h;split at h;rename_i asH;have dH:rest=[]∨j<c.n:=agd asH aaz ae3;split at h;rename_i g hg;have hd0:=hr.den j;rw[show(St.tmps ⟨c.tmps,c.H⟩).getD j (.s .bm)=_ from hg]at hd0;have hv:=aao (aC (by simp) hd0);exact tK (g:=.tmp j) (cvs:=[]) rfl h oh ij iv hr hw (by rw[uw.bool dH,hv]) (bp.2 rfl);rename_i g dh hg;have hd0:=hr.den j;rw[show(St.tmps ⟨c.tmps,c.H⟩).getD j (.s .bm)=_ from hg]at hd0;unfold ag at hd0;obtain⟨vs,hv,qX⟩:=hd0;exact tK (g:=.tmp j) (cvs:=vs) rfl h oh ij iv hr hw (by rw[uw.bool dH,hv]) qX;exact h.elim;exact h.elim;rename_i body k nG;rw[nG];rw[cond_eq_ite]at h;split at h;exact cO.step (fun _=>stepR_loop) (fX hS nz hm hf n _ _ h G E ρ a w ij iv hr b t fs hw);exact cO.step (fun _=>stepR_loop) (h G E ρ a w ij iv hr b t fs hw);rename_i body k nG;rw[nG];rw[cond_eq_ite]at h;split at h;exact cO.step (fun _=>stepR_inLoop) (fX hS nz hm hf n _ _ h G E ρ a w ij iv hr b t fs hw);exact cO.step (fun _=>stepR_inLoop) (h G E ρ a w ij iv hr b t fs hw);exact h G E ρ a w ij iv hr b t fs hw
theorem Wf.base(f:FuncId){a:Act}(h:a.defers=[]):Wf f {} a.tmps.toList [] {(default:Frame)with fn:=f,kind:=.normal,roundOf:=none} a []:=
 ⟨List.nodup_nil,a.tmps.toList,[],[],[],[],[],by simp,rfl,rfl,⟨⟨none,rfl,rfl,rfl⟩,(Act.eta h).symm,rfl⟩,rfl,rfl,rfl⟩
theorem Safe.goes{f:FuncId}{c:bQ}(h:Safe P f X K c)(hc:c.stk={})(hE:X.E=[])(hr:cq X ρ ⟨c.tmps,c.H⟩ a w):cO P f (ki X K) {(default:Frame)with fn:=f,kind:=.normal,roundOf:=none} a c.todo [] w:=by
 have e:X.at X.G []=X:=by
  have⟨x1,x2,x3,x4,x5⟩:=X;simp only at hE;subst hE;rfl
 exact h X.G [] ρ a w (λ_ h=>h) (λ_ h=>.inl h) (by rw[e];exact hr) _ a [] (by rw[hc];exact Wf.base f hr.defers)
end
def allM{α β:Type}(f:α->Option β):List α->Option (List β)
 |[]=>some []|a::aT=>match f a,allM f aT with
  |some b,some bs=>some (b::bs)|_,_=>none
def tL:SV->SV
 |.aO k n=>.int k n|.aN b=>.bool b|x=>x
def rn(g:Nat->Option Nat):Nat->AV->Option AV
 |0,_=>none|d+1,a=>
  match a with
  |.s x=>some (.s (tL x))|.ptr id off=>(g id).map λj=>.ptr j off|.j9 id off n i=>(g id).map λj=>.j9 j off n i|.jG c m j=>some (.jG c m j)|.vec id=>(g id).map λj=>.vec j|.gC id i j=>(g id).map λl=>.gC l i j|.part id lo n=>(g id).map λl=>.part l lo n|.sub id off n=>(g id).map λl=>.sub l off n|.kH id i j n=>(g id).map λl=>.kH l i j n|.emp=>some .emp|.agg aD=>(allM (rn g d) aD).map .agg|.af k n ws=>some (.af k n ws)|.bd vs=>(allM (rn g d) vs).map .bd|.fn f dh=>(allM (rn g d) dh).map (.fn f)|.fnb f dh=>(allM (rn g d) dh).map (.fnb f)|.iz id=>(g id).map λj=>.iz j|.tag id=>(g id).map λj=>.tag j
def wj(g:Nat->Option Nat):au->Option au
 |.ak aD e=>(allM (rn g 20) aD).map λs=>.ak s e|.vec c e=>some (.vec c e)|.map ck m=>some (.map ck m)|.xP ck m gid=>match g gid with
  |some j=>some (.xP ck m j)|none=>some (.map ck m)
 |.iter mid gid ck left cur=>match g mid,g gid with
  |some i,some j=>some (.iter i j ck left cur)|_,_=>none
 |.aH=>some .aH
structure Emb (g:Nat->Option Nat) (ρ:Nat->Value) (H:a8) (O:Nat->Prop) (aU:Nat->Value) (H':a8) (O':Nat->Prop):Prop where
 id:∀i j,g i=some j->aU j=ρ i/\∀o,H i=some o->∃o',H' j=some o'/\∀c e,o'=.vec c e->o=.vec c e
 gf:∀b,O' b->O b
section
variable{g:Nat->Option Nat}{ρ aU:Nat->Value}{H H':a8}{G O O':Nat->Prop}{w w':World}{P:Program}{S:fA}{Z:aZ}{X:Ctx}{s:St}{a:Act}{K:List au->AV->Prop}{C:bQ->Prop}
theorem allM_cons{α β:Type}{f:α->Option β}{a:α}{aT:List α}{l:List β}(h:allM f (a::aT)=some l):∃b bs,f a=some b/\allM f aT=some bs/\l=b::bs:=by
 unfold allM at h;split at h;rename_i b bs h1 h2;simp only[Option.some.injEq]at h;exact⟨b,bs,h1,h2,h.symm⟩;cases h
theorem gS{α β:Type}{f:α->Option β}:∀{aT:List α} {l:List β},allM f aT=some l->l.length=aT.length
 |[],l,h=>by simp only[allM,Option.some.injEq]at h;subst h;rfl
 |a::aT,l,h=>by
  obtain⟨b,bs,_,h2,rfl⟩:=allM_cons h;simp[gS h2]
theorem gq{α β:Type}{f:α->Option β}:∀{aT:List α} {l:List β},allM f aT=some l->∀(i:Nat) (a:α),aT[i]? =some a->∃b,f a=some b/\l[i]? =some b
 |[],l,h,i,a,hi=>by simp at hi
 |a::aT,l,h,i,x,hi=>by
  obtain⟨b,bs,h1,h2,rfl⟩:=allM_cons h;cases i with
  |zero=>simp only[List.getElem?_cons_zero,Option.some.injEq]at hi;subst hi;exact⟨b,h1,rfl⟩|succ i=>simpa using gq h2 i x (by simpa using hi)
theorem bh.less(gf:∀b,O' b->O b){x:SV}{v:Value}(h:bh O w x v):bh O' w x v:=
 h.step (λb hb=>.inl (gf b hb)) (λ_ _ _=>rfl) (le_refl _)
theorem bh.tL{x:SV}{v:Value}(h:bh O w x v):bh O w (tL x) v:=by
 cases h<;>first
  |exact bh.int _ _|exact bh.bool _|(refine bh.ro _ _ _ _ _ _ ?_ ?_ ?_ ?_ ?_<;>assumption)
  |(constructor<;>assumption)
  |constructor
theorem ail(gf:∀b,O' b->O b){x:SV}{v:Value}(h:ag ρ H O w (.s x) v):ag aU H' O' w (.s (Sx.tL x)) v:=by
 by_cases hx:x=.bm;subst hx;unfold ag;trivial;have h1:=aC hx h;exact aK (h1.less gf).tL
theorem wk(E:Emb g ρ H O aU H' O'):∀(d:Nat),
 (∀a a' v,rn g d a=some a'->ag ρ H O w a v->ag aU H' O' w a' v)/\(∀a a' cs,rn g d a=some a'->aX ρ H O w a cs->aX aU H' O' w a' cs):=by
 have isSome:∀{i j:Nat},g i=some j->(H i).isSome=true->(H' j).isSome=true:=by
  intro i j hg hi;have⟨o,ho⟩:=isSome_iff_exists.1 hi;have⟨o',du,_⟩:=(E.id i j hg).2 o ho;rw[du];rfl
 have avH:∀{i j:Nat} {v:Value},g i=some j->aS ρ H O w (.vec i) v->aS aU H' O' w (.vec j) v:=by
  intro i j v hg h;unfold aS at *;have⟨h0,o,ho,h1⟩:=h;have⟨hr,h2⟩:=E.id i j hg;have⟨o',du,h3⟩:=h2 o ho;exact⟨h0,o',du,λc e hc=>by rw[hr];exact h1 c e (h3 c e hc)⟩
 have aqU:∀{i j:Nat} {v:Value} {m n:Nat},g i=some j->aS ρ H O w (.gC i m n) v->aS aU H' O' w (.gC j m n) v:=by
  intro i j v m n hg h;unfold aS at *;have⟨h0,o,ho,h1⟩:=h;have⟨hr,h2⟩:=E.id i j hg;have⟨o',du,h3⟩:=h2 o ho;exact⟨h0,o',du,λc e hc=>by rw[hr];exact h1 c e (h3 c e hc)⟩
 have aqV:∀{i j:Nat} {v:Value} {m n:Nat},g i=some j->aS ρ H O w (.part i m n) v->aS aU H' O' w (.part j m n) v:=by
  intro i j v m n hg h;unfold aS at *;have⟨h0,o,ho,h1⟩:=h;have⟨hr,h2⟩:=E.id i j hg;have⟨o',du,h3⟩:=h2 o ho;exact⟨h0,o',du,λc e hc=>by rw[hr];exact h1 c e (h3 c e hc)⟩
 have avJ:∀{i j:Nat} {v:Value} {m n:Nat},g i=some j->aS ρ H O w (.sub i m n) v->aS aU H' O' w (.sub j m n) v:=by
  intro i j v m n hg h;unfold aS at *;have⟨h0,b,a,cap,h1,h2,h4,h3⟩:=h;exact⟨h0,b,a,cap,by rw[(E.id i j hg).1,h1],h2,h4,isSome hg h3⟩
 have aqW:∀{i j:Nat} {v:Value} {m n l:Nat},g i=some j->aS ρ H O w (.kH i m n l) v->aS aU H' O' w (.kH j m n l) v:=by
  intro i j v m n l hg h;unfold aS at *;have⟨h0,o,ho,h1⟩:=h;have⟨hr,h2⟩:=E.id i j hg;have⟨o',du,h3⟩:=h2 o ho;exact⟨h0,o',du,λc e hc=>by rw[hr];exact h1 c e (h3 c e hc)⟩
 have avK:∀{i j:Nat} {v:Value} {off:Nat},g i=some j->aS ρ H O w (.ptr i off) v->aS aU H' O' w (.ptr j off) v:=by
  intro i j v off hg h;unfold aS at *;have⟨b,h1,h2,h3⟩:=h;exact⟨b,by rw[(E.id i j hg).1,h1],h2,isSome hg h3⟩
 have avL:∀{i j:Nat} {v:Value},g i=some j->aS ρ H O w (.iz i) v->aS aU H' O' w (.iz j) v:=by
  intro i j v hg h;unfold aS at *;have⟨b,h1,h2,h3⟩:=h;exact⟨b,by rw[(E.id i j hg).1,h1],h2,isSome hg h3⟩
 have avO:∀{i j:Nat} {v:Value},g i=some j->aS ρ H O w (.tag i) v->aS aU H' O' w (.tag j) v:=by
  intro i j v hg h;unfold aS at *;have⟨h1,h2,h3⟩:=h;exact⟨by rw[(E.id i j hg).1,h1],h2,isSome hg h3⟩
 have aqX:∀{i j:Nat} {v:Value} {off n l:Nat},g i=some j->aS ρ H O w (.j9 i off n l) v->aS aU H' O' w (.j9 j off n l) v:=by
  intro i j v off n l hg h;unfold aS at *;have⟨h0,b,h1,h2,h3⟩:=h;exact⟨h0,b,by rw[(E.id i j hg).1,h1],h2,isSome hg h3⟩
 have aqY:∀{c:ba} {m j:Nat} {v:Value},aS ρ H O w (.jG c m j) v->aS aU H' O' w (.jG c m j) v:=by
  intro c m j v h;unfold aS at *;have⟨b,o,us,h1,h2,h3,h4⟩:=h;exact⟨b,o,us,h1,λh5=>h2 (E.gf b h5),h3,λi hi=>⟨(h4 i hi).1,(h4 i hi).2.less E.gf⟩⟩
 intro d
 induction d with
 |zero=>exact⟨λa a' v h=>by simp[rn]at h,λa a' cs h=>by simp[rn]at h⟩
 |succ d ih=>
  have lst:∀(aT dA:List AV) (vs:List Value),allM (rn g d) aT=some dA->bI ρ H O w aT vs->bI aU H' O' w dA vs:=by
   intro aT
   induction aT with
   |nil=>intro dA vs h hd;simp only[allM,Option.some.injEq]at h;subst h;rw[bp.1 hd];exact bp.2 rfl
   |cons a aT ihl=>
    intro dA vs h hd;obtain⟨b,bs,h1,h2,rfl⟩:=allM_cons h;obtain⟨v,rest,rfl,h3,h4⟩:=aJ.1 hd;exact aJ.2 ⟨v,rest,rfl,ih.1 a b v h1 h3,ihl bs rest h2 h4⟩
  have sgs:∀(aT dA:List AV) (cs:List Value),allM (rn g d) aT=some dA->aE ρ H O w aT cs->aE aU H' O' w dA cs:=by
   intro aT
   induction aT with
   |nil=>intro dA vs h hd;simp only[allM,Option.some.injEq]at h;subst h;rw[aG.1 hd];exact aG.2 rfl
   |cons a aT ihl=>
    intro dA vs h hd;obtain⟨b,bs,h1,h2,rfl⟩:=allM_cons h;obtain⟨c1,c2,rfl,h3,h4⟩:=aq.1 hd;exact aq.2 ⟨c1,c2,rfl,ih.2 a b c1 h1 h3,ihl bs c2 h2 h4⟩
  refine⟨λa a' v h hd=> ?_,λa a' cs h hd=> ?_⟩;cases a<;>simp only[rn,map_eq_some_iff,Option.some.injEq,reduceCtorEq]at h
  case s x=>subst h;exact ail E.gf hd
  case ptr id off=>obtain⟨j,hg,rfl⟩:=h;unfold ag at *;exact avK hg hd
  case j9 id off n i=>obtain⟨j,hg,rfl⟩:=h;unfold ag at *;exact aqX hg hd
  case jG c m j=>subst h;unfold ag at *;exact aqY hd
  case vec id=>obtain⟨j,hg,rfl⟩:=h;unfold ag at *;exact avH hg hd
  case gC id i j=>obtain⟨l,hg,rfl⟩:=h;unfold ag at *;exact aqU hg hd
  case part id lo n=>obtain⟨l,hg,rfl⟩:=h;unfold ag at *;exact aqV hg hd
  case sub id off n=>obtain⟨l,hg,rfl⟩:=h;unfold ag at *;exact avJ hg hd
  case kH id i j n=>obtain⟨l,hg,rfl⟩:=h;unfold ag at *;exact aqW hg hd
  case emp=>subst h;unfold ag at *;exact hd
  case agg aD=>obtain⟨l,hl,rfl⟩:=h;unfold ag at *;have⟨cs,h1,h2⟩:=hd;exact⟨cs,h1,sgs _ _ _ hl h2⟩
  case af k n ws=>subst h;unfold ag at *;exact hd
  case bd vs=>obtain⟨l,hl,rfl⟩:=h;unfold ag at *;have⟨us,h1,h2⟩:=hd;exact⟨us,h1,lst _ _ _ hl h2⟩
  case fn f dh=>obtain⟨l,hl,rfl⟩:=h;unfold ag at *;have⟨us,h1,h2⟩:=hd;exact⟨us,h1,lst _ _ _ hl h2⟩
  case fnb f dh=>obtain⟨l,hl,rfl⟩:=h;unfold ag at *;have⟨us,h1,h2⟩:=hd;exact⟨us,h1,lst _ _ _ hl h2⟩
  case iz id=>obtain⟨j,hg,rfl⟩:=h;unfold ag at *;exact avL hg hd
  case tag id=>obtain⟨j,hg,rfl⟩:=h;unfold ag at *;exact avO hg hd
  cases a<;>simp only[rn,map_eq_some_iff,Option.some.injEq,reduceCtorEq]at h
  case s x=>subst h;unfold aX at *;have⟨u,h1,h2⟩:=hd;exact⟨u,h1,(h2.less E.gf).tL⟩
  case ptr id off=>obtain⟨j,hg,rfl⟩:=h;unfold aX at *;have⟨u,h1,h2⟩:=hd;exact⟨u,h1,avK hg h2⟩
  case j9 id off n i=>obtain⟨j,hg,rfl⟩:=h;unfold aX at *;have⟨u,h1,h2⟩:=hd;exact⟨u,h1,aqX hg h2⟩
  case jG c m j=>subst h;unfold aX at *;have⟨u,h1,h2⟩:=hd;exact⟨u,h1,aqY h2⟩
  case vec id=>obtain⟨j,hg,rfl⟩:=h;unfold aX at *;have⟨u,h1,h2⟩:=hd;exact⟨u,h1,avH hg h2⟩
  case gC id i j=>obtain⟨l,hg,rfl⟩:=h;unfold aX at *;have⟨u,h1,h2⟩:=hd;exact⟨u,h1,aqU hg h2⟩
  case part id lo n=>obtain⟨l,hg,rfl⟩:=h;unfold aX at *;have⟨u,h1,h2⟩:=hd;exact⟨u,h1,aqV hg h2⟩
  case sub id off n=>obtain⟨l,hg,rfl⟩:=h;unfold aX at *;have⟨u,h1,h2⟩:=hd;exact⟨u,h1,avJ hg h2⟩
  case kH id i j n=>obtain⟨l,hg,rfl⟩:=h;unfold aX at *;have⟨u,h1,h2⟩:=hd;exact⟨u,h1,aqW hg h2⟩
  case emp=>subst h;unfold aX at *;exact hd
  case agg aD=>unfold aX at hd;exact hd.elim
  case af k n ws=>subst h;unfold aX at *;exact hd
  case bd vs=>unfold aX at hd;exact hd.elim
  case fn f dh=>obtain⟨l,hl,rfl⟩:=h;unfold aX at *;have⟨u,h1,us,h2,h3⟩:=hd;exact⟨u,h1,us,h2,lst _ _ _ hl h3⟩
  case fnb f dh=>obtain⟨l,hl,rfl⟩:=h;unfold aX at *;have⟨u,h1,us,h2,h3⟩:=hd;exact⟨u,h1,us,h2,lst _ _ _ hl h3⟩
  case iz id=>obtain⟨j,hg,rfl⟩:=h;unfold aX at *;have⟨u,h1,h2⟩:=hd;exact⟨u,h1,avL hg h2⟩
  case tag id=>obtain⟨j,hg,rfl⟩:=h;unfold aX at *;have⟨u,h1,h2⟩:=hd;exact⟨u,h1,avO hg h2⟩
theorem uJ(E:Emb g ρ H O aU H' O'){d:Nat}:∀{aT dA:List AV} {vs:List Value},allM (rn g d) aT=some dA->bI ρ H O w aT vs->bI aU H' O' w dA vs
 |[],dA,vs,h,hd=>by simp only[allM,Option.some.injEq]at h;subst h;rw[bp.1 hd];exact bp.2 rfl
 |a::aT,dA,vs,h,hd=>by
  obtain⟨b,bs,h1,h2,rfl⟩:=allM_cons h;obtain⟨v,rest,rfl,h3,h4⟩:=aJ.1 hd;exact aJ.2 ⟨v,rest,rfl,(wk E d).1 a b v h1 h3,uJ E h2 h4⟩
theorem wm(E:Emb g ρ H O aU H' O'){d:Nat}:∀{aT dA:List AV} {cs:List Value},allM (rn g d) aT=some dA->aE ρ H O w aT cs->aE aU H' O' w dA cs
 |[],dA,vs,h,hd=>by simp only[allM,Option.some.injEq]at h;subst h;rw[aG.1 hd];exact aG.2 rfl
 |a::aT,dA,vs,h,hd=>by
  obtain⟨b,bs,h1,h2,rfl⟩:=allM_cons h;obtain⟨c1,c2,rfl,h3,h4⟩:=aq.1 hd;exact aq.2 ⟨c1,c2,rfl,(wk E d).2 a b c1 h1 h3,wm E h2 h4⟩
theorem aaA(E:Emb g ρ H O aU H' O'){o o':au}{aa:Value}(h:wj g o=some o')(hs:iB ρ H O w aa o):iB aU H' O' w aa o':=by
 cases o with
 |aH=>simp only[wj,Option.some.injEq]at h;subst h;trivial|map ck m=>simp only[wj,Option.some.injEq]at h;subst h;exact hs|xP ck m gid=>
  have⟨b,es,clock,h0,h1,h2,h3,h4⟩:=hs;simp only[wj]at h;split at h;rename_i j hj;simp only[Option.some.injEq]at h;subst h;have⟨e1,e2⟩:=E.id _ _ hj;have⟨o,ho⟩:=isSome_iff_exists.1 h4;have⟨o',du,_⟩:=e2 o ho;exact⟨b,es,clock,h0,h1,h2,by rw[e1];exact h3,by rw[du];rfl⟩;simp only[Option.some.injEq]at h;subst h;exact⟨b,es,clock,h0,h1,h2⟩
 |iter mid gid ck left cur=>
  have⟨b,mb,es,clock,seen,h0,h1,h2,h3,h4,h5,h6⟩:=hs;simp only[wj]at h;split at h;rename_i i j hi hj;simp only[Option.some.injEq]at h;subst h;have⟨e1,e2⟩:=E.id _ _ hj;have⟨o,ho⟩:=isSome_iff_exists.1 h4;have⟨o',du,_⟩:=e2 o ho;have⟨e3,e4⟩:=E.id _ _ hi;have⟨p,hp⟩:=isSome_iff_exists.1 h6;have⟨p',zW,_⟩:=e4 p hp;exact⟨b,mb,es,clock,seen,h0,h1,h2,by rw[e1];exact h3,by rw[du];rfl,by rw[e3];exact h5,by rw[zW];rfl⟩;cases h
 |ak aD e=>
  simp only[wj,map_eq_some_iff]at h;obtain⟨l,hl,rfl⟩:=h;have⟨b,cells,fr,h0,h1,h2,h3⟩:=hs;exact⟨b,cells,fr,h0,h1,h2,wm E hl h3⟩
 |vec c e=>
  simp only[wj,Option.some.injEq]at h;subst h;have⟨r,cap,h0,h1,h2,h3⟩:=hs;refine⟨r,cap,h0,h1,h2,h3.imp id ?_⟩;rintro⟨b,f,cells,fr,us,h4,h5,h6,h7,h8⟩;exact⟨b,f,cells,fr,us,h4,h5,h6,h7,λi j hi hj=>⟨(h8 i j hi hj).1,(h8 i j hi hj).2.less E.gf⟩⟩
theorem cQ{o o':au}(h:wj g o=some o'):o'.alive=o.alive/\∀c e,o'=.vec c e->o=.vec c e:=by
 cases o with
 |aH=>simp only[wj,Option.some.injEq]at h;subst h;exact⟨rfl,λc e hc=>by cases hc⟩
 |map ck m=>simp only[wj,Option.some.injEq]at h;subst h;exact⟨rfl,λc e hc=>by cases hc⟩
 |xP ck m gid=>
  simp only[wj]at h;split at h<;>simp only[Option.some.injEq]at h<;>subst h<;>exact⟨rfl,λc e hc=>by cases hc⟩
 |iter mid gid ck left cur=>
  simp only[wj]at h;split at h;simp only[Option.some.injEq]at h;subst h;exact⟨rfl,λc e hc=>by cases hc⟩;cases h
 |ak aD e=>
  simp only[wj,map_eq_some_iff]at h;obtain⟨l,hl,rfl⟩:=h;exact⟨rfl,λc e hc=>by cases hc⟩
 |vec c e=>simp only[wj,Option.some.injEq]at h;subst h;exact⟨rfl,λc e hc=>hc⟩
def akm:List Nat->Nat->Nat->Option Nat
 |[],_,_=>none|x::xs,k,id=>bif x.beq id then some k else akm xs (k+1) id
def idx(σ:List Nat)(id:Nat):Option Nat:=akm σ 0 id
def re(σ:List Nat)(L:List au):Option (List au):=allM (λid=>match L[id]? with|some o=>wj (idx σ) o|none=>none) σ
def sK:List Nat->Bool
 |[]=>true|x::xs=> !(xs.any (x.beq ·))&&sK xs
theorem yO:∀{σ:List Nat} {k id j:Nat},akm σ k id=some j->k<=j/\σ[j - k]? =some id
 |[],k,id,j,h=>by simp[akm]at h
 |x::xs,k,id,j,h=>by
  simp only[akm,cond_eq_ite]at h;split at h;rename_i hx;obtain rfl:x=id:=Nat.eq_of_beq_eq_true hx;obtain rfl:k=j:=by simpa using h
  exact⟨le_refl _,by simp⟩;have⟨h1,h2⟩:=yO h;refine⟨by omega, ?_⟩;rw[show j - k=(j - (k+1))+1 from by omega];simpa using h2
theorem acg{σ:List Nat}{id j:Nat}(h:idx σ id=some j):σ[j]? =some id:=by simpa using(yO h).2
theorem kU:∀{σ:List Nat},sK σ=true->σ.Nodup
 |[],_=>.nil|x::xs,h=>by
  simp only[sK,and_eq_true,not_eq_true',List.any_eq_false]at h;refine List.nodup_cons.2 ⟨λhm=> ?_,kU h.2⟩;have:=h.1 x hm;simp at this
theorem oX{σ:List Nat}{L L':List au}(h:re σ L=some L'){j:Nat}{o':au}(hj:L'[j]? =some o'):∃(id:Nat) (o:au),σ[j]? =some id/\L[id]? =some o/\wj (idx σ) o=some o':=by
 have bx:=gS h;have br:j<σ.length:=by rw[<-bx];exact(List.getElem?_eq_some_iff.1 hj).1
 have⟨b,h1,h2⟩:=gq h j σ[j] (getElem?_eq_getElem br);rw[hj]at h2;simp only[Option.some.injEq]at h2;subst h2;split at h1;rename_i o ho;exact⟨σ[j],o,getElem?_eq_getElem br,ho,h1⟩;cases h1
theorem ach{σ:List Nat}{L L':List au}(h:re σ L=some L'){j id:Nat}(hj:σ[j]? =some id):∃o o',L[id]? =some o/\wj (idx σ) o=some o'/\L'[j]? =some o':=by
 have⟨b,h1,h2⟩:=gq h j id hj;split at h1;rename_i o ho;exact⟨o,b,ho,h1,h2⟩;cases h1
def pull(σ:List Nat)(ρ:Nat->Value):Nat->Value:=λj=>ρ (σ.getD j 0)
theorem rf{σ:List Nat}{L L':List au}(hv:re σ L=some L'){b:Nat}(h:Own (pull σ ρ) (λj=>L'[j]?) b):∃(j id:Nat) (o:au),σ[j]? =some id/\L[id]? =some o/\o.alive=true/\eQ (ρ id)=some b:=by
 have⟨j,o',du,ha,hb⟩:=h;have⟨id,o,h1,h2,h3⟩:=oX hv du;have:pull σ ρ j=ρ id:=by simp[pull,List.getD,h1]
 rw[this]at hb;exact⟨j,id,o,h1,h2,by rw[<-(cQ h3).1];exact ha,hb⟩
theorem sL{σ:List Nat}{L L':List au}{G':Nat->Prop}(hs:Sat ρ (λi=>L[i]?) G w)(hn:σ.Nodup)(hv:re σ L=some L')(hG:∀b,G' b->bg ρ (λi=>L[i]?) G b)(hap:∀b,Own (pull σ ρ) (λj=>L'[j]?) b->¬G' b):
 Sat (pull σ ρ) (λj=>L'[j]?) G' w/\Emb (idx σ) ρ (λi=>L[i]?) (bg ρ (λi=>L[i]?) G) (pull σ ρ) (λj=>L'[j]?) (bg (pull σ ρ) (λj=>L'[j]?) G'):=by
 have ot:∀{j id:Nat},σ[j]? =some id->pull σ ρ j=ρ id:=λh1=>by simp[pull,List.getD,h1]
 have E:Emb (idx σ) ρ (λi=>L[i]?) (bg ρ (λi=>L[i]?) G) (pull σ ρ) (λj=>L'[j]?) (bg (pull σ ρ) (λj=>L'[j]?) G'):=by
  refine⟨λi j nZ=> ?_,λb hb=> ?_⟩;have h1:=acg nZ;refine⟨ot h1,λo ho=> ?_⟩;have⟨o1,o',h2,h3,h4⟩:=ach hv h1;rw[show L[i]? =some o from ho]at h2;simp only[Option.some.injEq]at h2;subst h2;exact⟨o',h4,(cQ h3).2⟩;rcases hb with hb|hb;have⟨j,id,o,h1,h2,h3,h4⟩:=rf hv hb;exact .inl ⟨id,o,h2,h3,h4⟩;exact hG b hb
 refine⟨⟨λj o' du=> ?_,λi j oi oj b hi hj ai aj bi bj=> ?_,hap,λb hb=>zX hs (hG b hb)⟩,E⟩;have⟨id,o,h1,h2,h3⟩:=oX hv du;rw[ot h1];exact aaA E h3 (hs.obj id o h2);have⟨id,o,h1,h2,h3⟩:=oX hv hi;have⟨id',o',h1',h2',h3'⟩:=oX hv hj;rw[ot h1]at bi;rw[ot h1']at bj;have:=hs.inj id id' o o' b h2 h2' (by rw[<-(cQ h3).1];exact ai) (by rw[<-(cQ h3').1];exact aj) bi bj;subst this;have fh:=List.getElem?_eq_some_iff.1 h1;have jJ:=List.getElem?_eq_some_iff.1 h1';have⟨hi1,hi2⟩:=fh;have⟨hj1,yG⟩:=jJ;exact(List.getElem_inj hn).1 (hi2.trans yG.symm)
theorem yP{σ:List Nat}{L L':List au}{ρ0:Nat->Value}{H0:a8}{O0:Nat->Prop}{w0:World}{m:Nat}(hs:Sat ρ (λi=>L[i]?) G w)(hn:σ.Nodup)(hv:re σ L=some L')(aim:∀i,i<m->σ[i]? =some i)(h0:∀id,m<=id->H0 id=none)
 (st:Step ρ0 H0 O0 w0 ρ (λi=>L[i]?) (bg ρ (λi=>L[i]?) G) w):Step ρ0 H0 O0 w0 (pull σ ρ) (λj=>L'[j]?) (bg (pull σ ρ) (λj=>L'[j]?) G) w:=by
 have E:=(sL (G':=G) hs hn hv (λb hb=>.inr hb) (λb hb=>by
  have⟨j,id,o,h1,h2,h3,h4⟩:=rf hv hb;exact hs.apart b ⟨id,o,h2,h3,h4⟩)).2
 have br:∀{id:Nat} {o:au},H0 id=some o->id<m:=λ{id o} h=>by
  rcases lt_or_ge id m with h1|h1;exact h1;rw[h0 id h1]at h;cases h
 refine⟨λid o ho=> ?_,λid o ho=> ?_,λb hb=>st.gf b (E.gf b hb),st.heap,st.size⟩;rw[show pull σ ρ id=ρ id from by simp[pull,List.getD,aim id (br ho)]];exact st.yq id o ho;have⟨o1,h1,h2⟩:=st.fj id o ho;have⟨o2,o',h3,h4,h5⟩:=ach hv (aim id (br ho));rw[show L[id]? =some o1 from h1]at h3;simp only[Option.some.injEq]at h3;subst h3;exact⟨o',h5,λc e hc=>h2 c e ((cQ h4).2 c e hc)⟩
theorem Good.view{σ:List Nat}{L L':List au}{m d:Nat}{r r':AV}{v:Value}(h:Good ρ H G w (λi=>L[i]?) r v w')(hn:σ.Nodup)(hv:re σ L=some L')(aim:∀i,i<m->σ[i]? =some i)(h0:∀id,m<=id->H id=none)(hr:rn (idx σ) d r=some r'):
 Good ρ H G w (λi=>L'[i]?) r' v w':=by
 have⟨aU,h1,h2,h3,h4⟩:=h
 have⟨h5,h6⟩:=sL (G':=G) h1 hn hv (λb hb=>.inr hb) (λb hb=>by
  have⟨j,id,o,h1',h2,h3,h4⟩:=rf hv hb;exact h1.apart b ⟨id,o,h2,h3,h4⟩)
 exact⟨pull σ aU,h5,(wk h6 d).1 r r' v hr h2,yP h1 hn hv aim h0 h3,h4⟩
theorem cq.view{σ:List Nat}{tmps tM:List AV}{L L':List au}{m d:Nat}(h:cq X ρ ⟨tmps,L⟩ a w)(hn:σ.Nodup)(hv:re σ L=some L')(aim:∀i,i<m->σ[i]? =some i)(h0:∀id,m<=id->X.H id=none)(ht:allM (rn (idx σ) d) tmps=some tM):
 cq X (pull σ ρ) ⟨tM,L'⟩ a w:=by
 have hs:Sat ρ (λi=>L[i]?) X.G w:=h.sat
 have⟨h5,h6⟩:=sL (G':=X.G) hs hn hv (λb hb=>.inr hb) (λb hb=>by
  have⟨j,id,o,h1',h2,h3,h4⟩:=rf hv hb;exact hs.apart b ⟨id,o,h2,h3,h4⟩)
 refine⟨h5,by rw[<-h.size];exact gS ht,λt=> ?_,h.defers,yP hs hn hv aim h0 h.ao,h.jr,h.kept⟩;have hd:=h.den t;simp only[]at hd ⊢;rcases lt_or_ge t tmps.length with br|hge;have⟨b,h1,h2⟩:=gq ht t tmps[t] (getElem?_eq_getElem br);have e1:tmps.getD t (.s .bm)=tmps[t]:=by simp[List.getD,br]
 have e2:tM.getD t (.s .bm)=b:=by simp[List.getD,h2]
 rw[e1]at hd;rw[e2];exact(wk h6 d).1 _ _ _ h1 hd
 have e2:tM.getD t (.s .bm)=.s .bm:=by
  have:=gS ht;simp[List.getD,getElem?_eq_none (show tM.length<=t by omega)]
 rw[e2];unfold ag;trivial
def ek(ks:List Nat):Nat->List AV->List AV
 |_,[]=>[]|i,a::aT=>(bif ks.any (i.beq ·)then a else .s .bm)::ek ks (i+1) aT
theorem nq(ks:List Nat):∀(i:Nat) (aT:List AV),(ek ks i aT).length=aT.length
 |_,[]=>rfl|i,a::aT=>by simp[ek,nq ks (i+1) aT]
theorem rh(ks:List Nat):∀(i:Nat) (aT:List AV) (t:Nat),(ek ks i aT).getD t (.s .bm)=aT.getD t (.s .bm)\/(ek ks i aT).getD t (.s .bm)=.s .bm
 |_,[],t=>.inl rfl|i,a::aT,0=>by
  simp only[ek,List.getD_cons_zero];cases ks.any (i.beq ·);exact .inr rfl;exact .inl rfl
 |i,a::aT,t+1=>by
  simp only[ek,List.getD_cons_succ];exact rh ks (i+1) aT t
theorem cq.ek{tmps:List AV}{L:List au}(ks:List Nat)(h:cq X ρ ⟨tmps,L⟩ a w):cq X ρ ⟨ek ks 0 tmps,L⟩ a w:=by
 refine⟨h.sat,by rw[<-h.size];exact nq ks 0 tmps,λt=> ?_,h.defers,h.ao,h.jr,h.kept⟩;rcases rh ks 0 tmps t with h1|h1;simp only[];rw[h1];exact h.den t;simp only[];rw[h1];unfold ag;trivial
def oY(c:ba)(e:TypeId)(t:Nat)(tmps:List AV)(L:List au):List AV×List au:=
 match tmps.getD t (.s .bm)with
 |.emp=>bif c.n.beq 0 then(tmps.set t (.vec L.length),L++[.vec c e])else(tmps,L)|_=>(tmps,L)
theorem Step.alloc{v:Value}{c:ba}{e:TypeId}{L:List au}(hb:eQ v=none):
 Step ρ (λi=>L[i]?) (bg ρ (λi=>L[i]?) G) w (λj=>if j=L.length then v else ρ j) (λi=>(L++[.vec c e])[i]?) (bg (λj=>if j=L.length then v else ρ j) (λi=>(L++[.vec c e])[i]?) G) w:=by
 have br:∀{id:Nat} {o:au},L[id]? =some o->id<L.length:=λh=>(List.getElem?_eq_some_iff.1 h).1;refine⟨λid o ho=> ?_,λid o ho=> ?_,λb vF=>.inl ?_,λ_ _ _=>rfl,le_refl _⟩;have:=br ho;rw[if_neg (by omega)];have h1:=br ho;exact⟨o,by show(L++[.vec c e])[id]? =_;rw[getElem?_append_left h1];exact ho,λc' e' hc=>⟨c',e',hc,rfl,rfl⟩⟩;rcases vF with⟨id,o,ho,ha,hbl⟩|hg;by_cases dI:id=L.length;simp only[dI,if_true]at hbl;rw[hb]at hbl;cases hbl;simp only[dI,if_false]at hbl
 have du:L[id]? =some o:=by
  have h2:=(List.getElem?_eq_some_iff.1 ho).1;simp only[length_append,length_cons,length_nil]at h2;have h3:id<L.length:=by omega
  have h4:(L++[.vec c e])[id]? =L[id]? :=getElem?_append_left h3;rw[<-h4];exact ho
 exact .inl ⟨id,o,du,ha,hbl⟩;exact .inr hg
theorem cq.oY{c:ba}{e:TypeId}{t:Nat}{tmps:List AV}{L:List au}(h:cq X ρ ⟨tmps,L⟩ a w):∃aU,cq X aU ⟨(oY c e t tmps L).1,(oY c e t tmps L).2⟩ a w:=by
 unfold Sx.oY;split;rename_i he;rw[cond_eq_ite];split;rename_i hc;have hc:c.n=0:=Nat.eq_of_beq_eq_true hc;have hd:=h.den t;simp only[]at hd;rw[he]at hd;unfold ag at hd;have⟨r,hv⟩:=hd;have mB:eQ (.slice r 0 0)=none:=by cases r<;>simp[eQ]
 let aU:Nat->Value:=λj=>if j=L.length then .slice r 0 0 else ρ j
 have st:Step ρ (λi=>L[i]?) (bg ρ (λi=>L[i]?) X.G) w aU (λi=>(L++[.vec c e])[i]?) (bg aU (λi=>(L++[.vec c e])[i]?) X.G) w:=Step.alloc mB;have hs:Sat ρ (λi=>L[i]?) X.G w:=h.sat
 have old:∀{id:Nat} {o:au},(L++[.vec c e])[id]? =some o->(id=L.length/\o=.vec c e)\/(id≠L.length/\L[id]? =some o):=by
  intro id o ho;have h2:=(List.getElem?_eq_some_iff.1 ho).1;simp only[length_append,length_cons,length_nil]at h2;by_cases dI:id=L.length;subst dI;simp at ho;exact .inl ⟨rfl,ho.symm⟩;refine .inr ⟨dI, ?_⟩;rwa[getElem?_append_left (by omega)]at ho
 have dR:∀b,Own aU (λi=>(L++[.vec c e])[i]?) b->Own ρ (λi=>L[i]?) b:=by
  rintro b ⟨id,o,ho,ha,hb⟩;rcases old ho with⟨h1,h2⟩|⟨h1,h2⟩;simp only[aU,h1,if_true]at hb;rw[mB]at hb;cases hb;simp only[aU,h1,if_false]at hb;exact⟨id,o,h2,ha,hb⟩
 refine⟨aU,⟨⟨λid o ho=> ?_,λi j oi oj b hi hj ai aj bi bj=> ?_,λb hb=>hs.apart b (dR b hb),hs.low⟩,by simpa using h.size,λu=> ?_,h.defers, ?_,h.jr,h.kept⟩⟩;rcases old ho with⟨h1,h2⟩|⟨h1,h2⟩;subst h2;simp only[aU,h1,if_true];exact⟨r,0,by rw[hc],by omega,zero_le _,.inl rfl⟩;simp only[aU,h1,if_false];exact(hs.obj id o h2).step st (λ_ _ _=>rfl);rcases old hi with⟨h1,h2⟩|⟨h1,h2⟩;simp only[aU,h1,if_true]at bi;rw[mB]at bi;cases bi;rcases old hj with⟨h3,h4⟩|⟨h3,h4⟩;simp only[aU,h3,if_true]at bj;rw[mB]at bj;cases bj;simp only[aU,h1,if_false]at bi;simp only[aU,h3,if_false]at bj;exact hs.inj i j oi oj b h2 h4 ai aj bi bj;simp only[];rw[cV];split;rename_i hu;obtain⟨rfl,_⟩:=hu;rw[hv];unfold ag aS;refine⟨rfl,.vec c e,by simp[St.look],λc' e' _=> ?_⟩;exact(if_pos rfl).symm;exact ag.step st _ _ (h.den u);exact h.ao.trans st;exact⟨ρ,h⟩;exact⟨ρ,h⟩
def age:Nat->AV->List Nat
 |0,_=>[]|d+1,a=>match a with
  |.ptr id _|.j9 id _ _ _|.vec id|.gC id _ _|.part id _ _|.iz id|.tag id|.sub id _ _|.kH id _ _ _=>[id]|.agg aT|.bd aT|.fn _ aT|.fnb _ aT=>aT.flatMap (age d)|_=>[]
def akn:Option au->List Nat
 |some (.ak aD _)=>aD.flatMap (age 20)|some (.iter mid gid _ _ _)=>[mid,gid]|_=>[]
def reach(L:List au):Nat->List Nat->List Nat->List Nat
 |0,_,acc=>acc|_,[],acc=>acc|n+1,id::todo,acc=>bif acc.any (id.beq ·)then reach L n todo acc else reach L n (todo++akn L[id]?) (acc++[id])
def asL(m:Nat)(σ:List Nat):Bool:=(List.range m).all λi=>match σ[i]? with|some j=>i.beq j|none=>false
structure Norm where
 pT:List (Nat×ba×TypeId)
 fj:List Nat
 m:Nat
 cells:List (Nat×Nat×Bool×ba×TypeId)
def gr:List (Nat×ba×TypeId)->List AV->List au->List AV×List au
 |[],tmps,L=>(tmps,L)|(t,c,e)::ns,tmps,L=>let p:=oY c e t tmps L;gr ns p.1 p.2
def ri(id j:Nat)(c:ba)(e:TypeId)(L:List au):List au:=
 match L[id]? with
 |some (.ak aD e0)=>(match aD[j]? with
  |some .emp=>bif c.n.beq 0 then L.set id (.ak (aD.set j (.vec L.length)) e0)++[.vec c e]else L|_=>L)
 |_=>L
def wo(id j:Nat)(c:ba)(L:List au):List au:=
 match L[id]? with
 |some (.ak aD e0)=>(match aD[j]? with
  |some .emp=>bif c.n.beq 0 then L.set id (.ak (aD.set j (.s (.ro c))) e0)else L|_=>L)
 |_=>L
def rj(id j:Nat)(L:List au):List au:=
 match L[id]? with
 |some (.ak aD e0)=>(match aD[j]? with
  |some (.vec v)=>(match L[v]? with
   |some (.vec c _)=>(L.set v .aH).set id (.ak (aD.set j (.s (.ro c))) e0)|_=>L)
  |_=>L)
 |_=>L
def gu:List (Nat×Nat×Bool×ba×TypeId)->List au->List au
 |[],L=>L|(id,j,ro,c,e)::ns,L=>gu ns (bif ro then rj id j (wo id j c L)else ri id j c e L)
def roots(L:List au)(m:Nat)(tmps:List AV):List Nat:=
 reach L 4000 ((List.range m).flatMap (λi=>akn L[i]?)++tmps.flatMap (age 20)) (List.range m)
def fY(m:Nat)(tmps:List AV)(L:List au):Option (List AV×List au):=
 let σ:=roots L m tmps
 bif sK σ&&asL m σ then
  match re σ L,allM (rn (idx σ) 20) tmps with
  |some L',some tM=>some (tM,L')|_,_=>none
 else none
def Norm.run(N:Norm)(c:bQ):Option bQ:=
 match fY N.m (ek N.fj 0 c.tmps) c.H with
 |some (t1,L1)=>
  let p:=gr N.pT t1 L1
  (match fY N.m p.1 (gu N.cells p.2)with
  |some (t2,L2)=>some ⟨t2,L2,c.todo,c.stk⟩|none=>none)
 |none=>none
theorem wq:∀(aD:List AV) (j:Nat) {cells:List Value},aD[j]? =some .emp->aE ρ H O w aD cells->
 ∃r,∀(aU:Nat->Value) (H':a8) (O':Nat->Prop) (x:AV),(∀a cs,aX ρ H O w a cs->aX aU H' O' w a cs)->aX aU H' O' w x [.slice r 0 0]->aE aU H' O' w (aD.set j x) cells
 |[],j,cells,h,hd=>by simp at h
 |a::aT,0,cells,h,hd=>by
  simp only[List.getElem?_cons_zero,Option.some.injEq]at h;subst h;obtain⟨c1,c2,rfl,h1,h2⟩:=aq.1 hd;unfold aX at h1;obtain⟨u,rfl,r,rfl⟩:=h1;refine⟨r,λaU H' O' x hs hx=> ?_⟩;simp only[List.set_cons_zero];refine aq.2 ⟨_,c2,rfl,hx, ?_⟩;clear hd
  induction aT generalizing c2 with
  |nil=>rw[aG.1 h2];exact aG.2 rfl|cons b bs ih=>
   obtain⟨d1,d2,rfl,h3,h4⟩:=aq.1 h2;exact aq.2 ⟨d1,d2,rfl,hs _ _ h3,ih d2 h4⟩
 |a::aT,j+1,cells,h,hd=>by
  obtain⟨c1,c2,rfl,h1,h2⟩:=aq.1 hd;have⟨r,h3⟩:=wq aT j (by simpa using h) h2;refine⟨r,λaU H' O' x hs hx=> ?_⟩;simp only[List.set_cons_succ];exact aq.2 ⟨c1,c2,rfl,hs _ _ h1,h3 aU H' O' x hs hx⟩
theorem cq.ri{id j:Nat}{c:ba}{e:TypeId}{tmps:List AV}{L:List au}(h:cq X ρ ⟨tmps,L⟩ a w):∃aU,cq X aU ⟨tmps,ri id j c e L⟩ a w:=by
 unfold Sx.ri;split;rename_i aD e0 dI;split;rename_i hj;rw[cond_eq_ite];split;rename_i hc;have hc:c.n=0:=Nat.eq_of_beq_eq_true hc;have hs:Sat ρ (λi=>L[i]?) X.G w:=h.sat;have⟨b,cells,fr,h0,h1,h2,h3⟩:=hs.obj id _ dI;have⟨r,nS⟩:=wq aD j hj h3;have mB:eQ (.slice r 0 0)=none:=by cases r<;>simp[eQ]
 have br:id<L.length:=(List.getElem?_eq_some_iff.1 dI).1;let aU:Nat->Value:=λk=>if k=L.length then .slice r 0 0 else ρ k
 let L':=L.set id (.ak (aD.set j (.vec L.length)) e0)++[.vec c e]
 have old:∀{k:Nat} {o:au},L'[k]? =some o->(k=L.length/\o=.vec c e)\/(k=id/\k≠L.length/\o=.ak (aD.set j (.vec L.length)) e0)\/(k≠L.length/\k≠id/\L[k]? =some o):=by
  intro k o ho;have h2:=(List.getElem?_eq_some_iff.1 ho).1;simp only[L',length_append,List.length_set,length_cons,length_nil]at h2;by_cases hk:k=L.length;subst hk;simp only[L']at ho;rw[getElem?_append_right (by simp)]at ho;simp at ho;exact .inl ⟨rfl,ho.symm⟩;simp only[L']at ho;rw[getElem?_append_left (by simp;omega),getElem?_set]at ho;split at ho;rename_i hki;exact .inr (.inl ⟨hki.symm,hk,by simpa using ho.symm⟩);rename_i hki;exact .inr (.inr ⟨hk,Ne.symm hki,ho⟩)
 have new:∀{k:Nat} {o:au},L[k]? =some o->∃o',L'[k]? =some o'/\(∀c' e',o'=.vec c' e'->o=.vec c' e'):=by
  intro k o ho;have hk:k<L.length:=(List.getElem?_eq_some_iff.1 ho).1;by_cases hki:k=id;subst hki;refine⟨.ak (aD.set j (.vec L.length)) e0, ?_,λc' e' hc=>by cases hc⟩;simp only[L'];rw[getElem?_append_left (by simpa using hk),List.getElem?_set_self hk];refine⟨o, ?_,λc' e' hc=>hc⟩;simp only[L'];rw[getElem?_append_left (by simpa using hk),List.getElem?_set_ne (Ne.symm hki)];exact ho
 have dR:∀b,Own aU (λi=>L'[i]?) b->Own ρ (λi=>L[i]?) b:=by
  rintro b ⟨k,o,ho,ha,hb⟩;rcases old ho with⟨h1,h2⟩|⟨h1,h2,h3⟩|⟨h1,h2,h3⟩;simp only[aU,h1,if_true]at hb;rw[mB]at hb;cases hb;simp only[aU,h2,if_false]at hb;exact⟨id,_,dI,rfl,h1▸hb⟩;simp only[aU,h1,if_false]at hb;exact⟨k,o,h3,ha,hb⟩
 have st:Step ρ (λi=>L[i]?) (bg ρ (λi=>L[i]?) X.G) w aU (λi=>L'[i]?) (bg aU (λi=>L'[i]?) X.G) w:=by
  refine⟨λk o ho=> ?_,λk o ho=> ?_,λb hb=>.inl ?_,λ_ _ _=>rfl,le_refl _⟩;have hk:k<L.length:=(List.getElem?_eq_some_iff.1 ho).1;simp only[aU];rw[if_neg (by omega)];have⟨o',h4,h5⟩:=new ho;exact⟨o',h4,λc' e' hc=>⟨c',e',h5 c' e' hc,rfl,rfl⟩⟩;rcases hb with hb|hb;exact .inl (dR b hb);exact .inr hb
 have sM:aS aU (λi=>L'[i]?) (bg aU (λi=>L'[i]?) X.G) w (.vec L.length) (.slice r 0 0):=by
  unfold aS;refine⟨rfl,.vec c e, ?_,λc' e' _=>(if_pos rfl).symm⟩;simp only[L'];rw[getElem?_append_right (by simp)];simp
 refine⟨aU,⟨⟨λk o ho=> ?_,λi l oi ol b hi hl ai al bi bl=> ?_,λb hb=>hs.apart b (dR b hb),hs.low⟩,h.size,λu=>ag.step st _ _ (h.den u),h.defers,h.ao.trans st,h.jr,h.kept⟩⟩;rcases old ho with⟨g1,g2⟩|⟨g1,g2,g3⟩|⟨g1,g2,g3⟩;subst g2;simp only[aU,g1,if_true];exact⟨r,0,by rw[hc],by omega,zero_le _,.inl rfl⟩;subst g3;simp only[aU,g2,if_false];rw[g1,h0];exact⟨b,cells,fr,rfl,h1,h2,nS aU _ _ _ (λa cs hd=>aX.step st a cs hd) (by unfold aX;exact⟨_,rfl,sM⟩)⟩;simp only[aU,g1,if_false];exact(hs.obj k o g3).step st (λ_ _ _=>rfl)
 have low:∀{k:Nat} {o:au},L'[k]? =some o->o.alive=true->eQ (aU k)=some b->∃o2,L[k]? =some o2/\o2.alive=true/\eQ (ρ k)=some b:=by
  intro k o ho ha hb;rcases old ho with⟨g1,g2⟩|⟨g1,g2,g3⟩|⟨g1,g2,g3⟩;simp only[aU,g1,if_true]at hb;rw[mB]at hb;cases hb;simp only[aU,g2,if_false]at hb;exact⟨_,g1▸dI,rfl,hb⟩;simp only[aU,g1,if_false]at hb;exact⟨o,g3,ha,hb⟩
 have⟨o1,q1,q2,q3⟩:=low hi ai bi;have⟨o2,q4,q5,q6⟩:=low hl al bl;exact hs.inj i l o1 o2 b q1 q4 q2 q5 q3 q6;exact⟨ρ,h⟩;exact⟨ρ,h⟩;exact⟨ρ,h⟩
theorem rk{c:ba}(hc:c.n=0)(r:Option Addr):bh O w (.ro c) (.slice r 0 0):=by
 have:=bh.ro (O:=O) (w:=w) c r 0 (λ_ _=>undef) 0 0 (by omega) (zero_le _) (λh=>by omega) (λi j hi hj=>by omega) (λi j hi hj=>by omega);rwa[hc]at this
theorem cq.wo{id j:Nat}{c:ba}{tmps:List AV}{L:List au}(h:cq X ρ ⟨tmps,L⟩ a w):cq X ρ ⟨tmps,wo id j c L⟩ a w:=by
 unfold Sx.wo;split;rename_i aD e0 dI;split;rename_i hj;rw[cond_eq_ite];split;rename_i hc;have hc:c.n=0:=Nat.eq_of_beq_eq_true hc;have hs:Sat ρ (λi=>L[i]?) X.G w:=h.sat;have⟨b,cells,fr,h0,h1,h2,h3⟩:=hs.obj id _ dI;have⟨r,nS⟩:=wq aD j hj h3;have br:id<L.length:=(List.getElem?_eq_some_iff.1 dI).1;let L':=L.set id (.ak (aD.set j (.s (.ro c))) e0)
 have old:∀{k:Nat} {o:au},L'[k]? =some o->(k=id/\o=.ak (aD.set j (.s (.ro c))) e0)\/(k≠id/\L[k]? =some o):=by
  intro k o ho;simp only[L']at ho;rw[getElem?_set]at ho;split at ho;rename_i hki;exact .inl ⟨hki.symm,by simpa using ho.symm⟩;rename_i hki;exact .inr ⟨Ne.symm hki,ho⟩
 have dR:∀b,Own ρ (λi=>L'[i]?) b->Own ρ (λi=>L[i]?) b:=by
  rintro b ⟨k,o,ho,ha,hb⟩;rcases old ho with⟨h1,h2⟩|⟨h1,h2⟩;exact⟨id,_,dI,rfl,h1▸hb⟩;exact⟨k,o,h2,ha,hb⟩
 have st:Step ρ (λi=>L[i]?) (bg ρ (λi=>L[i]?) X.G) w ρ (λi=>L'[i]?) (bg ρ (λi=>L'[i]?) X.G) w:=by
  refine⟨λ_ _ _=>rfl,λk o ho=> ?_,λb hb=>.inl ?_,λ_ _ _=>rfl,le_refl _⟩;by_cases hk:k=id;subst hk;refine⟨.ak (aD.set j (.s (.ro c))) e0, ?_,λc' e' hc=> ?_⟩;show(L.set k _)[k]? =_;rw[List.getElem?_set_self br];cases hc;refine⟨o, ?_,λc' e' hc=>⟨c',e',hc,rfl,rfl⟩⟩;show(L.set id _)[k]? =_;rw[List.getElem?_set_ne (Ne.symm hk)];exact ho;rcases hb with hb|hb;exact .inl (dR b hb);exact .inr hb
 refine⟨⟨λk o ho=> ?_,λi l oi ol b hi hl ai al bi bl=> ?_,λb hb=>hs.apart b (dR b hb),hs.low⟩,h.size,λu=>ag.step st _ _ (h.den u),h.defers,h.ao.trans st,h.jr,h.kept⟩;rcases old ho with⟨g1,g2⟩|⟨g1,g2⟩;subst g2;rw[g1,h0];exact⟨b,cells,fr,rfl,h1,h2,nS ρ _ _ _ (λa cs hd=>aX.step st a cs hd) (by unfold aX;exact⟨_,rfl,rk hc r⟩)⟩;exact(hs.obj k o g2).step st (λ_ _ _=>rfl)
 have low:∀{k:Nat} {o:au},L'[k]? =some o->o.alive=true->∃o2,L[k]? =some o2/\o2.alive=true:=by
  intro k o ho ha;rcases old ho with⟨g1,g2⟩|⟨g1,g2⟩;exact⟨_,g1▸dI,rfl⟩;exact⟨o,g2,ha⟩
 have⟨o1,q1,q2⟩:=low hi ai;have⟨o2,q4,q5⟩:=low hl al;exact hs.inj i l o1 o2 b q1 q4 q2 q5 bi bl;exact h;exact h;exact h
theorem aci:∀(aD:List AV) (j:Nat) {cells:List Value} {a:AV},aD[j]? =some a→aE ρ H O w aD cells→
 ∃cs,aX ρ H O w a cs∧∀(aU:Nat→Value) (H':a8) (O':Nat→Prop) (x:AV),(∀a cs,aX ρ H O w a cs→aX aU H' O' w a cs)→aX aU H' O' w x cs→aE aU H' O' w (aD.set j x) cells
 |[],j,cells,a,h,hd=>by simp at h
 |b::aT,0,cells,a,h,hd=>by
  simp only[List.getElem?_cons_zero,Option.some.injEq]at h;subst h;obtain⟨c1,c2,rfl,h1,h2⟩:=aq.1 hd;refine⟨c1,h1,fun aU H' O' x hs hx=> ?_⟩;simp only[List.set_cons_zero];refine aq.2 ⟨_,c2,rfl,hx, ?_⟩;clear hd
  induction aT generalizing c2 with
  |nil=>rw[aG.1 h2];exact aG.2 rfl
  |cons b bs ih=>
   obtain⟨d1,d2,rfl,h3,h4⟩:=aq.1 h2;exact aq.2 ⟨d1,d2,rfl,hs _ _ h3,ih d2 h4⟩
 |b::aT,j+1,cells,a,h,hd=>by
  obtain⟨c1,c2,rfl,h1,h2⟩:=aq.1 hd;obtain⟨cs,h3,h4⟩:=aci aT j (by simpa using h) h2;refine⟨cs,h3,fun aU H' O' x hs hx=> ?_⟩;simp only[List.set_cons_succ];exact aq.2 ⟨c1,c2,rfl,hs _ _ h1,h4 aU H' O' x hs hx⟩
theorem ain(hs:Sat ρ H G w){id:Nat}{c:ba}{e:TypeId}(ho:H id=some (.vec c e)):bh (bg ρ (aP H id .aH) G) w (.ro c) (ρ id):=by
 have ej:=hs.obj id _ ho;have⟨a,cap,hr,h2,h3,h4⟩:=ej;have aj5:∀b,bg ρ (aP H id .aH) G b->bg ρ H G b:=λb hb=>hb.imp eY (λx=>x);rw[hr];by_cases hc:cap=0;have h0:c.n=0:=by omega
 have:=bh.ro (O:=bg ρ (aP H id .aH) G) (w:=w) c a cap (λ_ _=>undef) 0 0 h2 h3 (λh=>by omega) (λi j hi hj=>by omega) (λi j hi hj=>by omega);exact this;obtain⟨b,o,cells,fr,us,rfl,g1,g2,g3,g4⟩:=h4.resolve_left hc;have mB:eQ (ρ id)=some b:=by rw[hr];simp only[eQ];rw[if_neg hc]
 refine bh.ro c _ cap us b o h2 h3 (λ_=>⟨rfl,λhb=> ?_,(Array.getElem?_eq_some_iff.1 g1).1⟩) (λi j hi hj=> ?_) (λi j hi hj=> ?_);rcases hb with⟨j,x,hx,ha,hb⟩|hb;by_cases hj:j=id;subst hj;simp only[aP,if_true,Option.some.injEq]at hx;subst hx;cases ha;simp only[aP,hj,if_false]at hx;exact hj (hs.inj j id x _ b hx ho ha rfl hb mB);exact hs.apart b ⟨id,_,ho,rfl,mB⟩ hb;rw[dm g1];exact(g4 i j hi hj).1;exact(g4 i j hi hj).2.less aj5
theorem agf{L:List au}{v:Nat}{o x:au}(h:L[v]? =some o):(λi=>(L.set v x)[i]?)=aP (λi=>L[i]?) v x:=by
 funext i;simp only[aP,getElem?_set];by_cases hi:v=i;subst hi;rw[if_pos rfl,if_pos rfl,if_pos (List.getElem?_eq_some_iff.1 h).1];rw[if_neg hi,if_neg (Ne.symm hi)]
theorem cq.rj{id j:Nat}{tmps:List AV}{L:List au}(h:cq X ρ ⟨tmps,L⟩ a w):cq X ρ ⟨tmps,rj id j L⟩ a w:=by
 unfold Sx.rj;split;rename_i aD e0 dI;split;rename_i v hj;split;rename_i c e hv;have cG:v≠id:=λe1=>by rw[e1,dI]at hv;cases hv
 have hs:Sat ρ (λi=>L[i]?) X.G w:=h.sat;have⟨b,cells,fr,h0,h1,h2,h3⟩:=hs.obj id _ dI;have⟨cs,hc,nS⟩:=aci aD j hj h3
 have qd:cs=[ρ v]:=by
  unfold aX at hc;obtain⟨u,rfl,hd⟩:=hc;unfold aS at hd;have⟨_,o,ho,hu⟩:=hd;rw[show o=.vec c e from by simpa[hv]using ho.symm]at hu;rw[hu _ _ rfl]
 have ayv:(L.set v .aH)[id]? =some (.ak aD e0):=by rw[List.getElem?_set_ne cG];exact dI
 have hro:=ain hs hv;have s1:=hs.kill hv;have st1:=fw (ρ:=ρ) (G:=X.G) (w:=w) (H:=λi=>L[i]?) hv;show cq X ρ ⟨tmps,(L.set v .aH).set id (.ak (aD.set j (.s (.ro c))) e0)⟩ a w
 have e1:(St.look ⟨tmps,(L.set v .aH).set id (.ak (aD.set j (.s (.ro c))) e0)⟩)=aP (aP (λi=>L[i]?) v .aH) id (.ak (aD.set j (.s (.ro c))) e0):=by
  show(λi=>((L.set v .aH).set id _)[i]?)=_;rw[agf ayv,agf hv]
 generalize hH1:aP (λi=>L[i]?) v .aH=H1 at *;have aqZ:H1 id=some (.ak aD e0):=by rw[<-hH1];simp only[aP];rw[if_neg (Ne.symm cG)];exact dI
 have dR:∀b,Own ρ (aP H1 id (.ak (aD.set j (.s (.ro c))) e0)) b->Own ρ H1 b:=by
  rintro b ⟨k,o,ho,ha,hb⟩;simp only[aP]at ho;split at ho;rename_i hk;exact⟨id,_,aqZ,rfl,hk▸hb⟩;exact⟨k,o,ho,ha,hb⟩
 have st2:Step ρ H1 (bg ρ H1 X.G) w ρ (aP H1 id (.ak (aD.set j (.s (.ro c))) e0)) (bg ρ (aP H1 id (.ak (aD.set j (.s (.ro c))) e0)) X.G) w:=by
  refine⟨λ_ _ _=>rfl,λk o ho=> ?_,λb hb=>.inl (hb.imp (dR b) (λx=>x)),λ_ _ _=>rfl,le_refl _⟩;by_cases hk:k=id;exact⟨.ak (aD.set j (.s (.ro c))) e0,by simp[aP,hk],λc' e' hc=>by cases hc⟩;exact⟨o,by simp only[aP];rw[if_neg hk];exact ho,λc' e' hc=>⟨c',e',hc,rfl,rfl⟩⟩
 have st:=st1.trans st2;refine⟨?_,h.size,λu=> ?_,h.defers, ?_,h.jr,h.kept⟩;rw[e1];refine⟨λk o ho=> ?_,λi l oi ol b hi hl ai al bi bl=> ?_,λb hb=>s1.apart b (dR b hb),hs.low⟩
 replace ho:aP H1 id (.ak (aD.set j (.s (.ro c))) e0) k=some o:=ho
 unfold aP at ho;split at ho;rename_i hk;cases ho;rw[hk,h0];refine⟨b,cells,fr,rfl,h1,h2,nS ρ _ _ _ (λa cs hd=>aX.step st a cs hd) ?_⟩;rw[qd];unfold aX;exact⟨_,rfl,hro.less (λb hb=>hb.imp (dR b) (λx=>x))⟩;exact(s1.obj k o ho).step st2 (λ_ _ _=>rfl)
 have low:∀{k:Nat} {o:au},aP H1 id (.ak (aD.set j (.s (.ro c))) e0) k=some o->o.alive=true->∃o2,H1 k=some o2/\o2.alive=true:=by
  intro k o ho ha;simp only[aP]at ho;split at ho;rename_i hk;exact⟨_,hk▸aqZ,rfl⟩;exact⟨o,ho,ha⟩
 have⟨o1,q1,q2⟩:=low hi ai;have⟨o2,q4,q5⟩:=low hl al;exact s1.inj i l o1 o2 b q1 q4 q2 q5 bi bl;rw[e1];exact ag.step st _ _ (h.den u);rw[e1];exact h.ao.trans st;exact h;exact h;exact h
theorem cq.gu:∀(ns:List (Nat×Nat×Bool×ba×TypeId)) {ρ:Nat->Value} {tmps:List AV} {L:List au},cq X ρ ⟨tmps,L⟩ a w->∃aU,cq X aU ⟨tmps,gu ns L⟩ a w
 |[],ρ,tmps,L,h=>⟨ρ,h⟩|(id,j,ro,c,e)::ns,ρ,tmps,L,h=>by
  cases ro;have⟨aU,h'⟩:=h.ri (c:=c) (e:=e) (id:=id) (j:=j);exact cq.gu ns h';exact cq.gu ns ((h.wo (c:=c) (id:=id) (j:=j)).rj (id:=id) (j:=j))
theorem cq.gr:∀(ns:List (Nat×ba×TypeId)) {ρ:Nat->Value} {tmps:List AV} {L:List au},cq X ρ ⟨tmps,L⟩ a w->∃aU,cq X aU ⟨(gr ns tmps L).1,(gr ns tmps L).2⟩ a w
 |[],ρ,tmps,L,h=>⟨ρ,h⟩|(t,c,e)::ns,ρ,tmps,L,h=>by
  have⟨aU,h'⟩:=h.oY (c:=c) (e:=e) (t:=t);exact cq.gr ns h'
theorem aio{m:Nat}{σ:List Nat}(h:asL m σ=true):∀i,i<m->σ[i]? =some i:=by
 intro i hi;simp only[asL,all_eq_true,mem_range]at h;have:=h i hi;split at this;rename_i j hj;rw[hj,Nat.eq_of_beq_eq_true this];cases this
theorem cq.fY{m:Nat}{tmps t1:List AV}{L L1:List au}(h0:∀id,m<=id->X.H id=none)(h:fY m tmps L=some (t1,L1))(hr:cq X ρ ⟨tmps,L⟩ a w):∃aU,cq X aU ⟨t1,L1⟩ a w:=by
 unfold Sx.fY at h;simp only[cond_eq_ite]at h;split at h;rename_i hb;simp only[and_eq_true]at hb;split at h;rename_i L' tM hL ht;simp only[Option.some.injEq,Prod.mk.injEq]at h;obtain⟨rfl,rfl⟩:=h;exact⟨_,hr.view (kU hb.1) hL (aio hb.2) h0 ht⟩;cases h;cases h
theorem Norm.safe{N:Norm}{f:FuncId}{c c':bQ}(h0:∀id,N.m<=id->X.H id=none)(h:N.run c=some c')(hs:Safe P f X K c'):Safe P f X K c:=by
 intro G E ρ a w ij iv hr b a' fs hw;unfold Norm.run at h;split at h;rename_i t1 L1 h1;simp only[]at h;split at h;rename_i t2 L2 h2;simp only[Option.some.injEq]at h;subst h;have⟨ma,r1⟩:=cq.fY (X:=X.at G E) h0 h1 (cq.ek N.fj hr);have⟨gG,r2⟩:=cq.gr N.pT r1;have⟨ρ3,r3⟩:=cq.gu N.cells r2;have⟨ρ4,r4⟩:=cq.fY (X:=X.at G E) h0 h2 r3;exact hs G E _ a w ij iv r4 b a' fs hw;cases h;cases h
end
end Go.Sx
