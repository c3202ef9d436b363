/- Lemmas: SxArr, SxZeros, SxOverlaps, SxEq, SxOp, SxCfg, SxRun, SxSeq, SxDrawn, SxFrames, SxFrames2, SxFrames3, SxResult, SxFrames4, SxSplit, SxThaw, SxExecOk, SxView. -/
import Derived.Laws.IdiomStrings
import Derived.Lib.Overlaps
import Derived.Orders
import Derived.RangeFuncIn
import Derived.RangeFuncRecord
import Derived.RangeFuncNested
import Derived.Test.YtgookenhmddbfaaGreatDoorPA
open Go.IntKind (i64 u64 u8)
open Array (getD_eq_getD_getElem? length_toList toList_inj)
open Bool (and_eq_true cond_eq_ite not_eq_true')
open Int (toNat_natCast)
open List (all_cons all_eq_true append_assoc append_nil cons_append getElem?_append_left getElem?_append_right getElem?_eq_getElem getElem?_eq_none getElem?_map getElem?_set getElem?_take length_append length_cons length_drop length_map length_nil length_set length_take map_append map_cons map_nil mem_append mem_append_right mem_cons mem_cons_of_mem mem_map mem_range nil_append nodup_append pairwise_cons range' replicate)
open Nat (add_mul add_zero beq_eq le_of_ble_eq_true le_refl le_trans lt_or_ge zero_add zero_le)
open Option (bind_eq_some_iff getD_some isSome_iff_exists map_eq_some_iff map_some)
noncomputable section
namespace Go.Sx
open Go
section
variable{ρ aL:Nat->Value}{H H':aS}{G O O':Nat->Prop}{w w':World}{P:Program}
theorem Good.block(hs:Sat ρ H G w){w1:World}(hw:w1.heap=w.heap)(ht:w1.tape=w.tape)(hos:w1.os=w.os)(qg:w1.output=w.output){obj:Obj}{r:AV}{v:Value}
 (hr:af ρ H (aV ρ H G) (w1.alloc obj) r v):Good ρ H G w H r v (w1.alloc obj):=by
 have bU:(w1.alloc obj).heap.size=w.heap.size+1:=by rw[fU,hw]
 have hold:∀i,i<w.heap.size->(w1.alloc obj).heap[i]? =w.heap[i]? :=λi hi=>by rw[alloc_old (by rw[hw];exact hi),hw]
 have st:Step ρ H (aV ρ H G) w ρ H (aV ρ H G) (w1.alloc obj):=
  ⟨λ_ _ _=>rfl,λ_ o ho=>⟨o,ho,λc' e' e=>⟨c',e',e,rfl,rfl⟩⟩,λb hb=>.inl hb,λb hb _=>hold b hb,by omega⟩
 exact⟨ρ,⟨λj x hx=>(hs.obj j x hx).step st (λb ha hb=>hold b (gQ hs ⟨j,x,hx,ha,hb⟩)),hs.inj,hs.apart,λb hb=>by have:=hs.low b hb;omega⟩,hr,st,hos,ht,qg,λb hb _=>hold b hb⟩
theorem ajP{e:TypeId}{k:IntKind}(hk:kindOf P e=some k):P.underlying e=some (.int k):=by
 unfold kindOf at hk;split at hk<;>first|(cases hk;assumption)|cases hk
theorem jC(s:ByteArray):(bw s).length=s.size:=by simp[bw]
theorem ac4{src dst:TypeId}{x:AV}{vx:Value}{q:bQ}(h:(wX P src dst x).eval H=some q)(hn:bJ q.ab)(hs:Sat ρ H G w)(hd:af ρ H (aV ρ H G) w x vx)(base:Nat):
 ∃v w',(convert src dst vx).run P w=.ok v w'/\Good ρ H G w (cY H q.up base q.new) (q.r base) v w':=by
 unfold wX at h;split at h;rename_i e s qh lK;obtain rfl:=fH hd;split at h;rename_i hk;have he:=ajP hk;simp only[plain,RM.eval,Option.some.injEq]at h;subst h;have hsm:s.size<=4294967296:=hn.1;refine⟨_,_,run_bytes_of_string w src dst e s qh lK he, ?_⟩;rw[mA];refine Good.block (w1:=w.drew) hs rfl rfl rfl rfl (aE ?_);have hc:(aU.ah .u8 (bw s)).n=s.size:=jC s;have key:=aW.ro (O:=aV ρ H G) (w:=w.drew.alloc (.cells (bytesRow s (grownCap w s.size 0 e)) e ((bytesRow s (grownCap w s.size 0 e)).size,(bytesRow s (grownCap w s.size 0 e)).size+1)))
  (aU.ah .u8 (bw s)) (some ⟨w.heap.size,0,none⟩) (grownCap w s.size 0 e) (λi _=>.int .u8 ((bw s).getD i 0)) w.heap.size 0 (by rw[hc];exact grownCap_ge w _ _ _)
  (grownCap_le_maxLen w _ _ _ (by simp only[maxLen];omega)) (λ_=>⟨rfl,λhh=>Nat.lt_irrefl _ (abj hs hh),by rw[fU];exact Nat.lt_succ_self _⟩) (λi j hi hj=> ?_) (λi j hi hj=>by simp only[aU.cell];exact .int _ _)
 rw[hc]at key;exact key;simp only[aU.size]at hj;obtain rfl:j=0:=by omega
 rw[hc]at hi;have hb:(w.drew.alloc (.cells (bytesRow s (grownCap w s.size 0 e)) e ((bytesRow s (grownCap w s.size 0 e)).size,(bytesRow s (grownCap w s.size 0 e)).size+1))).heap[w.heap.size]? =
  some (.cells (bytesRow s (grownCap w s.size 0 e)).toList.toArray e ((bytesRow s (grownCap w s.size 0 e)).size,(bytesRow s (grownCap w s.size 0 e)).size+1)):=kC (w:=w.drew)
 rw[de hb];have fq:i<s.data.size:=hi;have hi2:i<s.data.toList.length:=by simpa using fq
 simp only[bytesRow,bw,aU.size,Nat.mul_one,add_zero,zero_add,Array.toList_append,Array.toList_map];rw[getElem?_append_left (by rw[length_map];exact hi2),getElem?_map,getElem?_eq_getElem hi2];simp[List.getD];rw[Array.getElem?_eq_getElem fq];rfl;cases h;cases h
theorem ac5{t:TypeId}{x:AV}{vx:Value}{q:bQ}(h:(wY P t x).eval H=some q)(hn:bJ q.ab)(hd:af ρ H O w x vx):fz P ρ H O w q (Instr.arrayAt t vx):=by
 unfold wY at h;split at h;rename_i n e k zs ht;rw[cond_eq_ite]at h;split at h;rename_i h1;have h1:=le_of_ble_eq_true h1;have hx:=ax (by simp) hd;cases hx with
 |ro _ a cap us b o g1 g2 g3 g4 g5=>
  refine aO h (λcP=> ?_) hn;have hnz:n<=zs.length:=cP.1;obtain⟨rfl,h8,h9⟩:=g3 (by simp only[aU.n];omega);refine⟨.pointer (some ⟨b,o,none⟩), ?_, ?_⟩;have:¬zs.length<n:=by omega
  simp[Instr.arrayAt,run_underlying ht,aU.n,this];unfold af aN;refine⟨b,o,λj=>us j 0,rfl,h8,h9,λl hl=> ?_⟩;have hl':l<n:=hl;have e1:=g4 l 0 (by simp only[aU.n];omega) Nat.one_pos;have e2:=g5 l 0 (by simp only[aU.n];omega) Nat.one_pos;simp only[aU.size,Nat.mul_one,add_zero]at e1;refine⟨e1, ?_⟩
  have e3:(aU.au [.arr k n] [(zs.take n,())]).cell 0 l=.int k (zs.getD l 0):=by
   show(bif l.blt n then SV.int k (List.getD (zs.take n) l 0)else .aY)=_;rw[nJ hl'];simp[List.getD,getElem?_take,hl']
  rw[e3];exact e2
 cases h;cases h
theorem xn{x:AV}{k:IntKind->List Int->Prop->RM bQ}{v:Value}{q:bQ}(h:(wc x k).eval H=some q)(hs:Sat ρ H G w)(hd:af ρ H (aV ρ H G) w x v):
 ∃kk zs p,(k kk zs p).eval H=some q/\(p->(Builtin.lenOf v).run P w=.ok zs.length w/\∀m,m<=zs.length->(Builtin.firstCells 1 m v).run P w=.ok ((zs.take m).map (Value.int kk)).toArray w):=by
 unfold wc at h;split at h;rename_i s;obtain rfl:=fH hd;refine⟨_,_,_,h,λ_=>⟨by simp[Builtin.lenOf],λm hm=> ?_⟩⟩;simp only[Builtin.firstCells,Sem.run_pure];congr 1;apply toList_inj.1;rw[Array.toList_map];simp[ByteArray.data_extract];rfl;rename_i id off n;simp only[RM.eval]at h;split at h;rename_i kk m ws e ho;unfold af aN at hd;obtain⟨_,b,a,cap,hb,rfl,ha,_⟩:=hd;refine⟨_,_,_,h,λhp=> ?_⟩;have⟨hl,hc⟩:=aac hs ho hb hp;refine⟨by rw[hl];simp[Builtin.lenOf],λl hm=> ?_⟩;rw[hl]at hm;rcases Nat.eq_zero_or_pos n with h0|h0;have:l=0:=by omega
 subst this;cases a with
 |none=>simp[Builtin.firstCells]|some a=>simp[Builtin.firstCells];rfl
 rw[ha (by omega)];simp only[Builtin.firstCells,Nat.mul_one]
 have e1:(((ws.drop off).take n).take l).map (Value.int kk)=(List.range l).map λi=>Value.int kk (((ws.drop off).take n).getD i 0):=by
  apply List.ext_getElem?;intro i;simp only[getElem?_map,List.getElem?_range'];by_cases hi:i<l;have:i<((ws.drop off).take n).length:=by omega
  rw[getElem?_take,if_pos hi,getElem?_eq_getElem this,getElem?_eq_getElem (by simpa using hi)];simp[List.getD,getElem?_eq_getElem this];rw[getElem?_take,if_neg hi,getElem?_eq_none (by simp;omega)];rfl
 rw[e1];refine run_loadCells w _ _ (λi=>Value.int kk (((ws.drop off).take n).getD i 0)) (λj hj=> ?_);rw[bc];exact hc j (by omega);cases h;cases h
theorem xo{k:IntKind}{m:Nat}(x:CL [.arr k m])(j:Nat):CL.cell [.arr k m] x j=bif j.blt m then .int k ((fF x).getD j 0)else .aY:=rfl
theorem xp{cs:List CK}(xs:List (CL cs))(i j:Nat):(aU.au cs xs).cell i j=CL.cell cs (xs.getD i (CL.d cs)) j:=rfl
theorem vp{k:IntKind}{m:Nat}(ws:List Int):fF (qp ws:CL [.arr k m])=ws:=rfl
theorem gf{α:Type}{xs:List α}{i:Nat}{x d:α}(h:i<xs.length):(xs.set i x).getD i d=x:=by simp[List.getD,h]
theorem kV{α:Type}{xs:List α}{i i':Nat}{x d:α}(h:i'≠i):(xs.set i x).getD i' d=xs.getD i' d:=by simp[List.getD,List.getElem?_set_ne (Ne.symm h)]
theorem alB{α:Type}{l:List α}{i:Nat}{d:α}(h:i<l.length):l.getD i d=l[i]:=by simp[List.getD,h]
theorem ajQ(hs:Sat ρ H G w){id i j b f n cap:Nat}{c c':aU}{e:TypeId}(ho:H id=some (.vec c e))(dK:ρ id=.slice (some ⟨b,f,none⟩) n cap)(hi:i<c.n){vs:List Value}(hj:j+vs.length<=c.size)(hp:0<c.size)
 (k1:c'.n=c.n) (k2:c'.size=c.size) (tT:∀v∈vs,v.oneCell'=true) (k4:∀l u,vs[l]? =some u->aW (aV ρ H G) w (c'.cell i (j+l)) u)
 (k5:∀i' j',i'<c.n->j'<c.size->¬(i'=i/\j<=j'/\j'<j+vs.length)->c'.cell i' j'=c.cell i' j') (z:Int):
 ∃w',(storeCells ⟨b,f+i*c.size+j,none⟩ vs 0).run P w=.ok () w'/\Good ρ H G w (aB H id (.vec c' e)) (.s (.int .i64 z)) (.int .i64 z) w':=by
 have⟨a,ajo,h5,h6,h7,h8⟩:=hs.obj id _ ho;rw[dK]at h5;cases h5;rcases h8 with rfl|⟨b',o',cells,fr,us,e1,g1,g2,g3,g4⟩;omega;cases e1
 have mj:eW (ρ id)=some b:=by
  rw[dK];simp only[eW];rw[if_neg (by omega)]
 have hmul:i*c.size+c.size<=cap*c.size:=by
  rw[<-Nat.succ_mul];exact Nat.mul_le_mul_right _ (by omega)
 have bB:f+i*c.size+j+vs.length<=cells.length:=by omega
 have st:=kR (G:=G) (w:=w) (o':=.vec c' e) ho rfl mj (λc1 e1 hc1=>by cases hc1;exact⟨c,e,rfl,k1,k2⟩)
  (.cells (cells.take (f+i*c.size+j)++vs++cells.drop (f+i*c.size+j+vs.length)).toArray e fr)
 refine⟨_,bX (f+i*c.size+j) _ 0 g1 g2.unm (by omega) tT, ?_⟩;simp only[add_zero];refine Good.write hs ho rfl rfl mj (λc1 e1 hc1=>by cases hc1;exact⟨c,e,rfl,k1,k2⟩) ?_ (aE (.int _ _));refine⟨some ⟨b,f,none⟩,cap,by rw[dK,k1],by omega,h7,.inr ⟨b,f,_,fr,λi' j'=>if i'=i/\j<=j'/\j'<j+vs.length then(vs.getD (j' - j) undef)else us i' j',rfl,eh g1,g2.over tT bB, ?_, ?_⟩⟩;simp only[length_append,length_take,length_drop];rw[k2];omega;intro i' j' fq kj;rw[k1]at fq;rw[k2]at kj;rw[k2,abr _ _ _ bB];dsimp only;by_cases cO:i'=i/\j<=j'/\j'<j+vs.length;obtain⟨rfl,h9,vQ⟩:=cO;rw[if_pos ⟨by omega,by omega⟩,if_pos ⟨rfl,h9,vQ⟩];have hx1:j' - j<vs.length:=by omega
 refine⟨by rw[show f+i'*c.size+j' - (f+i'*c.size+j)=j' - j from by omega];exact iA _ _ _ hx1, ?_⟩;have:=k4 (j' - j) _ (iA _ _ undef hx1);rw[show j+(j' - j)=j' from by omega]at this;exact this.step st.gq st.heap st.size;rw[if_neg cO]
 have qg:¬(f+i*c.size+j<=f+i'*c.size+j'/\f+i'*c.size+j'<f+i*c.size+j+vs.length):=by
  rintro⟨h9,vQ⟩;have hd:f+i*c.size+(f+i'*c.size+j' - (f+i*c.size))=f+i'*c.size+j':=by omega
  have⟨h11,h12⟩:=als (f:=f) (i:=i) (i':=i') (j:=f+i'*c.size+j' - (f+i*c.size)) (by omega) kj hd;subst h11;exact cO ⟨rfl,by omega,by omega⟩
 rw[if_neg qg,k5 i' j' fq kj cO];have⟨h9,vQ⟩:=g4 i' j' fq kj;exact⟨h9,vQ.step st.gq st.heap st.size⟩
theorem ac6{α β:Type}(f:α->β)(xs ys:List α)(lo k:Nat):(over xs lo k ys).map f=(xs.map f).take lo++(ys.take k).map f++(xs.map f).drop (lo+k):=by
 simp[over,List.map_take,List.map_drop]
theorem ajR{t t' ty:TypeId}{x y:AV}{vx vy:Value}{q:bQ}(h:(afK P t x y).eval H=some q)(hn:bJ q.ab)(hs:Sat ρ H G w)
 (hx:af ρ H (aV ρ H G) w x vx) (hy:af ρ H (aV ρ H G) w y vy):
 ∃v w',(Builtin.copy_ #[t,t'] ty #[vx,vy]).run P w=.ok v w'∧∀base,Good ρ H G w (cY H q.up base q.new) (q.r base) v w':=by
 unfold afK at h;split at h;rename_i e ht;split at h;rename_i sz bU;rw[cond_eq_ite]at h;split at h;rename_i h1;obtain rfl:sz=1:=by simpa using h1
 split at h;rename_i id off n;obtain⟨kk,zs,p,h2,qh⟩:=xn (P:=P) h hs hy;simp only[RM.eval]at h2;split at h2;rename_i k m ws e' ho;rw[cond_eq_ite]at h2;split at h2;rename_i hk;obtain rfl:=bt hk;simp only[RM.eval,Option.some.injEq]at h2;subst h2;obtain⟨hp,hnm,_⟩:=hn;obtain⟨bB,kT⟩:=qh hp;unfold af aN at hx;obtain⟨_,b,a,cap,hb,rfl,ha,_⟩:=hx;obtain⟨cells,fr,g1,g2,g3⟩:=pK hs ho hb;obtain⟨c1,c2,rfl,e3,e4⟩:=ag.1 g3;obtain⟨e5,rfl⟩:=db.1 e3;obtain rfl:=aC.1 e4;rw[append_nil]at g1 g2 g3;have j8:=kT (min zs.length n) (Nat.min_le_left _ _);have hl2:((zs.take (min zs.length n)).map (Value.int kk)).length=min zs.length n:=by rw[length_map,length_take];omega
 have tT:∀v∈(zs.take (min zs.length n)).map (Value.int kk),v.oneCell'=true:=fun v hv=>by obtain⟨y,_,rfl⟩:=mem_map.1 hv;rfl
 have ni:=bX (P:=P) off ((zs.take (min zs.length n)).map (Value.int kk)) 0 g1 g2 (by rw[hl2,length_map];omega) tT
 have awB:((ws.map (Value.int kk)).take (off+0)++(zs.take (min zs.length n)).map (Value.int kk)++(ws.map (Value.int kk)).drop (off+0+((zs.take (min zs.length n)).map (Value.int kk)).length))=(over ws off (min zs.length n) zs).map (Value.int kk):=by
  rw[ac6,hl2,add_zero]
 rw[awB]at ni;have hwl:(over ws off (min zs.length n) zs).length=m:=by rw[eO _ _ (by omega) (Nat.min_le_left _ _)];exact e5
 have zz:∀base,Good ρ H G w (cY H [(id,.aq [.ah kk m (over ws off (min zs.length n) zs)] e')] base []) (.s (.int .i64 ((min zs.length n:Nat):Int))) (.int .i64 ((min zs.length n:Nat):Int)) (World.cD w b (.cells ((over ws off (min zs.length n) zs).map (Value.int kk)).toArray e' fr)):=fun base=>by
  simp only[gb];have mj:eW (ρ id)=some b:=by rw[hb];rfl
  have hd':az ρ H (aV ρ H G) w [.ah kk m (over ws off (min zs.length n) zs)] ((over ws off (min zs.length n) zs).map (Value.int kk)):=
   ag.2 ⟨_,[],(append_nil _).symm,db.2 ⟨hwl,rfl⟩,aC.2 rfl⟩
  have st:=kR (G:=G) (w:=w) (o':=.aq [.ah kk m (over ws off (min zs.length n) zs)] e') ho rfl mj (by simp) (.cells ((over ws off (min zs.length n) zs).map (Value.int kk)).toArray e' fr);exact Good.write hs ho rfl rfl mj (by simp) ⟨b,_,fr,hb,eh g1,by rw[length_map,hwl,←e5,←length_map (Value.int kk)];exact g2,hd'.step st⟩ (aE (.int _ _))
 rcases Nat.eq_zero_or_pos n with h0|h0;subst h0;have e6:(over ws off (min zs.length 0) zs).map (Value.int kk)=ws.map (Value.int kk):=by rw[ac6];simp
 have e7:World.cD w b (.cells ((over ws off (min zs.length 0) zs).map (Value.int kk)).toArray e' fr)=w:=by rw[e6];exact u6 g1
 refine⟨_,w,mF ht bU bB j8 (fun x hx=> ?_) (fun _=>rfl),fun base=>by have:=zz base;rw[e7]at this;exact this⟩;simp[storeCells];rw[ha (by omega)];exact⟨_,_,mF ht bU bB j8 (fun x hx=>by cases hx;exact ni) (fun hx=>by cases hx),zz⟩;cases h2;cases h2;rename_i id i j n;obtain⟨kk,zs,p,h2,qh⟩:=xn (P:=P) h hs hy;simp only[RM.eval]at h2;split at h2;rename_i k m xs e' ho;rw[cond_eq_ite]at h2;split at h2;rename_i hk;simp only[and_eq_true]at hk;obtain⟨hk,hm0⟩:=hk;have hm0:=le_of_ble_eq_true hm0;obtain rfl:=bt hk;simp only[RM.eval,Option.some.injEq]at h2;subst h2;obtain⟨hp,hxl,_⟩:=hn;obtain⟨bB,kT⟩:=qh hp;unfold af aN at hx;obtain⟨_,o,dH,hv⟩:=hx;rw[ho]at dH;cases dH;obtain⟨hi,hj,b,f,n',cap,a,ajo,dK,rfl,ha⟩:=hv _ _ rfl;have hi:i<xs.length:=hi;have hj:j+n≤m:=hj;have j8:=kT (min zs.length n) (Nat.min_le_left _ _);have hl2:((zs.take (min zs.length n)).map (Value.int kk)).length=min zs.length n:=by rw[length_map,length_take];omega
 have tT:∀v∈(zs.take (min zs.length n)).map (Value.int kk),v.oneCell'=true:=fun v hv=>by obtain⟨y,_,rfl⟩:=mem_map.1 hv;rfl
 generalize apF:min zs.length n=cnt at *;obtain⟨w',s1,s2⟩:=ajQ (P:=P) (c':=.au [.arr kk m] (xs.set i (qp (over (fF (xs.getD i (CL.d [.arr kk m]))) j cnt zs)))) hs ho dK hi (vs:=(zs.take cnt).map (Value.int kk)) (by rw[hl2];show j+cnt≤m;omega) hm0
  length_set rfl tT (fun l u hu=>by
   obtain⟨bo,hu⟩:=List.getElem?_eq_some_iff.1 hu;rw[hl2]at bo;rw[xp,gf hi,xo,vp,nJ (by omega),kD _ _ _ (by omega) (by omega),if_pos ⟨by omega,by omega⟩,←hu];simp only[List.getElem_map,List.getElem_take,cond_true];rw[show j+l - j=l from by omega,alB (by omega)];exact .int _ _)
  (fun i' j' fq kj uc=>by
    have fq:i'<xs.length:=fq;have kj:j'<m:=kj;rw[hl2]at uc;rw[xp,xp];by_cases hii:i'=i;subst hii;rw[gf hi,xo,xo,vp,kD _ _ _ (by omega) (by omega),if_neg (fun hc=>uc ⟨rfl,hc⟩)];rw[kV hii]) ((cnt:Nat):Int)
 rcases Nat.eq_zero_or_pos n with h0|h0;have hc0:cnt=0:=by omega
 have e7:w'=w:=by
  subst hc0;simp[storeCells]at s1;exact s1.symm
 subst e7;refine⟨_,_,mF ht bU bB (by rw[apF];exact j8) (fun x hx=> ?_) (fun _=>rfl),fun base=>by simp only[gb,apF];exact s2⟩;subst hc0;simp[storeCells];rw[ha (by omega)];exact⟨_,_,mF ht bU bB (by rw[apF];exact j8) (fun x hx=>by cases hx;exact s1) (fun hx=>by cases hx),fun base=>by simp only[gb,apF];exact s2⟩;cases h2;cases h2;cases h;cases h;cases h;cases h
theorem alC{es mE:Array MapEntry}{c c':Nat}(h:acM es c=acM mE c'):es=mE/\c=c':=by
 simp only[acM,Value.tuple.injEq,Array.mk.injEq,List.cons.injEq,Value.int.injEq,true_and,and_true]at h;have⟨h1,h2⟩:=h;refine⟨?_,by omega⟩
 have alD:∀a b:MapEntry,Value.tuple #[a.key,a.val,.int .i64 (a.born:Int)]=Value.tuple #[b.key,b.val,.int .i64 (b.born:Int)]->a=b:=λa b e=>by
  simp only[Value.tuple.injEq,Array.mk.injEq,List.cons.injEq,Value.int.injEq,true_and,and_true]at e;have⟨e1,e2,e3⟩:=e;cases a;cases b;simp only at e1 e2 e3;rw[e1,e2,Int.ofNat.inj e3]
 apply toList_inj.1;have h3:=congrArg Array.toList h2;simp only[Array.toList_map]at h3;exact List.map_inj_right (λa b=>alD a b) |>.1 h3
theorem find_born{es:List MapEntry}(hb:(es.map (·.born)).Nodup){e:MapEntry}(he:e∈es):es.find? (λx=>x.born==e.born)=some e:=by
 induction es with
 |nil=>simp at he|cons x es ih=>
  simp only[map_cons,List.nodup_cons]at hb;rw[List.find?_cons];rcases mem_cons.1 he with rfl|he;simp
  have:(x.born==e.born)=false:=by
   rw[beq_eq_false_iff_ne];exact λh=>hb.1 (mem_map.2 ⟨e,he,h.symm⟩)
  rw[this];exact ih hb.2 he
theorem ac7(hs:Sat ρ H G w){id mid gid b:Nat}{ck ck':CK}{left:List (Int×ck.V)}{cur:Option (Int×ck.V)}{m:List (Int×ck'.V)}(ho:H id=some (.iter mid gid ck left cur))(hm:H mid=some (.ig ck' m gid))
 (hb:ρ id=.pointer (some ⟨b,0,none⟩)):∃mb es clock seen,w.heap[b]? =some (.mapIter (some mb) clock seen clock)/\w.heap[mb]? =some (.map es clock)/\w6 ck left cur es clock seen/\jx ck' m es.toList clock/\
   ρ mid=.map (some mb)/\ρ gid=acM es clock/\(H gid).isSome=true:=by
 have⟨b',mb,es,clock,seen,h1,h2,h3,h4,h5,h6,h7⟩:=hs.obj id _ ho;rw[hb]at h1;cases h1;have⟨mb',mE,xm,g1,g2,g3,g4,_⟩:=hs.obj mid _ hm;rw[h6]at g1;cases g1;rw[h4]at g4;obtain⟨rfl,rfl⟩:=alC g4;exact⟨mb,es,clock,seen,h2,g2,h3,g3,h6,h4,h5⟩
theorem ac8{ck:CK}(h:ck.plain=true)(v:ck.V):ck.av v≠.s .aY:=by
 cases ck<;>simp only[CK.plain,Bool.false_eq_true]at h<;>simp[CK.av]
theorem ajS{x:AV}{vx:Value}{q:bQ}(h:(afN x).eval H=some q)(hn:bJ q.ab)(hs:Sat ρ H G w)(hd:af ρ H (aV ρ H G) w x vx):
 fz P ρ H (aV ρ H G) w q (Instr.entry vx):=by
 unfold afN at h;split at h;rename_i id;simp only[RM.eval]at h;split at h;rename_i mid gid ck left cur ho;simp only[RM.eval]at h;split at h;rename_i ck' m awv hm;rw[cond_eq_ite]at h;split at h;rename_i hc;simp only[and_eq_true,beq_eq]at hc;obtain⟨rfl,hp⟩:=hc;split at h;rename_i p;unfold af aN at hd;obtain⟨b,hb,rfl,_⟩:=hd;have⟨mb,es,clock,seen,h1,h2,h3,_⟩:=ac7 hs ho hm hb;have⟨hf,e,he,k1,k2,k3⟩:=h3.cur p rfl;have e1:(getObj b).run P w=.ok (.mapIter (some mb) clock seen clock) w:=by simp[getObj,Sem.run,h1]
 have e2:(getObj mb).run P w=.ok (.map es clock) w:=by simp[getObj,Sem.run,h2]
 have e3:es.find? (λx=>x.born==e.born)=some e:=by rw[<-Array.find?_toList];exact find_born h3.w5 he
 refine aO h (λ_=>⟨.tuple #[.int .i64 p.1,ck.val p.2], ?_, ?_⟩) hn;simp[Instr.entry,e1,e2,k1,e3,k2,k3];unfold af;refine⟨[.int .i64 p.1,ck.val p.2],rfl,aD.2 ⟨_,_,rfl,aE (.int _ _),aD.2 ⟨_,_,rfl,abx hf ?_,a8.2 rfl⟩⟩⟩;exact ac8 hp _;cases h;cases h;cases h;cases h;cases h
end
section
variable{ρ aL:Nat->Value}{H H':aS}{G O O':Nat->Prop}{w w':World}{P:Program}
theorem ue{t t' ty e:TypeId}{kn k:IntKind}{i:TypeInfo}{z:Value}{a:Option Addr}{n cap:Nat}{j:Nat}{olds:List Value}
 (ht:P.underlying t=some (.slice e)) (htn:P.underlying t'=some (.int kn)) (hi:P.info? e=some i) (hz:i.zero=some z)
 (hold:(Builtin.firstCells i.size n (.slice a n cap)).run P w.drew=.ok olds.toArray w.drew) (oI:¬n+j<=cap)
 (hsm:n+j<=4294967296) (hby:i.bytes<=256) (h1:1<=i.size) (h0:0<j):
 ∃oK,n+j<=oK/\oK<=maxLen/\(Builtin.append_ #[t,t'] ty #[.slice a n cap,.int k (j:Int)]).run P w=
  .ok (.slice (some ⟨w.heap.size,0,none⟩) (n+j) oK) (w.drew.alloc (.cells (olds++(Builtin.zeroCells z.cells j).toList++(Builtin.zeroCells z.cells (oK - (n+j))).toList).toArray e)):=by
 refine⟨grownCap w (n+j) cap e,grownCap_ge w _ _ _,grownCap_le_maxLen w _ _ _ (by simp only[maxLen];omega), ?_⟩
 have acY:¬(281474976710656<Builtin.nextslicecap (n+j) cap*i.bytes):=by
  have h1:=nextslicecap_le (ab:=n+j) (old:=cap) (by omega);have h2:Builtin.nextslicecap (n+j) cap*i.bytes<=(2*(n+j)+192)*256:=Nat.mul_le_mul h1 hby;omega
 have ac0:¬(9223372036854775807<(n:Int)+(j:Int)):=by omega
 have hw:i64.wrap (j:Int)=(j:Int):=cq ⟨by omega,by omega⟩;have azl:¬((j:Int)<0):=by omega
 have azm:¬((281474976710656:Int)<(j:Int)*(i.bytes:Int)):=by
  have:j*i.bytes<=4294967296*256:=Nat.mul_le_mul (by omega) hby;have h3:((j*i.bytes:Nat):Int)<=((4294967296*256:Nat):Int):=Int.ofNat_le.2 this;rw[Int.natCast_mul]at h3;omega
 have apB:∀X Y:Array Value,olds.toArray++(X++Y)=(olds++(X.toList++Y.toList)).toArray:=λX Y=>by
  apply toList_inj.1;simp
 have hq:¬((Question.appendCap (n+j) cap e).forced=true):=by simp[Question.forced]
 have cP:¬(j*i.size=0):=by
  have:0<j*i.size:=Nat.mul_pos h0 (by omega);omega
 simp[Builtin.append_,run_underlying ht,run_underlying htn,sizeOf,typeInfo,hi,oI,ac0,acY,hold,zeroValue,hz,newRow,hw,azl,azm,cP,asInt,asIntOf];rw[if_neg hq,apB];rfl
theorem ac9{t t' ty:TypeId}{x y:AV}{vx vy:Value}{q:bQ}(h:(wV P t t' x y).eval H=some q)(hn:bJ q.ab)(hs:Sat ρ H G w)
 (hx:af ρ H (aV ρ H G) w x vx) (hy:af ρ H (aV ρ H G) w y vy) {base:Nat} (hb:∀i,i<q.new.length->H (base+i)=none):
 ∃v w',(Builtin.append_ #[t,t'] ty #[vx,vy]).run P w=.ok v w'/\Good ρ H G w (cY H q.up base q.new) (q.r base) v w':=by
 unfold wV at h;split at h;rename_i e kt c k kd lit j ht ht' hy0;have hvy:=ch hy0 hy;split at h;rename_i i hi;rw[cond_eq_ite]at h;split at h;rename_i hc;simp only[and_eq_true]at hc;have⟨⟨⟨c1,c2⟩,c3⟩,c4⟩:=hc;have c1:=le_of_ble_eq_true c1;have c2:=le_of_ble_eq_true c2;have c3:c.size=i.size:=Nat.eq_of_beq_eq_true c3
 obtain⟨z,hz,hzf,hzs⟩:∃z,i.zero=some z/\gA (shapeOf P e) z.cells.toList=true/\z.cells.size=i.size:=by
  cases hz:i.zero with
  |none=>simp[hz]at c4|some z=>
   simp only[hz,Option.any_some,and_eq_true,beq_iff_eq]at c4;exact⟨z,rfl,c4.1,c4.2⟩
 simp only[RM.eval,Option.some.injEq]at h;subst h;have⟨hj0,oI,hsm,_⟩:=hn;have j7:H base=none:=by simpa using hb 0 (by simp)
 have hx':=ax (by simp) hx;cases hx' with
 |rot _ _ a n cap hro hk=>
  obtain⟨jn,rfl⟩:∃jn:Nat,j=(jn:Int):=⟨j.toNat,by omega⟩;cases hro with
  |ro _ _ _ us b o q1 q2 q3 q4 q5=>
  have zA:qU (aV ρ H G) w c (.slice a c.n cap):=⟨a,cap,us,rfl,q1,q2,λh0=>⟨b,o,(q3 h0).1,(q3 h0).2.2,λi j hi hj=>⟨q4 i j hi hj,q5 i j hi hj⟩⟩⟩;have⟨olds,xl⟩:=wg (P:=P) zA c3 c1;have⟨f1,f2⟩:=lT (O:=aV ρ H G) (w:=w) hzf jn;have hzl:z.cells.toList.length=i.size:=by rw[length_toList,hzs]
  have han:(dz c (dJ (shapeOf P e) jn)).n=c.n+jn:=by rw[xj,mG]
  have apD:(dz c (dJ (shapeOf P e) jn)).size=i.size:=by rw[oH c _ (by rw[f1,hzl,c3]),c3]
  have⟨oK,g1,g2,g3⟩:=ue (ty:=ty) (k:=kd) ht ht' hi hz (xl.first w.drew rfl) (j:=jn) (by omega) (by omega) c2 c1 (by omega);rw[hvy];refine⟨_,_,g3, ?_⟩;simp only[jB,toNat_natCast];rw[<-han]
  have hnl:(Builtin.zeroCells z.cells jn).toList.length=(dJ (shapeOf P e) jn).n*i.size:=by
   rw[length_toList,size_zeroCells,hzs,mG]
  have key:=ud (rest:=(Builtin.zeroCells z.cells (oK - (c.n+jn))).toList) (O:=aV ρ H G) (w:=w) c3 (by rw[f1,hzl]) c1 xl.length hnl xl.den (λi' j' fq kj=>by
   rw[mG]at fq;have⟨u,k1,k2⟩:=f2 i' j' fq (by omega);refine⟨u, ?_,k2⟩;rw[<-hzs,mc jn fq (by rw[hzs];exact kj)];exact k1) []
  simp only[nil_append,length_nil,zero_add]at key;rw[<-han]at key;refine mC (w1:=w.drew) hs rfl rfl rfl rfl j7 (by rw[han];exact g1) g2 ?_ _ key (λu hu=> ?_);rw[apD];simp only[length_append,xl.length,length_toList,size_zeroCells,hzs];rw[<-add_mul,<-add_mul];exact Nat.mul_le_mul_right _ (by omega);rcases mem_append.1 hu with hu|hu;rcases mem_append.1 hu with hu|hu;exact xl.one u hu;exact jo hzf jn u hu;exact jo hzf _ u hu
 cases h;cases h;cases h
end
section
variable{ρ aL:Nat->Value}{H H':aS}{G O O':Nat->Prop}{w w':World}{P:Program}
theorem xq(hs:Sat ρ H G w){x:AV}{i:Nat}{c:aU}{e:TypeId}(hx:ownRow x=some i)(hi:H i=some (.vec c e))(bU:1<=c.size){v:Value}(hd:af ρ H (aV ρ H G) w x v):
 ∃(a:Option Addr) (n cap:Nat),v=.slice a n cap/\(n=0\/∃(b o:Nat) (cells:List Value) (fr:Nat×Nat),a=some ⟨b,o,none⟩/\eW (ρ i)=some b/\w.heap[b]? =some (.cells cells.toArray e fr)/\abi fr cells/\o<=cells.length/\0<cells.length):=by
 have⟨a,cap,r1,r2,r3,r4⟩:=hs.obj i _ hi;unfold ownRow at hx;split at hx;rename_i id;cases hx;unfold af aN at hd;have⟨_,o,ho,hv⟩:=hd;rw[hi]at ho;cases ho;rw[hv c e rfl,r1];refine⟨a,c.n,cap,rfl, ?_⟩;by_cases h0:c.n=0;exact .inl h0;rcases r4 with h4|⟨b,o,cells,fr,us,rfl,q1,q2,q3,q4⟩;omega;have:1*1<=cap*c.size:=Nat.mul_le_mul (by omega) bU;exact .inr ⟨b,o,cells,fr,rfl,by simp only[eW];rw[if_neg (by omega)],q1,q2,by omega,by omega⟩;rename_i id lo n;cases hx;unfold af aN at hd;have⟨_,o,ho,hv⟩:=hd;rw[hi]at ho;cases ho;obtain⟨hle,a2,qT,a',k1,k2,rfl,k4⟩:=hv c e rfl;rw[r1]at k1;simp only[Value.slice.injEq,true_and]at k1;obtain⟨rfl,rfl⟩:=k1;refine⟨a',n,cap - lo,rfl, ?_⟩;by_cases h0:n=0;exact .inl h0;rcases r4 with h4|⟨b,o,cells,fr,us,rfl,q1,q2,q3,q4⟩;omega;have:lo*c.size<=cap*c.size:=Nat.mul_le_mul_right _ (by omega);have h1:1*1<=cap*c.size:=Nat.mul_le_mul (by omega) bU;refine .inr ⟨b,o+lo*c.size,cells,fr, ?_,by rw[r1];simp only[eW];rw[if_neg (by omega)],q1,q2,by omega,by omega⟩;rw[k4 (by omega),map_some,bc];cases hx
theorem abB{motive:Array Value->Sort 1}{a b:Option Addr}{la ca lb cb:Nat}{h1:(a:Option Addr)->(la cap:Nat)->(b:Option Addr)->(lb cb:Nat)->motive #[.slice a la cap,.slice b lb cb]}{h2:(x:Array Value)->motive x}:
 Extern.SlicesOverlaps.overlaps.match_4 motive #[.slice a la ca,.slice b lb cb] h1 h2=h1 a la ca b lb cb:=rfl
theorem nj{f:FuncId}{args:List AV}{vs:List Value}{q:bQ}(h:(tJ P f args).eval H=some q)(hn:bJ q.ab)(hs:Sat ρ H G w)(hd:bL ρ H (aV ρ H G) w args vs):
 ∃v,(callFunc f vs.toArray).run P w=.ok (.value v) w/\q.up=[]/\q.new=[]/\∀base,af ρ H (aV ρ H G) w (q.r base) v:=by
 unfold tJ at h;split at h;rename_i x y;split at h;rename_i i j hx hy;rw[cond_eq_ite]at h;split at h;cases h;rename_i ma;have ma:i≠j:=λe=>ma (by subst e;exact Nat.beq_refl i);simp only[RM.eval]at h;split at h;rename_i c e1 hi;simp only[RM.eval]at h;split at h;rename_i d e2 hj;rw[cond_eq_ite]at h;split at h;rename_i bU;simp only[and_eq_true]at bU;simp only[plain,RM.eval,Option.some.injEq]at h;subst h;have⟨⟨fn,t,e,tR,size,o1,o2,o3,o4,o5,o6,o7⟩,_⟩:=hn;obtain⟨vx,r1,rfl,dx,hd1⟩:=aD.1 hd;obtain⟨vy,r2,rfl,dy,hd2⟩:=aD.1 hd1;obtain rfl:=a8.1 hd2;obtain⟨a,n,cap,rfl,ha⟩:=xq hs hx hi (le_of_ble_eq_true bU.1) dx;obtain⟨a2,n2,qT,rfl,ha2⟩:=xq hs hy hj (le_of_ble_eq_true bU.2) dy
 have hz:∀w:World,(Go.sizeOf e).run P w=.ok size w:=λw=>by
  obtain⟨inf,hi,rfl⟩:=map_eq_some_iff.1 o7;simp[sizeOf,typeInfo,hi]
 refine⟨.bool false, ?_,rfl,rfl,λ_=>aE (.aI false)⟩;rw[run_callFunc_extern o1 o2 o3 o4 o5]
 have key:(Extern.SlicesOverlaps.overlaps #[t,t] #[tR] #[.slice a n cap,.slice a2 n2 qT]).run P w=.ok (.bool false) w:=by
  have zero:n=0\/n2=0->(Extern.SlicesOverlaps.overlaps #[t,t] #[tR] #[.slice a n cap,.slice a2 n2 qT]).run P w=.ok (.bool false) w:=by
   intro h0;delta Extern.SlicesOverlaps.overlaps;rw[abB];have h1:n=0\/n2=0\/size=0:=by rcases h0 with h0|h0<;>simp[h0]
   cases a with
   |none=>simp[run_underlying o6,hz]|some a=>
    cases a2 with
    |none=>simp[run_underlying o6,hz]|some b=>simp[run_underlying o6,hz,h1]
  rcases ha with h0|⟨b,o,cells,fr,rfl,hb,iB,hu,ho,aBo⟩;exact zero (.inl h0);rcases ha2 with h0|⟨b2,o2',atZ,fr2,rfl,hb2,at0,hu2,ho2,aBh⟩;exact zero (.inr h0);have cP:b≠b2:=λe=>ma (hs.inj i j _ _ b hi hj rfl rfl hb (e▸hb2))
  have frz:∀{b:Nat} {cells:List Value} {fr:Nat×Nat} {e:TypeId} (off:Nat),w.heap[b]? =some (.cells cells.toArray e fr)->abi fr cells->off<=cells.length->w.frozen? ⟨b,off,none⟩=false:=by
   intro b cells fr e off h1 h2 h3;have⟨lo,hi⟩:=fr;unfold World.frozen?;simp only[h1];have:=h2.1 off h3;simp only at this;cases hd:(decide (lo<=off)&&decide (off<hi))with
   |false=>rfl|true=>simp only[and_eq_true,decide_eq_true_eq]at hd;exact absurd hd this
  refine Lib.run_overlaps_apart w t tR e o6 size hz ⟨b,o,none⟩ ⟨b2,o2',none⟩ n cap n2 qT cP e1 e2 cells.length atZ.length ?_ ?_ (by omega) (frz o iB hu ho) (frz _ iB hu (le_refl _));simp only[World.shape?,iB];rfl;simp only[World.shape?,at0];rfl
 rw[key];rfl;cases h;cases h;cases h;cases h;cases h
end
section
variable{ρ:Nat->Value}{H:aS}{O:Nat->Prop}{w:World}{P:Program}
theorem af2(d:Nat){e:TypeId}{k:IntKind}{i:TypeInfo}(he:P.underlying e=some (.int k))(hs:i.size=1)
 (ws nS:List Int) (w:World) (n:Nat) (h1:ws.length=n) (h2:nS.length=n):∀(m s:Nat),s+m=n->
 (forIn (m:=Sem) (range' s m 1) ((none,()):Option Bool×Unit) λj _=>do
   if(!(<-Op.equalIn (d+1) e (<-part e (ws.map (Value.int k)).toArray (j*i.size)) (<-part e (nS.map (Value.int k)).toArray (j*i.size))))=true then
    pure (ForInStep.done (some false,()))else pure (ForInStep.yield (none,()))).run P w=.ok (if ws.drop s=nS.drop s then(none,())else(some false,())) w:=by
 intro m
 induction m with
 |zero=>
  intro s hs';have e1:ws.drop s=[]:=List.drop_eq_nil_of_le (by omega);have e2:nS.drop s=[]:=List.drop_eq_nil_of_le (by omega);simp[e1,e2]
 |succ m ih=>
  intro s hs';have hi1:s<ws.length:=by omega
  have hi2:s<nS.length:=by omega
  have p1:∀w,(part e (ws.map (Value.int k)).toArray (s*i.size)).run P w=.ok (.int k ws[s]) w:=by
   intro w;simp[part,isAgg,run_underlying he,hs,hi1]
  have p2:∀w,(part e (nS.map (Value.int k)).toArray (s*i.size)).run P w=.ok (.int k nS[s]) w:=by
   intro w;simp[part,isAgg,run_underlying he,hs,hi2]
  rw[List.range'_succ,List.forIn_cons];simp only[Sem.run_bind,p1,p2,Result.andThen_ok,run_equalIn_int _ _ _ _ _ _ _ he];rw[List.drop_eq_getElem_cons hi1,List.drop_eq_getElem_cons hi2];by_cases hq:ws[s]=nS[s];simp only[hq,beq_self_eq_true,Bool.not_true,Bool.false_eq_true,if_false,Sem.run_pure,Result.andThen_ok,List.cons.injEq,true_and];exact ih (s+1) (by omega);have:(ws[s]==nS[s])=false:=by simpa using hq
  have cP:¬(ws[s]::ws.drop (s+1)=nS[s]::nS.drop (s+1)):=λe=>hq (List.cons.inj e).1;rw[if_neg cP];simp only[this,Bool.not_false,if_true,Sem.run_pure,Result.andThen_ok]
theorem vq(d:Nat){t e:TypeId}{n:Nat}{k:IntKind}{i:TypeInfo}(ht:P.underlying t=some (.array n e))(he:P.underlying e=some (.int k))(hi:P.info? e=some i)(hs:i.size=1)
 (ws nS:List Int) (h1:ws.length=n) (h2:nS.length=n) (w:World):
 (Op.equalIn (d+2) t (.agg (ws.map (Value.int k)).toArray) (.agg (nS.map (Value.int k)).toArray)).run P w=.ok (decide (ws=nS)) w:=by
 have key:=af2 (P:=P) d he hs ws nS w n h1 h2 n 0 (by omega);unfold Op.equalIn;simp only[Sem.run_bind,run_underlying ht,Result.andThen_ok,sizeOf,typeInfo,run_program,hi,Sem.run_pure];rw[Std.Legacy.Range.forIn_eq_forIn_range'];simp only[Std.Legacy.Range.size,Nat.sub_zero,Nat.add_sub_cancel,Nat.div_one];rw[key];by_cases hq:ws=nS<;>simp[hq]
theorem ada(d:Nat){e:TypeId}{i:TypeInfo}(hs:i.size=1)(rC:∀w,(isAgg e).run P w=.ok false w)(cx cy:List Value)(w:World)(n:Nat)(h1:cx.length=n)(h2:cy.length=n):∀(m s:Nat) (bs:List Bool),s+m=n->bs.length=m->
 (∀j (hj:j<m) (hx:s+j<cx.length) (hy:s+j<cy.length) (hb:j<bs.length),(Op.equalIn (d+1) e cx[s+j] cy[s+j]).run P w=.ok bs[j] w)->
 (forIn (m:=Sem) (range' s m 1) ((none,()):Option Bool×Unit) λj _=>do
   if(!(<-Op.equalIn (d+1) e (<-part e cx.toArray (j*i.size)) (<-part e cy.toArray (j*i.size))))=true then
    pure (ForInStep.done (some false,()))else pure (ForInStep.yield (none,()))).run P w=.ok (if bs.all id then(none,())else(some false,())) w:=by
 intro m
 induction m with
 |zero=>
  intro s bs _ hb _;obtain rfl:bs=[]:=List.length_eq_zero_iff.1 hb;simp
 |succ m ih=>
  intro s bs hs' hb abu;have hi1:s<cx.length:=by omega
  have hi2:s<cy.length:=by omega
  match bs,hb,abu with
  |b::bs,hb,abu=>
  have p1:∀w,(part e cx.toArray (s*i.size)).run P w=.ok cx[s] w:=by
   intro w;simp[part,rC,hs,hi1]
  have p2:∀w,(part e cy.toArray (s*i.size)).run P w=.ok cy[s] w:=by
   intro w;simp[part,rC,hs,hi2]
  have h0:(Op.equalIn (d+1) e cx[s] cy[s]).run P w=.ok b w:=by
   have:=abu 0 (by omega) (by omega) (by omega) (by simp);simpa using this
  rw[List.range'_succ,List.forIn_cons];simp only[Sem.run_bind,p1,p2,Result.andThen_ok,h0];cases b with
  |true=>
   simp only[Bool.not_true,Bool.false_eq_true,if_false,Sem.run_pure,Result.andThen_ok]
   have:=ih (s+1) bs (by omega) (by simpa using hb) (λj hj hx hy vP=>by
    have:=abu (j+1) (by omega) (by omega) (by omega) (by simp;omega);simp only[show s+(j+1)=s+1+j from by omega]at this;simpa using this)
   simpa using this
  |false=>simp
theorem apG{x y:AV}{b:Bool}{vx vy:Value}(d:Nat){e:TypeId}(he:∃ms,P.underlying e=some (.interface ms))(h:ak9 P x y=some b)(hx:af ρ H O w x vx)(hy:af ρ H O w y vy):(Op.equalIn (d+2) e vx vy).run P w=.ok b w:=by
 have⟨ms,he⟩:=he
 have step:∀(t:TypeId) (a c:Value) (r:Bool),(P.info? t).any (·.comparable)=true->(Op.equalIn (d+1) t a c).run P w=.ok r w->(Op.equalIn (d+2) e (.iface t a) (.iface t c)).run P w=.ok r w:=by
  intro t a c r hc hr
  obtain⟨i,hi,hcc⟩:∃i,P.info? t=some i/\i.comparable=true:=by
   cases hi:P.info? t with
   |none=>simp[hi]at hc|some i=>exact⟨i,rfl,by simpa[hi]using hc⟩
  rw[show d+2=(d+1)+1 from rfl];unfold Op.equalIn;simp[run_underlying he,typeInfo,hi,hcc,hr]
 unfold ak9 at h;split at h;rename_i t k n t' k' n';rw[cond_eq_ite]at h;split at h;rename_i hc;simp only[and_eq_true,beq_eq]at hc;obtain⟨⟨⟨rfl,hk⟩,alE⟩,ht⟩:=hc;obtain rfl:=bt hk;simp only[Option.some.injEq]at h;subst h;have h1:=ax (by simp) hx;have h2:=ax (by simp) hy;cases h1;cases h2;unfold ak7 at ht;split at ht;rename_i k2 ht2;refine step t _ _ _ alE ?_;unfold Op.equalIn;simp[run_underlying ht2];cases ht;cases h;rename_i t s t' s';rw[cond_eq_ite]at h;split at h;rename_i hc;simp only[and_eq_true,beq_eq]at hc;obtain⟨⟨rfl,alE⟩,ht⟩:=hc;simp only[Option.some.injEq]at h;subst h;have h1:=ax (by simp) hx;have h2:=ax (by simp) hy;cases h1;cases h2;unfold ak8 at ht;split at ht;rename_i ht2;refine step t _ _ _ alE ?_;rw[run_equalIn_string _ _ _ _ _ ht2,afQ];cases ht;cases h;rename_i t b1 t' b2;rw[cond_eq_ite]at h;split at h;rename_i hc;simp only[and_eq_true,beq_eq]at hc;obtain⟨⟨rfl,alE⟩,ht⟩:=hc;simp only[Option.some.injEq]at h;subst h;have h1:=ax (by simp) hx;have h2:=ax (by simp) hy;cases h1;cases h2;unfold ahi at ht;split at ht;rename_i ht2;exact step t _ _ _ alE (run_equalIn_bool' _ _ _ _ _ ht2);cases ht;cases h;cases h
theorem alF(d:Nat){e:TypeId}(he:∃ms,P.underlying e=some (.interface ms)):∀{xs ys:List AV} {b:Bool} {cx cy:List Value},eqI P xs ys=some b->az ρ H O w xs cx->az ρ H O w ys cy->
 ∃bs:List Bool,bs.length=xs.length/\cx.length=xs.length/\cy.length=ys.length/\bs.all id=b/\∀j (hx:j<cx.length) (hy:j<cy.length) (hb:j<bs.length),(Op.equalIn (d+2) e cx[j] cy[j]).run P w=.ok bs[j] w
 |[],[],b,cx,cy,h,hx,hy=>by
  simp only[eqI,Option.some.injEq]at h;subst h;rw[aC.1 hx,aC.1 hy];exact⟨[],rfl,rfl,rfl,rfl,λj hj=>by simp at hj⟩
 |[],_::_,b,cx,cy,h,hx,hy=>by simp[eqI]at h
 |_::_,[],b,cx,cy,h,hx,hy=>by simp[eqI]at h
 |x::xs,y::ys,b,cx,cy,h,hx,hy=>by
  simp only[eqI]at h;split at h;rename_i b1 b2 h1 h2;simp only[Option.some.injEq]at h;subst h;obtain⟨u1,c1,rfl,g1,g2⟩:=ag.1 hx;obtain⟨u2,c2,rfl,g3,g4⟩:=ag.1 hy;have sx:∃a,x=.s a/\∀c,a≠.ro c:=by unfold ak9 at h1;split at h1<;>first|exact⟨_,rfl,by simp⟩|cases h1
  have sy:∃a,y=.s a/\∀c,a≠.ro c:=by unfold ak9 at h1;split at h1<;>first|exact⟨_,rfl,by simp⟩|cases h1
  obtain⟨a,rfl,_⟩:=sx;obtain⟨a',rfl,_⟩:=sy;unfold aQ at g1 g3;obtain⟨v1,rfl,d1⟩:=g1;obtain⟨v2,rfl,d2⟩:=g3;have k1:=apG (ρ:=ρ) (H:=H) (O:=O) (w:=w) d he h1 (aE d1) (aE d2);have⟨bs,e1,e2,e3,e4,e5⟩:=alF d he h2 g2 g4;refine⟨b1::bs,by simp[e1],by simp[e2],by simp[e3],by simp[e4],λj hx hy hb=> ?_⟩;cases j with
  |zero=>exact k1|succ j=>exact e5 j (by simpa using hx) (by simpa using hy) (by simpa using hb)
  cases h
theorem ahq(d:Nat){t e:TypeId}(ht:P.underlying t=some (.pointer e))(b:Option Addr):(Op.equalIn (d+1) t (.pointer none) (.pointer b)).run P w=.ok b.isNone w:=by
 unfold Op.equalIn;simp[run_underlying ht]
theorem apH(d:Nat){t e:TypeId}(ht:P.underlying t=some (.pointer e))(a:Addr):(Op.equalIn (d+1) t (.pointer (some a)) (.pointer none)).run P w=.ok false w:=by
 unfold Op.equalIn;simp[run_underlying ht]
def mk(P:Program)(t:TypeId)(cs:List Value):Value:=
 match ir P t with
 |some true=>.agg cs.toArray|_=>cs.headD undef
theorem abC{d d':Nat}(ih:∀{t:TypeId} {xs ys:List AV} {b:Bool} {cx cy:List Value},eqC P d t xs ys=some b->az ρ H O w xs cx->az ρ H O w ys cy->(Op.equalIn d' t (mk P t cx) (mk P t cy)).run P w=.ok b w)
 {xs ys:List AV} {cx cy:List Value} (hx:az ρ H O w xs cx) (hy:az ρ H O w ys cy):∀(fs:List Field) {b:Bool},ajp P (eqC P d) fs xs ys=some b->(Op.eqFields d' cx.toArray cy.toArray fs).run P w=.ok b w
 |[],b,h=>by
  simp only[ajp,Option.some.injEq]at h;subst h;rfl
 |f::fs,b,h=>by
  simp only[ajp,cond_eq_ite]at h;simp only[Op.eqFields,Sem.run_ite];split at h;rename_i hn;rw[if_neg (by simpa using hn)];exact abC ih hx hy fs h;rename_i hn;rw[if_pos (by simpa using hn)];split at h;rename_i sz zo bU rC;split at h
  case isFalse=>cases h
  rename_i tT;split at h;rename_i a b' h1 h2;have⟨sa,h3,h4⟩:=bind_eq_some_iff.1 h1;have⟨sb,h5,h6⟩:=bind_eq_some_iff.1 h2;have⟨g1,g2⟩:=fQ _ _ h3 hx;have⟨g3,g4⟩:=fR _ _ h4 g2;have⟨k1,k2⟩:=fQ _ _ h5 hy;have⟨k3,k4⟩:=fR _ _ h6 k2;split at h;rename_i p q h7 h8;simp only[Option.some.injEq]at h;subst h;have hp:=ih h7 g4 k4
  have asw:∀(cs:List Value),f.offset<=cs.length->sz<=(cs.drop f.offset).length->(part f.type cs.toArray f.offset).run P w=.ok (mk P f.type ((cs.drop f.offset).take sz)) w:=by
   intro cs q1 q2;cases zo;have azn:sz=1:=by simpa using tT
   subst azn;simp only[length_drop]at q2;have bo:f.offset<cs.length:=by omega
   have e1:mk P f.type ((cs.drop f.offset).take 1)=cs[f.offset]:=by
    simp only[mk,rC];rw[List.drop_eq_getElem_cons bo];rfl
   rw[e1];simp[part,gY rC,bo];simp only[mk,rC];simp[part,gY rC,run_sizeOf bU,List.extract_eq_take_drop]
  simp only[Sem.run_bind,asw cx g1 g3,asw cy k1 k3,Result.andThen_ok,hp,Sem.run_ite];cases p;simp;simpa using abC ih hx hy fs h8;cases h;cases h;cases h
theorem alG:∀(d:Nat) {t:TypeId} {xs ys:List AV} {b:Bool} {cx cy:List Value},eqC P d t xs ys=some b->az ρ H O w xs cx->az ρ H O w ys cy->∀{d':Nat},d<=d'->(Op.equalIn d' t (mk P t cx) (mk P t cy)).run P w=.ok b w
 |0,t,xs,ys,b,cx,cy,h,_,_,_,_=>by simp[eqC]at h
 |d+1,t,xs,ys,b,cx,cy,h,hx,hy,0,hd=>by omega
 |d+1,t,xs,ys,b,cx,cy,h,hx,hy,d'+1,hd=>by
  simp only[eqC]at h
  have one:∀{x:AV} {cs:List Value},az ρ H O w [x] cs->(∀k n ws,x≠.ah k n ws)->∃u,cs=[u]/\af ρ H O w x u:=by
   intro x cs h hx;obtain⟨c1,c2,rfl,h1,h2⟩:=ag.1 h;rw[aC.1 h2];obtain⟨u,rfl,_,h3⟩:=fT h1 (gR hx) hx;exact⟨u,rfl,h3⟩
  split at h;rename_i k0 ht;have ha:ir P t=some false:=by simp[ir,ht]
  split at h;rename_i x y;split at h;rename_i k l a k' l' b' h1 h2;rw[cond_eq_ite]at h;split at h;rename_i hk;obtain rfl:=bt hk;simp only[Option.some.injEq]at h;subst h;obtain⟨u,rfl,hu⟩:=one hx (by rintro k n ws rfl;simp[AV.cC]at h1);obtain⟨v,rfl,hv⟩:=one hy (by rintro k n ws rfl;simp[AV.cC]at h2);obtain rfl:=ch h1 hu;obtain rfl:=ch h2 hv;simp only[mk,ha,List.headD_cons];exact run_equalIn_int _ _ _ _ _ _ _ ht;cases h;cases h;cases h;rename_i ht;have ha:ir P t=some false:=by simp[ir,ht]
  split at h;rename_i x y;split at h;rename_i l a l' b' h1 h2;simp only[Option.some.injEq]at h;subst h;obtain⟨u,rfl,hu⟩:=one hx (by rintro k n ws rfl;simp[AV.fM]at h1);obtain⟨v,rfl,hv⟩:=one hy (by rintro k n ws rfl;simp[AV.fM]at h2);obtain rfl:=kB h1 hu;obtain rfl:=kB h2 hv;simp only[mk,ha,List.headD_cons];exact run_equalIn_bool' _ _ _ _ _ ht;cases h;cases h;rename_i ht;have ha:ir P t=some false:=by simp[ir,ht]
  split at h;rename_i a b';simp only[Option.some.injEq]at h;subst h;obtain⟨u,rfl,hu⟩:=one hx (by simp);obtain⟨v,rfl,hv⟩:=one hy (by simp);obtain rfl:=fH hu;obtain rfl:=fH hv;simp only[mk,ha,List.headD_cons];rw[run_equalIn_string _ _ _ _ _ ht,afQ];cases h;rename_i n e ht;have ha:ir P t=some true:=by simp[ir,ht]
  split at h;rename_i k m ws k' m' nS;split at h;rename_i k'' he;rw[cond_eq_ite]at h;split at h;rename_i hc;simp only[and_eq_true,beq_iff_eq]at hc;have⟨⟨⟨⟨⟨e0,e1⟩,e2⟩,e3⟩,e4⟩,e5⟩:=hc;have e0:=le_of_ble_eq_true e0;obtain rfl:=bt e1;obtain rfl:=bt e2;subst e3;subst e4;simp only[Option.some.injEq]at h;subst h;obtain⟨c1,c2,rfl,h1,h2⟩:=ag.1 hx;rw[aC.1 h2];obtain⟨c3,c4,rfl,h3,h4⟩:=ag.1 hy;rw[aC.1 h4];unfold aQ at h1 h3;obtain⟨l1,rfl⟩:=h1;obtain⟨l2,rfl⟩:=h3
  obtain⟨i,hi,hs⟩:∃i,P.info? e=some i/\i.size=1:=by
   cases hi:P.info? e with
   |none=>simp[hi]at e5|some i=>exact⟨i,rfl,by simpa[hi]using e5⟩
  obtain⟨d2,rfl⟩:∃d2,d'=d2+1:=⟨d' - 1,by omega⟩;simp only[mk,ha,append_nil];exact vq d2 ht he hi hs ws nS l1 l2 w;cases h;cases h;cases h;rename_i fs ht;have ha:ir P t=some true:=by simp[ir,ht]
  have hf:P.fieldsOf t=fs:=by simp[Program.fieldsOf,ht]
  rw[cond_eq_ite]at h;split at h;cases h;rename_i ni;simp only[mk,ha];rw[run_equalIn_struct w d' t _ _ (by rw[hf];exact ht) (by simpa using ni),hf];exact abC (λh1 h2 h3=>alG d h1 h2 h3 (by omega)) hx hy fs.toList h;cases h
theorem alH{t:TypeId}{x y:AV}{vx vy:Value}{q:Bool×Bool}(h:eqR P t x y=some q)(hx:af ρ H O w x vx)(hy:af ρ H O w y vy):
 (Op.equal t vx vy).run P w=.ok q.2 w/\(∀op a b,(eqGuard op t a b vx vy).run P w=.ok () w)/\
 (∀op,op=.eql\/op=.neq->(binOp op t vx vy).run P w=((do let b <-Op.equal t vx vy;pure (.bool (if op=.eql then b else !b))):Sem Value).run P w):=by
 have key:∀vx vy:Value,(∀k a,vx≠.int k a)->(∀s,vx≠.string s)->(∀k a,vx≠.float k a)->(∀k a b,vx≠.complex k a b)->
  ∀op,op=.eql\/op=.neq->(binOp op t vx vy).run P w=((do let b <-Op.equal t vx vy;pure (.bool (if op=.eql then b else !b))):Sem Value).run P w:=by
  intro vx vy h1 h2 h3 h4 op zk
  rcases zk with rfl|rfl<;>cases vx<;>cases vy<;>first
   |rfl|(exact(h1 _ _ rfl).elim)|(exact(h2 _ rfl).elim)|(exact(h3 _ _ rfl).elim)|(exact(h4 _ _ _ rfl).elim)
 unfold eqR at h;split at h;rename_i ht;split at h;rename_i lx a ly b h1 h2;simp only[Option.some.injEq]at h;subst h;obtain rfl:=kB h1 hx;obtain rfl:=kB h2 hy;exact⟨run_equal_bool w t a b ht,λop c d=>abh op t c d a b,key _ _ (by simp) (by simp) (by simp) (by simp)⟩;cases h;rename_i n e k m ws k' m' nS ht;split at h;rename_i k'' he;simp only[cond_eq_ite]at h;split at h;rename_i hc;simp only[and_eq_true,beq_iff_eq,not_eq_true']at hc;have⟨⟨⟨⟨⟨e1,e2⟩,e3⟩,e4⟩,e5⟩,e6⟩:=hc;obtain rfl:=bt e1;obtain rfl:=bt e2;subst e3;subst e4;simp only[Option.some.injEq]at h;subst h;unfold af at hx hy;obtain⟨l1,rfl⟩:=hx;obtain⟨l2,rfl⟩:=hy
 obtain⟨i,hi,hs⟩:∃i,P.info? e=some i/\i.size=1:=by
  cases hi:P.info? e with
  |none=>simp[hi]at e5|some i=>exact⟨i,rfl,by simpa[hi]using e5⟩
 exact⟨vq 9998 ht he hi hs ws nS l1 l2 w,λop c d=>run_eqGuard_agg w op t c d _ _ e6,key _ _ (by simp) (by simp) (by simp) (by simp)⟩;cases h;cases h;rename_i e ht;simp only[Option.some.injEq]at h;subst h;have h1:=ax (by simp) hx;have h2:=ax (by simp) hy;cases h1;cases h2;exact⟨ahq 9999 ht none,λop c d=>ou op t c d _ _,key _ _ (by simp) (by simp) (by simp) (by simp)⟩;rename_i e id off ht;simp only[Option.some.injEq]at h;subst h;have h1:=ax (by simp) hx;cases h1;unfold af aN at hy;obtain⟨b,_,rfl,_⟩:=hy;exact⟨ahq 9999 ht _,λop c d=>ou op t c d _ _,key _ _ (by simp) (by simp) (by simp) (by simp)⟩;rename_i e id off ht;simp only[Option.some.injEq]at h;subst h;have h1:=ax (by simp) hy;cases h1;unfold af aN at hx;obtain⟨b,_,rfl,_⟩:=hx;exact⟨apH 9999 ht _,λop c d=>ou op t c d _ _,key _ _ (by simp) (by simp) (by simp) (by simp)⟩;rename_i n e xs ys ht;split at h;rename_i ms he;rw[cond_eq_ite]at h;split at h;rename_i hc;simp only[and_eq_true,beq_iff_eq,not_eq_true']at hc;have⟨⟨⟨hn1,tA⟩,bU⟩,hg⟩:=hc;obtain⟨b,h1,rfl⟩:=map_eq_some_iff.1 h
 obtain⟨i,hi,hs⟩:∃i,P.info? e=some i/\i.size=1:=by
  cases hi:P.info? e with
  |none=>simp[hi]at bU|some i=>exact⟨i,rfl,by simpa[hi]using bU⟩
 unfold af at hx hy;obtain⟨cx,rfl,hx⟩:=hx;obtain⟨cy,rfl,hy⟩:=hy;have⟨bs,e1,e2,e3,e4,e5⟩:=alF (P:=P) 9997 ⟨ms,he⟩ h1 hx hy
 have apw:=ada (P:=P) 9998 (e:=e) hs (λw=>by simp[isAgg,run_underlying he]) cx cy w n (by omega) (by omega) n 0 bs (by omega) (by omega) (λj hj hx hy hb=>by
  simp only[zero_add];exact e5 j (by omega) (by omega) hb)
 refine⟨?_,λop c d=>run_eqGuard_agg w op t c d _ _ hg,key _ _ (by simp) (by simp) (by simp) (by simp)⟩;show(Op.equalIn (9999+1) t _ _).run P w=_;unfold Op.equalIn;simp only[Sem.run_bind,run_underlying ht,Result.andThen_ok,sizeOf,typeInfo,run_program,hi,Sem.run_pure];rw[Std.Legacy.Range.forIn_eq_forIn_range'];simp only[Std.Legacy.Range.size,Nat.sub_zero,Nat.add_sub_cancel,Nat.div_one];rw[apw,<-e4];cases bs.all id<;>simp;cases h;cases h;rename_i fs xs ys ht;rw[cond_eq_ite]at h;split at h;cases h;rename_i hg;obtain⟨b,h1,rfl⟩:=map_eq_some_iff.1 h;unfold af at hx hy;obtain⟨cx,rfl,hx⟩:=hx;obtain⟨cy,rfl,hy⟩:=hy;have hk:=alG (P:=P) 20 h1 hx hy (d':=10000) (by omega);have ha:ir P t=some true:=by simp[ir,ht]
 simp only[mk,ha]at hk;exact⟨hk,λop c d=>run_eqGuard_agg w op t c d _ _ (by simpa using hg),key _ _ (by simp) (by simp) (by simp) (by simp)⟩;cases h
theorem adb{x:AV}{k:IntKind}{v:Value}(h:x.kind? =some k)(hd:af ρ H O w x v):∃n,v=.int k n:=by
 unfold AV.kind? at h;split at h<;>cases h
 all_goals
  have:=ax (by simp) hd;cases this;exact⟨_,rfl⟩
theorem ajT{op:BinOp}{t:TypeId}{k:IntKind}{a b:Int}{r:AV}(h:afA op k=some r):∃v,(binOp op t (.int k a) (.int k b)).run P w=.ok v w/\af ρ H O w r v:=by
 have ar:∀(op:BinOp) (n:Int),wT op k true true a b=some ([],.s (.aR k n))->∃v,(binOp op t (.int k a) (.int k b)).run P w=.ok v w/\af ρ H O w (.s (.aa9 k)) v:=λop n h=>by
  have⟨v,h3,h4⟩:=tK (P:=P) (t:=t) (ρ:=ρ) (H:=H) (O:=O) (w:=w) h trivial;have:=ax (by simp) h4;cases this;exact⟨_,h3,aE (.aa9 _ _)⟩
 have cm:∀(op:BinOp) (c:Bool),wT op k true true a b=some ([],.s (.aI c))->∃v,(binOp op t (.int k a) (.int k b)).run P w=.ok v w/\af ρ H O w (.s (.lI 0 true)) v:=λop c h=>by
  have⟨v,h3,h4⟩:=tK (P:=P) (t:=t) (ρ:=ρ) (H:=H) (O:=O) (w:=w) h trivial;have:=ax (by simp) h4;cases this;exact⟨_,h3,aE (.lI 0 true _ (λ_=>rfl))⟩
 unfold afA at h;split at h<;>cases h;exact ar .add _ rfl;exact ar .sub _ rfl;exact ar .mul _ rfl;exact ar .and _ rfl;exact ar .or _ rfl;exact ar .xor _ rfl;exact ar .andNot _ rfl;exact cm .eql _ rfl;exact cm .neq _ rfl;exact cm .lss _ rfl;exact cm .leq _ rfl;exact cm .gtr _ rfl;exact cm .geq _ rfl
theorem ahr{op:BinOp}{t:TypeId}{x y:AV}{ox oy:Operand}{vx vy:Value}{q:List Prop×AV}(h:apk P op t x y=some q)(hn:bJ q.1)
 (hx:af ρ H O w x vx) (hy:af ρ H O w y vy):
 ∃v,(do eqGuard op t ox oy vx vy;binOp op t vx vy:Sem Value).run P w=.ok v w/\af ρ H O w q.2 v:=by
 unfold apk at h;split at h;rename_i a b;obtain rfl:=fH hx;obtain rfl:=fH hy;have⟨v,h1,h2⟩:=ajq (P:=P) (t:=t) (ρ:=ρ) (H:=H) (O:=O) (w:=w) h hn;exact⟨v,by simp[acL,h1],h2⟩;split at h;rename_i k lx a k' ly b h1 h2;obtain rfl:=ch h1 hx;obtain rfl:=ch h2 hy;split at h;have⟨v,h3,h4⟩:=aab (P:=P) (t:=t) (k':=k') (ρ:=ρ) (H:=H) (O:=O) (w:=w) h hn;exact⟨v,by simp[gX,h3],h4⟩;have⟨v,h3,h4⟩:=aab (P:=P) (t:=t) (k':=k') (ρ:=ρ) (H:=H) (O:=O) (w:=w) h hn;exact⟨v,by simp[gX,h3],h4⟩;rw[cond_eq_ite]at h;split at h;rename_i hk;obtain rfl:=bt hk;have⟨v,h3,h4⟩:=tK (P:=P) (t:=t) (ρ:=ρ) (H:=H) (O:=O) (w:=w) h hn;exact⟨v,by simp[gX,h3],h4⟩;cases h;split at h;rename_i k k' vR vg;rw[cond_eq_ite]at h;split at h;rename_i hk;obtain rfl:=bt hk;obtain⟨a,rfl⟩:=adb vR hx;obtain⟨b,rfl⟩:=adb vg hy;simp only[map_eq_some_iff]at h;obtain⟨r,hr,rfl⟩:=h;have⟨v,h3,h4⟩:=ajT (P:=P) (t:=t) (ρ:=ρ) (H:=H) (O:=O) (w:=w) (a:=a) (b:=b) hr;exact⟨v,by simp[gX,h3],h4⟩;cases h;split at h;simp only[map_eq_some_iff]at h;obtain⟨⟨l,b⟩,h1,rfl⟩:=h;have⟨h2,h3,h4⟩:=alH h1 hx hy;exact⟨.bool b,by simp[h3,h4 .eql (.inl rfl),h2],qR _ _⟩;simp only[map_eq_some_iff]at h;obtain⟨⟨l,b⟩,h1,rfl⟩:=h;have⟨h2,h3,h4⟩:=alH h1 hx hy;exact⟨.bool (!b),by simp[h3,h4 .neq (.inr rfl),h2],qR _ _⟩;cases h
theorem apI{t:TypeId}{x:AV}{vx:Value}{q:bQ}(h:(atM P t x).eval H=some q)(hn:bJ q.ab)(hx:af ρ H O w x vx):fz P ρ H O w q (Instr.makeInterface t vx):=by
 have run:∀(v:Value) {u:TypeDesc},P.underlying t=some u->(∀ms,u≠.interface ms)->(Instr.makeInterface t v).run P w=.ok (.iface t v) w:=by
  intro v u hu hni;unfold Instr.makeInterface;simp only[Sem.run_bind,run_underlying hu,Result.andThen_ok,Sem.run_pure]
 unfold atM at h;split at h;simp[RM.eval]at h;rename_i u k n cP hu;have h1:=ax (by simp) hx;cases h1;exact aO h (λ_=>⟨_,run _ hu (λms e=>cP ms e),aE (.ifi t k n)⟩) hn;rename_i u k n cP hu;have h1:=ax (by simp) hx;cases h1;exact aO h (λ_=>⟨_,run _ hu (λms e=>cP ms e),aE (.ifi t k n)⟩) hn;rename_i u s cP hu;have h1:=ax (by simp) hx;cases h1;exact aO h (λ_=>⟨_,run _ hu (λms e=>cP ms e),aE (.ifs t s)⟩) hn;rename_i u b cP hu;have h1:=ax (by simp) hx;cases h1;exact aO h (λ_=>⟨_,run _ hu (λms e=>cP ms e),aE (.ifb t b)⟩) hn;rename_i u b cP hu;have h1:=ax (by simp) hx;cases h1;exact aO h (λ_=>⟨_,run _ hu (λms e=>cP ms e),aE (.ifb t b)⟩) hn;simp[RM.eval]at h
end
def Yields(P:Program)(o:Oper)(e:Operand->Value)(w:World)(R:Value->World->Prop):Prop:=
 match(execOp e o).run P w with
 |.ok (.value v) w'=>R v w'|.ok .skip w'=>R undef w'|.ok (.enter f args) w'=>Calls P f args w' λen w''=>∃v,en=.returned v/\R v w''|_=>False
structure bh where
 bs:List Nat
 ok:World->Prop
 low:∀w,ok w->∀b,b∈bs->b<w.heap.size
 keep:∀w w',ok w->(∀b,b∈bs->w'.heap[b]? =w.heap[b]?)->ok w'
def ZAt(Z:bh)(ρ:Nat->Value)(H:aS)(w:World):Prop:=Z.ok w/\∀b,b∈Z.bs->¬Own ρ H b
def SOk(P:Program)(S:fG)(Z:bh):Prop:=
 ∀(base:Nat) (f:FuncId) (args:List AV) (H:aS) (q:bQ),jw P f=true->(S base f args).eval H=some q->bJ q.ab->∀(ρ:Nat->Value) (G:Nat->Prop) (w:World) (vs:List Value),
  (∀i,i<q.new.length->H (base+i)=none)->ZAt Z ρ H w->Sat ρ H G w->bL ρ H (aV ρ H G) w args vs->
  Calls P f vs.toArray w λen w'=>∃v,en=.returned v/\Good ρ H G w (cY H q.up base q.new) (q.r base) v w'
section
variable{ρ aL:Nat->Value}{H H':aS}{G O O':Nat->Prop}{w w':World}{P:Program}{S:fG}{Z:bh}
theorem pN{why:String}{p:Option (List Prop×AV)}{q:bQ}(h:(qJ why p).eval H=some q):∃x,p=some x/\q=⟨x.1,[],[],λ_=>x.2⟩:=by
 cases p with
 |none=>simp[qJ,RM.eval]at h|some x=>simp only[qJ,plain,RM.eval,Option.some.injEq]at h;exact⟨x,rfl,h.symm⟩
theorem bG{o:Oper}{e:Operand->Value}{q:bQ}{s:Sem Value}(hs:Sat ρ H G w)(h:fz P ρ H (aV ρ H G) w q s)(he:(execOp e o).run P w=(do pure (Next.value (<-s)):Sem Next).run P w)(base:Nat):
 Yields P o e w (λv w'=>Good ρ H G w (cY H q.up base q.new) (q.r base) v w'):=by
 have⟨h1,h2,v,h3,h4⟩:=h;unfold Yields;rw[he,h1,h2,mA];simp only[Sem.run_bind,h3,Result.andThen_ok,Sem.run_pure];exact Good.val hs (h4 base)
theorem cZ{o:Oper}{e:Operand->Value}{R:Value->World->Prop}{s:Sem Value}(h:∃v w',s.run P w=.ok v w'/\R v w')(he:(execOp e o).run P w=(do pure (Next.value (<-s)):Sem Next).run P w):Yields P o e w R:=by
 have⟨v,w',h1,h2⟩:=h;unfold Yields;rw[he];simp only[Sem.run_bind,h1,Result.andThen_ok,Sem.run_pure];exact h2
theorem oL{ev:Operand->AV}{e:Operand->Value}:∀(l:List Operand),(∀x∈l,af ρ H O w (ev x) (e x))->bL ρ H O w (l.map ev) (l.map e)
 |[],_=>a8.2 rfl|x::l,h=>aD.2 ⟨e x,l.map e,rfl,h x (by simp),oL l (λy hy=>h y (by simp[hy]))⟩
theorem jD{aP bs:List AV}{us vs:List Value}(h1:bL ρ H O w aP us)(h2:bL ρ H O w bs vs):bL ρ H O w (aP++bs) (us++vs):=by
 induction aP generalizing us with
 |nil=>rw[a8.1 h1];exact h2|cons a aP ih=>
  obtain⟨v,rest,rfl,h3,h4⟩:=aD.1 h1;exact aD.2 ⟨v,rest++vs,rfl,h3,ih h4⟩
theorem iC{f:FuncId}(h:jw P f=true)(args:Array Value)(w:World):(callFunc f args).run P w=.ok (.enter f args) w:=by
 unfold jw at h;split at h;rename_i fn hf;simp only[and_eq_true,not_eq_true',beq_eq_false_iff_ne,ne_eq]at h
 have hb:¬fn.body=none:=by
  intro hb;rw[hb]at h;simp at h
 simp[callFunc,hf,h.2,hb];cases h
theorem abD{f:FuncId}{v:Value}(h:aW O w (.rH f) v):v=.func (.func f) #[] #[]:=by cases h;rfl
theorem af3{ev:Operand->AV}{e:Operand->Value}{l:Option Operand}(h:∀x,l=some x->af ρ H O w (ev x) (e x)):oC ρ H O w (l.map ev) (l.map e):=by
 cases l with
 |none=>trivial|some x=>exact h x rfl
theorem aak{ps:Array (Nat×Operand)}{p:Nat×Operand}(h:p∈ps):p.2∈(ps.toList.map (·.2)).toArray:=by
 simp only[List.mem_toArray,mem_map];exact⟨p,Array.mem_toList_iff.2 h,rfl⟩
theorem ahs(hS:SOk P S Z){base:Nat}{o:Oper}{ev:Operand->AV}{q:bQ}(h:(alf P (S base) ev o).eval H=some q)(hn:bJ q.ab)(hz:ZAt Z ρ H w)(hs:Sat ρ H G w){e:Operand->Value}
 (hd:∀x∈o.op.operands,af ρ H (aV ρ H G) w (ev x) (e x)) (hb:∀i,i<q.new.length->H (base+i)=none):
 Yields P o e w (λv w'=>Good ρ H G w (cY H q.up base q.new) (q.r base) v w'):=by
 unfold alf at h;split at h;rename_i x ho;have hx:=hd x (by simp[ho,Op.operands]);simp only[plain,RM.eval,Option.some.injEq]at h;subst h;unfold Yields;simp only[execOp,ho,Sem.run_pure,mA];exact Good.val hs hx;rename_i x ho;have hx:=hd x (by simp[ho,Op.operands]);simp only[plain,RM.eval,Option.some.injEq]at h;subst h;unfold Yields;simp only[execOp,ho,Sem.run_pure,mA];exact Good.val hs hx;rename_i c a b ho;obtain⟨⟨n,r⟩,h1,rfl⟩:=pN h;have⟨t,h2,h3⟩:=ali h1 (hd c (by simp[ho,Op.operands])) (hd a (by simp[ho,Op.operands])) (hd b (by simp[ho,Op.operands]));unfold Yields;simp only[execOp,ho,h2,asBool,mA];cases t<;>simp at h3 ⊢ <;>exact Good.val hs h3;rename_i t ho;exact cZ (ajE h hs hb (.tuple #[])) (by simp only[execOp,ho]);rename_i t x ho;exact cZ (apy h hs (hd x (by simp[ho,Op.operands])) hb) (by simp only[execOp,ho]);rename_i t x ho;exact bG hs (apI h hn (hd x (by simp[ho,Op.operands]))) (by simp only[execOp,ho]) base;rename_i t ps ho;exact bG hs (ajF h hn (λp hp=>hd p.2 (by rw[ho];exact aak hp))) (by simp only[execOp,ho]) base;rename_i t n ps ho;exact cZ (xi h hs (λp hp=>hd p.2 (by rw[ho];exact aak hp)) hb) (by simp only[execOp,ho]);rename_i t a ho;exact bG hs (acP h hn hs (hd a (by simp[ho,Op.operands]))) (by simp only[execOp,ho]) base;rename_i t a x ho;have⟨w',h1,h2⟩:=ajD h hs (hd a (by simp[ho,Op.operands])) (hd x (by simp[ho,Op.operands]));unfold Yields;simp only[execOp,ho,Sem.run_bind,h1,Result.andThen_ok,Sem.run_pure];exact h2 base;rename_i x ho;have⟨h1,h2,h3,h4⟩:=abn (P:=P) h hn (hd x (by simp[ho,Op.operands])) e o x ho rfl;unfold Yields;rw[h3,h1,h2,mA];exact Good.val hs (h4 base);rename_i op t x y ty ho;obtain⟨⟨n,r⟩,h1,rfl⟩:=pN h;have⟨v,h2,h3⟩:=ahr (ox:=x) (oy:=y) h1 hn (hd x (by simp[ho,Op.operands])) (hd y (by simp[ho,Op.operands]));exact bG hs ⟨rfl,rfl,v,h2,λ_=>h3⟩ (by simp only[execOp,ho]) base;rename_i op t x ho;obtain⟨⟨n,r⟩,h1,rfl⟩:=pN h;have⟨v,h2,h3⟩:=atO (P:=P) h1 hn (hd x (by simp[ho,Op.operands]));exact bG hs ⟨rfl,rfl,v,h2,λ_=>h3⟩ (by simp only[execOp,ho]) base;rename_i a b x ho;rw[cond_eq_ite]at h;split at h;exact cZ (ac4 h hn hs (hd x (by simp[ho,Op.operands])) base) (by simp only[execOp,ho]);exact bG hs (acU h hn hs (hd x (by simp[ho,Op.operands]))) (by simp only[execOp,ho]) base;rename_i t x ho;exact bG hs (ac5 h hn (hd x (by simp[ho,Op.operands]))) (by simp only[execOp,ho]) base;rename_i x ho;exact bG hs (ajS h hn hs (hd x (by simp[ho,Op.operands]))) (by simp only[execOp,ho]) base;rename_i fn a b ho;refine bG hs (abo h hn (oL a.toList (λx hx=>hd x (by simp[ho,Op.operands,Array.mem_toList_iff.1 hx]))) (oL b.toList (λx hx=>hd x (by simp[ho,Op.operands,Array.mem_toList_iff.1 hx])))) ?_ base;have e1:∀a:Array Operand,(a.toList.map e).toArray=a.map e:=λa=>by apply toList_inj.1;simp
 simp only[execOp,ho,e1];rename_i t x l hi m ho;refine bG hs (ajw hs h hn (hd x (by simp[ho,Op.operands])) (af3 (l:=l) (λy hy=>hd y (by simp[ho,Op.operands,hy]))) (af3 (l:=hi) (λy hy=>hd y (by simp[ho,Op.operands,hy]))) (af3 (l:=m) (λy hy=>hd y (by simp[ho,Op.operands,hy])))) (by simp only[execOp,ho]) base;rename_i t x f ho;exact bG hs (zr h hn (hd x (by simp[ho,Op.operands]))) (by simp only[execOp,ho]) base;rename_i t x f ho;exact bG hs (ajv h hn (hd x (by simp[ho,Op.operands]))) (by simp only[execOp,ho]) base;rename_i t x i ho;exact bG hs (zt h hn hs (hd x (by simp[ho,Op.operands])) (hd i (by simp[ho,Op.operands]))) (by simp only[execOp,ho]) base;rename_i t x i ho;exact bG hs (ajt h hn (hd x (by simp[ho,Op.operands])) (hd i (by simp[ho,Op.operands]))) (by simp only[execOp,ho]) base;rename_i x i ho;exact bG hs (acR h hn (hd x (by simp[ho,Op.operands]))) (by simp only[execOp,ho]) base;rename_i t x i ok ho;exact bG hs (af1 h hn hs (hd x (by simp[ho,Op.operands])) (hd i (by simp[ho,Op.operands]))) (by simp only[execOp,ho]) base;rename_i t x i v ho;have⟨w',h1,h2⟩:=qu h hs (hd x (by simp[ho,Op.operands])) (hd i (by simp[ho,Op.operands])) (hd v (by simp[ho,Op.operands]));unfold Yields;simp only[execOp,ho,Sem.run_bind,h1,Result.andThen_ok,Sem.run_pure];exact h2 base;rename_i t x i v ho;have⟨w',h1,h2⟩:=qu h hs (hd x (by simp[ho,Op.operands])) (hd i (by simp[ho,Op.operands])) (hd v (by simp[ho,Op.operands]));unfold Yields;simp only[execOp,ho,Sem.run_bind,h1,Result.andThen_ok,Sem.run_pure];exact h2 base;rename_i t r ho;have⟨h1,h2⟩:=ac3 h hs hb
 have hr:r=none:=by cases r with
  |none=>rfl|some x=>cases h1
 subst hr;exact cZ h2 (by simp only[execOp,ho];rfl);rename_i t l c ho;exact cZ (zy h hn hs (hd l (by simp[ho,Op.operands])) (hd c (by simp[ho,Op.operands])) hb) (by simp only[execOp,ho]);rename_i c ho;split at h;rename_i f hc;have hf:=hd f (by simp[ho,Op.operands,Call.operands,hc]);have gu:∀x∈c.args.toList,af ρ H (aV ρ H G) w (ev x) (e x):=λx hx=>hd x (by simp[ho,Op.operands,Call.operands,hc,Array.mem_toList_iff.1 hx]);have hl:=oL c.args.toList gu;have e1:(c.args.toList.map e).toArray=c.args.map e:=by apply toList_inj.1;simp
 split at h;rename_i g hg;rw[hg]at hf;have hf':=ax (by simp) hf;unfold aaa at h;rw[cond_eq_ite]at h;have hv:=abD hf';split at h;rename_i gC;have key:=hS base g _ H q gC h hn ρ G w _ hb hz hs hl;unfold Yields
 have jb:(execOp e o).run P w=.ok (.enter g (c.args.toList.map e).toArray) w:=by
  rw[e1];simp[execOp,ho,resolve,hc,hv,Deferred.ofValue,invoke,iC gC]
 rw[jb];exact key;have⟨v,k1,k2,k3,k4⟩:=nj h hn hs hl;rw[e1]at k1;refine bG (s:=pure v) hs ⟨k2,k3,v,by simp,k4⟩ ?_ base;simp[execOp,ho,resolve,hc,hv,Deferred.ofValue,invoke,k1];rename_i g dv hg;rw[hg]at hf;unfold af at hf;have⟨vs,hv,rW⟩:=hf;unfold aaa at h;rw[cond_eq_ite]at h;split at h;rename_i gC;have key:=hS base g _ H q gC h hn ρ G w _ hb hz hs (jD hl rW);unfold Yields
 have jb:(execOp e o).run P w=.ok (.enter g (c.args.toList.map e++vs).toArray) w:=by
  have e2:(c.args.toList.map e++vs).toArray=c.args.map e++vs.toArray:=by apply toList_inj.1;simp
  rw[e2];simp[execOp,ho,resolve,hc,hv,Deferred.ofValue,invoke,iC gC]
 rw[jb];exact key;have⟨v,k1,k2,k3,k4⟩:=nj h hn hs (jD hl rW);have e2:(c.args.toList.map e++vs).toArray=c.args.map e++vs.toArray:=by apply toList_inj.1;simp
 rw[e2]at k1;refine bG (s:=pure v) hs ⟨k2,k3,v,by simp,k4⟩ ?_ base;simp[execOp,ho,resolve,hc,hv,Deferred.ofValue,invoke,k1];rename_i g dv hg;rw[hg]at hf;unfold af at hf;have⟨vs,hv,rW⟩:=hf;unfold aaa at h;rw[cond_eq_ite]at h;split at h;rename_i gC;have key:=hS base g _ H q gC h hn ρ G w _ hb hz hs (jD rW hl);unfold Yields
 have jb:(execOp e o).run P w=.ok (.enter g (vs++c.args.toList.map e).toArray) w:=by
  have e2:(vs++c.args.toList.map e).toArray=vs.toArray++c.args.map e:=by apply toList_inj.1;simp
  rw[e2];simp[execOp,ho,resolve,hc,hv,Deferred.ofValue,invoke,iC gC]
 rw[jb];exact key;have⟨v,k1,k2,k3,k4⟩:=nj h hn hs (jD rW hl);have e2:(vs++c.args.toList.map e).toArray=vs.toArray++c.args.map e:=by apply toList_inj.1;simp
 rw[e2]at k1;refine bG (s:=pure v) hs ⟨k2,k3,v,by simp,k4⟩ ?_ base;simp[execOp,ho,resolve,hc,hv,Deferred.ofValue,invoke,k1];cases h;rename_i b hc;have gu:∀x∈c.args.toList,af ρ H (aV ρ H G) w (ev x) (e x):=λx hx=>hd x (by simp[ho,Op.operands,Call.operands,hc,Array.mem_toList_iff.1 hx])
 have jb:(execOp e o).run P w=(builtin b c.argTypes o.type (c.args.map λ|.const _=>true|_=>false) (c.args.map e)).run P w:=by
  simp[execOp,ho,resolve,hc,invoke];rfl
 unfold acK at h;split at h;rename_i t ts x hts hx
 obtain⟨y,hy,rfl⟩:∃y,c.args.toList=[y]/\ev y=x:=by
  cases hl:c.args.toList with
  |nil=>rw[hl]at hx;simp at hx|cons y l=>
   rw[hl]at hx;simp only[map_cons,List.cons.injEq,List.map_eq_nil_iff]at hx;exact⟨y,by rw[hx.2],hx.1⟩
 have ea:c.args.map e= #[e y]:=by apply toList_inj.1;simp[hy]
 have et:c.argTypes=(t::ts).toArray:=by apply toList_inj.1;simp[hts]
 refine bG hs (apt (ty:=o.type) (ts:=ts) h hn hs (gu y (by simp[hy]))) ?_ base;rw[jb,ea,et];rfl;rename_i t ts x hts hx
 obtain⟨y,hy,rfl⟩:∃y,c.args.toList=[y]/\ev y=x:=by
  cases hl:c.args.toList with
  |nil=>rw[hl]at hx;simp at hx|cons y l=>
   rw[hl]at hx;simp only[map_cons,List.cons.injEq,List.map_eq_nil_iff]at hx;exact⟨y,by rw[hx.2],hx.1⟩
 have ea:c.args.map e= #[e y]:=by apply toList_inj.1;simp[hy]
 have et:c.argTypes=(t::ts).toArray:=by apply toList_inj.1;simp[hts]
 refine bG hs (apu (ty:=o.type) (ts:=ts) h hn hs (gu y (by simp[hy]))) ?_ base;rw[jb,ea,et];rfl;rename_i t t' x y hts hx
 obtain⟨x0,y0,hl,rfl,rfl⟩:∃x0 y0,c.args.toList=[x0,y0]/\ev x0=x/\ev y0=y:=by
  match hl:c.args.toList with
  |[]=>rw[hl]at hx;simp at hx|[_]=>rw[hl]at hx;simp at hx|[a,b]=>rw[hl]at hx;simp at hx;exact⟨a,b,rfl,hx.1,hx.2⟩|_::_::_::_=>rw[hl]at hx;simp at hx
 have ea:c.args.map e= #[e x0,e y0]:=by apply toList_inj.1;simp[hl]
 have et:c.argTypes= #[t,t']:=by apply toList_inj.1;simp[hts]
 rw[cond_eq_ite]at h;split at h;rename_i hz
 have hzero:(∃e',P.underlying t'=some (.slice e'))\/P.underlying t'=some .string:=by
  unfold abf at hz;split at hz;rename_i e' he;exact .inl ⟨e',he⟩;rename_i he;exact .inr he;cases hz
 refine cZ (afZ (ty:=o.type) h hn hs (gu x0 (by simp[hl])) (gu y0 (by simp[hl])) hzero hb) ?_;rw[jb,ea,et];rfl;refine cZ (ac9 (ty:=o.type) h hn hs (gu x0 (by simp[hl])) (gu y0 (by simp[hl])) hb) ?_;rw[jb,ea,et];rfl;rename_i x y hx
 obtain⟨x0,y0,hl,rfl,rfl⟩:∃x0 y0,c.args.toList=[x0,y0]/\ev x0=x/\ev y0=y:=by
  match hl:c.args.toList with
  |[]=>rw[hl]at hx;simp at hx|[_]=>rw[hl]at hx;simp at hx|[a,b]=>rw[hl]at hx;simp at hx;exact⟨a,b,rfl,hx.1,hx.2⟩|_::_::_::_=>rw[hl]at hx;simp at hx
 have ea:c.args.map e= #[e x0,e y0]:=by apply toList_inj.1;simp[hl]
 refine bG hs (aho (ts:=c.argTypes) (ty:=o.type) h hn (gu x0 (by simp[hl])) (gu y0 (by simp[hl]))) ?_ base;rw[jb,ea];rfl;rename_i x y hx
 obtain⟨x0,y0,hl,rfl,rfl⟩:∃x0 y0,c.args.toList=[x0,y0]/\ev x0=x/\ev y0=y:=by
  match hl:c.args.toList with
  |[]=>rw[hl]at hx;simp at hx|[_]=>rw[hl]at hx;simp at hx|[a,b]=>rw[hl]at hx;simp at hx;exact⟨a,b,rfl,hx.1,hx.2⟩|_::_::_::_=>rw[hl]at hx;simp at hx
 have ea:c.args.map e= #[e x0,e y0]:=by apply toList_inj.1;simp[hl]
 refine bG hs (aho (ts:=c.argTypes) (ty:=o.type) h hn (gu x0 (by simp[hl])) (gu y0 (by simp[hl]))) ?_ base;rw[jb,ea];rfl;rename_i t t' x y hts hx
 obtain⟨x0,y0,hl,rfl,rfl⟩:∃x0 y0,c.args.toList=[x0,y0]/\ev x0=x/\ev y0=y:=by
  match hl:c.args.toList with
  |[]=>rw[hl]at hx;simp at hx|[_]=>rw[hl]at hx;simp at hx|[a,b]=>rw[hl]at hx;simp at hx;exact⟨a,b,rfl,hx.1,hx.2⟩|_::_::_::_=>rw[hl]at hx;simp at hx
 have ea:c.args.map e= #[e x0,e y0]:=by apply toList_inj.1;simp[hl]
 have et:c.argTypes= #[t,t']:=by apply toList_inj.1;simp[hts]
 rw[cond_eq_ite]at h;split at h;rw[cond_eq_ite]at h;split at h;have⟨v,w',h1,h2⟩:=ajR (ty:=o.type) (t':=t') h hn hs (gu x0 (by simp[hl])) (gu y0 (by simp[hl]));refine cZ ⟨v,w',h1,h2 base⟩ ?_;rw[jb,ea,et];rfl;have⟨v,w',h1,h2⟩:=alz (ty:=o.type) (t':=t') h hs (gu x0 (by simp[hl])) (gu y0 (by simp[hl]));refine cZ ⟨v,w',h1,h2 base⟩ ?_;rw[jb,ea,et];rfl;cases h;rename_i t ts x hts hx
 obtain⟨y,hy,rfl⟩:∃y,c.args.toList=[y]/\ev y=x:=by
  cases hl:c.args.toList with
  |nil=>rw[hl]at hx;simp at hx|cons y l=>
   rw[hl]at hx;simp only[map_cons,List.cons.injEq,List.map_eq_nil_iff]at hx;exact⟨y,by rw[hx.2],hx.1⟩
 have ea:c.args.map e= #[e y]:=by apply toList_inj.1;simp[hy]
 have et:c.argTypes=(t::ts).toArray:=by apply toList_inj.1;simp[hts]
 have⟨v,w',h1,h2⟩:=ajO (ty:=o.type) (ts:=ts) h hs (gu y (by simp[hy]));refine cZ ⟨v,w',h1,h2 base⟩ ?_;rw[jb,ea,et];rfl;cases h;cases h;cases h
theorem RM.mH{α:Type}{id:Nat}:∀(m:RM α),(m.afP id).eval H=m.eval (aB H id .aw)
 |.ret a=>rfl|.look j k=>by
  simp only[RM.afP,RM.eval,cond_eq_ite,aB];by_cases h:j=id;subst h;rw[if_pos (Nat.beq_refl _),if_pos rfl];exact RM.mH _;rw[if_neg (by simpa using h),if_neg h];simp only[RM.eval];exact RM.mH _
 |.fail w=>rfl
theorem aW.asx(gq:∀b,O' b->O b){x:SV}{v:Value}(h:aW O w x v):aW O' w x v:=h.step (λb hb=>.inl (gq b hb)) (λ_ _ _=>rfl) (le_refl _)
theorem rX(hs:Sat ρ H G w){id:Nat}{c:aU}{e:TypeId}(ho:H id=some (.vec c e)):aW (aV ρ (aB H id .aw) G) w (.ro c) (ρ id):=by
 have dT:=hs.obj id _ ho;have⟨a,cap,hr,h2,h3,h4⟩:=dT;have alI:∀b,aV ρ (aB H id .aw) G b->aV ρ H G b:=λb hb=>hb.imp fj (λx=>x);rw[hr];by_cases hc:cap=0;have h0:c.n=0:=by omega
 have:=aW.ro (O:=aV ρ (aB H id .aw) G) (w:=w) c a cap (λ_ _=>undef) 0 0 h2 h3 (λh=>by omega) (λi j hi hj=>by omega) (λi j hi hj=>by omega);exact this;obtain⟨b,o,cells,fr,us,rfl,g1,g2,g3,g4⟩:=h4.resolve_left hc;have mj:eW (ρ id)=some b:=by rw[hr];simp only[eW];rw[if_neg hc]
 refine aW.ro c _ cap us b o h2 h3 (λ_=>⟨rfl,λhb=> ?_,(Array.getElem?_eq_some_iff.1 g1).1⟩) (λi j hi hj=> ?_) (λi j hi hj=> ?_);rcases hb with⟨j,x,hx,ha,hb⟩|hb;by_cases hj:j=id;subst hj;simp only[aB,if_true,Option.some.injEq]at hx;subst hx;cases ha;simp only[aB,hj,if_false]at hx;exact hj (hs.inj j id x _ b hx ho ha rfl hb mj);exact hs.apart b ⟨id,_,ho,rfl,mj⟩ hb;rw[de g1];exact(g4 i j hi hj).1;exact(g4 i j hi hj).2.asx alI
theorem RM.nk{id:Nat}:∀(m:RM bQ) {q:bQ},(m.nc id).eval H=some q->∃q',m.eval H=some q'/\q={q' with up:=(id,.aw)::q'.up}
 |.ret a,q,h=>by
  simp only[RM.nc,RM.eval,Option.some.injEq]at h;exact⟨a,rfl,h.symm⟩
 |.look j k,q,h=>by
  simp only[RM.nc,RM.eval]at h ⊢;exact RM.nk _ h
 |.fail w,q,h=>by simp[RM.nc,RM.eval]at h
theorem Yields.imp{o:Oper}{e:Operand->Value}{R R':Value->World->Prop}(h:Yields P o e w R)(hr:∀v w',R v w'->R' v w'):Yields P o e w R':=by
 unfold Yields at h ⊢;split at h;exact hr _ _ h;exact hr _ _ h;exact h.mono λen w'' ⟨v,he,hv⟩=>⟨v,he,hr _ _ hv⟩;exact h
theorem aal(hS:SOk P S Z){base:Nat}{o:Oper}:∀(ids:List Nat) {H:aS} {ev:Operand->AV} {q:bQ},(giveUp ids ev λev=>alf P (S base) ev o).eval H=some q->bJ q.ab->ZAt Z ρ H w->Sat ρ H G w->
 ∀{e:Operand->Value},(∀x∈o.op.operands,af ρ H (aV ρ H G) w (ev x) (e x))->(∀i,i<q.new.length->H (base+i)=none)->
 Yields P o e w (λv w'=>Good ρ H G w (cY H q.up base q.new) (q.r base) v w')
 |[],H,ev,q,h,hn,hz,hs,e,hd,hb=>ahs hS h hn hz hs hd hb|id::ids,H,ev,q,h,hn,hz,hs,e,hd,hb=>by
  simp only[giveUp,RM.eval]at h;split at h;rename_i c el ho;obtain⟨q',h1,rfl⟩:=RM.nk _ h;rw[RM.mH]at h1;have st:=fi (ρ:=ρ) (G:=G) (w:=w) ho;have hz1:ZAt Z ρ (aB H id .aw) w:=⟨hz.1,λb hb hO=>hz.2 b hb (fj hO)⟩
  have hb1:∀j,j<q'.new.length->aB H id .aw (base+j)=none:=λj hj=>by
   have:=hb j hj;simp only[aB];split;rename_i e1;rw[e1,ho]at this;cases this;exact this
  have hd1:∀x∈o.op.operands,af ρ (aB H id .aw) (aV ρ (aB H id .aw) G) w (alg id c ev x) (e x):=λx hx=>by
   have h0:=hd x hx;have h2:=af.step st _ _ h0;unfold alg;split;rename_i j hj;rw[cond_eq_ite];split;rename_i hji;have hji:j=id:=by simpa using hji
   subst hji;rw[hj]at h0;have⟨a,cap,hv,hr,_⟩:=iz hs ho h0;have:=rX hs ho;rw[hr]at this;exact aE this;rw[hj]at h2;exact h2;exact h2
  refine(aal hS ids h1 hn hz1 (hs.kill ho) hd1 hb1).imp λv w' hg=> ?_
  have af4:cY H ((id,.aw)::q'.up) base q'.new=cY (aB H id .aw) q'.up base q'.new:=by
   funext j;simp only[cY,cw,aB];cases cw q'.up j with
   |some x=>rfl|none=>
    simp only[];by_cases hj:j=id;subst hj
    have uc:¬(base<=j/\j<base+q'.new.length):=by
     rintro⟨k1,k2⟩;have:=hb (j - base) (by simp only[];omega);rw[show base+(j - base)=j from by omega,ho]at this;cases this
    simp[uc];simp[hj]
  simp only[];rw[af4];exact Good.after st (λb hb=>fj hb) hg;simp[RM.eval]at h
theorem alJ(hS:SOk P S Z){base:Nat}{o:Oper}{ev:Operand->AV}{q:bQ}(h:(vN P (S base) ev o).eval H=some q)(hn:bJ q.ab)(hz:ZAt Z ρ H w)(hs:Sat ρ H G w){e:Operand->Value}
 (hd:∀x∈o.op.operands,af ρ H (aV ρ H G) w (ev x) (e x)) (hb:∀i,i<q.new.length->H (base+i)=none):
 Yields P o e w (λv w'=>Good ρ H G w (cY H q.up base q.new) (q.r base) v w'):=by
 unfold vN at h;split at h;rename_i op t x y ty ho;have hx:=my (hd x (by simp[ho,Op.operands]));have hy:=hd y (by simp[ho,Op.operands]);rw[cond_eq_ite]at h;split at h;rename_i hi;exact bG hs (apv (ox:=x) (oy:=y) h hn hs hx (alk hy hi)) (by simp only[execOp,ho]) base;rw[cond_eq_ite]at h;split at h;exact bG hs (afR (t:=t) (ox:=x) (oy:=y) h hn hx hy) (by simp only[execOp,ho]) base;obtain⟨⟨n,r⟩,h1,rfl⟩:=pN h;have⟨v,h2,h3⟩:=ahr (ox:=x) (oy:=y) h1 hn hx hy;exact bG hs ⟨rfl,rfl,v,h2,λ_=>h3⟩ (by simp only[execOp,ho]) base;exact aal hS _ h hn hz hs (λx hx=>my (hd x hx)) hb;exact ahs hS h hn hz hs (λx hx=>my (hd x hx)) hb
end
structure St where
 tmps:List AV
 H:List ak
def jc(tmps:List AV):Operand->AV
 |.tmp t=>tmps.getD t (.s .aY)|.const (.slice none 0 0)=>.s .qI|.const v=>aba v|.global _=>.s .aY|.func f=>.s (.rH f)
def St.look(s:St):aS:=λid=>s.H[id]?
def oM(H:List ak):List (Nat×ak)->List ak
 |[]=>H|(id,o)::us=>oM (H.set id o) us
def cV(tmps:List AV):Option Tmp->AV->List AV
 |some d,v=>tmps.set d v|none,_=>tmps
def St.put(s:St)(dst:Option Tmp)(r:bQ):St:=
 {tmps:=cV s.tmps dst (r.r s.H.length),H:=oM s.H r.up++r.new}
structure Lp where
 ps:List Tmp
 asg:Code
 body:Code
inductive mI where
 |ready|busy|done (c:Code)
structure tB where
 f:Option FuncId
 n:Nat
 round:Bool
 marks:Nat
 lp:Option (Lp×mI)
 todo:List Item
 key:Nat×Nat
structure uf where
 f:Option FuncId:=none
 round:Bool:=false
 marks:Nat:=0
 below:List tB:=[]
 rid:Nat:=0
structure bP where
 tmps:List AV
 H:List ak
 todo:List Item
 stk:uf:={}
def iD:Code->Option Nat
 |.region id _ _=>some id|.seq a b=>match iD a with
  |some i=>some i|none=>iD b
 |.cond _ a b=>match iD a with
  |some i=>some i|none=>iD b
 |.block _ c|.loop c|.scope c=>iD c|_=>none
def aht(k:uf)(id:Nat):Nat:=match k.f with
 |none=>id|some g=>(g+1)*100000+id
def fA:Nat:=1000000000
def abE:Nat:=1000000000000000
def gZ(b:Bool):Nat:=bif b then 1 else 0
def tB.size(d:tB):Nat:=d.n+gZ d.round+d.marks+gZ d.lp.isSome
def ahu:List tB->Nat
 |[]=>0|d::ds=>d.size+ahu ds
def uf.extra(k:uf):Nat:=gZ k.round+k.marks
def alK(k:uf)(id j:Nat):Nat:=abE+(aht k id*1000+j)
def bP.n(c:bP):Nat:=c.tmps.length - (c.stk.extra+ahu c.stk.below)
def uf.plain(k:uf):Bool:= !k.round&&k.marks.beq 0&&k.below.isEmpty
def uf.fn(P:Program)(fn:Func)(k:uf):Option Func:=match k.f with
 |none=>some fn|some g=>P.funcs[g]?
inductive Tree where
 |ab (p:Prop) (t:Tree)|ite (b:Bool) (t e:Tree)|both (p q:Prop) (t e:Tree)|ret (H:List ak) (v:AV)|at(c:bP)|stuck (why:String)
def Tree.aam:List Prop->Tree->Tree
 |[],t=>t|p::ps,t=>.ab p (aam ps t)
def vr(us:List (Nat×ak)):List Nat:=us.map (·.1)
def aan(n:Nat)(us:List (Nat×ak)):Bool:=us.all λx=>x.1.blt n
structure Touch where
 i:Nat
 rd:List Nat
 wr:List Nat
def Touch.ahv(a b:Touch):Bool:=a.wr.any (λx=>b.rd.contains x||b.wr.contains x)||b.wr.any (λx=>a.rd.contains x)
def oN(id:Nat)(c:aU):AV->AV
 |.vec j=>bif j.beq id then .s (.ro c)else .vec j|a=>a
def oO(id:Nat)(c:aU):AV->AV
 |.agg ay=>.agg (ay.map (oN id c))|.vec j=>bif j.beq id then .s (.ro c)else .vec j|a=>a
def ade(id:Nat)(c:aU):ak->ak
 |.aq ay e=>.aq (ay.map (oN id c)) e|o=>o
def xr(s:St)(id:Nat):St:=
 match s.H[id]? with
 |some (.vec c _)=>⟨s.tmps.map (oO id c),(s.H.map (ade id c)).set id .aw⟩|_=>s
def af5:AV->List Nat
 |.agg ay=>ay.filterMap λa=>match a with
  |.vec j=>some j|_=>none
 |.vec j=>[j]|_=>[]
def iE(s:St)(o:Oper):St:=
 match o.op with
 |.buildSlice _ _ ps=>(ps.toList.flatMap λp=>af5 (jc s.tmps p.2)).foldl xr s|.store _ a x=>match jc s.tmps a with
  |.gP _ _ _=>(af5 (jc s.tmps x)).foldl xr s|_=>s
 |_=>s
def mf(P:Program)(S:fG)(ops:Array Oper)(cont:St->List Touch->Tree):Nat->List Oper->St->List Touch->Tree
 |_,[],s,tr=>cont s tr|i,o::rest,s,tr=>
  let go (s:St):Tree:=
   let m:=vN P (S s.H.length) (jc s.tmps) o
   match m.eval s.look with
   |some r=>bif aan s.H.length r.up then .aam r.ab (mf P S ops cont (i+1) rest (s.put o.dst r) (⟨i,m.ids s.look,vr r.up++(List.range r.new.length).map (s.H.length+·)⟩::tr))else .stuck ""|none=>.stuck (o.pos++ " " ++m.why s.look)
  let skip (s:St):Tree:=mf P S ops cont (i+1) rest {s with tmps:=cV s.tmps o.dst (.bq [])} tr
  match o.guard with
  |none=>go s|some (g,want)=>
   match(ops[g]?).bind (·.dst)with
   |none=>.stuck ""|some d=>
    match s.tmps.getD d (.s .aY)with
    |.s (.aI b)=>bif b==want then go s else skip s|.s (.bool b)=>.ite b
     (bif want then go {s with tmps:=s.tmps.set d (.s (.aI true))}else skip {s with tmps:=s.tmps.set d (.s (.aI true))})
     (bif want then skip {s with tmps:=s.tmps.set d (.s (.aI false))}else go {s with tmps:=s.tmps.set d (.s (.aI false))})
    |.bq []=>skip s|_=>.stuck ""
def xt(ops:Array Oper):Nat->Nat->Nat->Bool
 |0,_,_=>false|n+1,i,j=>match ops[i]? with
  |some o=>(o.after.any λe=>Region.binds .any e&&e.on.beq j)||(o.after.any λe=>Region.binds .any e&&j.blt e.on&&xt ops n e.on j)|none=>false
def gJ(ops:Array Oper)(i j:Nat):Bool:=xt ops 9 i j
def jd(ops:Array Oper):List Touch->Bool
 |[]=>true|b::aP=>aP.all (λa=> !(a.ahv b)||gJ ops b.i a.i)&&jd ops aP
def iF(ops:Array Oper):Bool:=
 (List.range ops.size).all λi=>(List.range ops.size).all λj=>
   match ops[i]?,ops[j]? with
   |some x,some y=>
    (i==j)||(match x.dst with
      |none=>true|some d=>(!(y.looksAt ops).contains d&& !(y.dst==some d))||(if i<j then gJ ops j i else gJ ops i j))
   |_,_=>false
def dY(ops:Array Oper):Bool:=
 (List.range ops.size).all λi=>match ops[i]? with
   |some o=>o.after.all λe=> !(Region.binds .any e)||e.on.blt i|none=>true
def xu(ops:Array Oper)(j:Nat):Bool:=(List.range ops.size).all λi=>i.blt j||(List.range i).all λk=>gJ ops i k
def asy(ops:Array Oper):Nat->Nat
 |0=>0|i+1=>bif (List.range i).all (λk=>gJ ops i k)then asy ops i else i+1
def apJ(o:Oper):Bool:=
 match o.op with
 |.call c=>match c.callee with
  |.value (.tmp _)=>true|_=>false
 |_=>false
def cutAt(ops:Array Oper):Nat:=bif ops.toList.any apJ then asy ops ops.size else ops.size
def rY(o:Oper)(ev:Operand->AV):Option (AV×List AV):=
 match o.op with
 |.call c=>match c.callee with
  |.value f=>some (qq (ev f),c.args.toList.map λx=>qq (ev x))|_=>none
 |_=>none
def ahw(o:Oper):Bool:=
 match o.op with
 |.range _ _|.next _ false=>true|_=>false
def lU(P:Program)(S:fG)(ops:Array Oper)(enter:St->Nat->Oper->Option Tree)(cont:St->Tree):Nat->List Oper->St->Tree
 |_,[],s=>cont s|i,o::rest,s=>
  let go (s:St):Tree:=
   match enter s i o with
   |some t=>t|none=>
    let s:=iE s o;let m:=vN P (S s.H.length) (jc s.tmps) o
    match m.eval s.look with
    |some r=>bif aan s.H.length r.up then .aam r.ab (lU P S ops enter cont (i+1) rest (s.put o.dst r))else .stuck ""|none=>.stuck (o.pos++ " " ++m.why s.look)
  let skip (s:St):Tree:=lU P S ops enter cont (i+1) rest {s with tmps:=cV s.tmps o.dst (.bq [])}
  match o.guard with
  |none=>go s|some (g,want)=>
   match(ops[g]?).bind (·.dst)with
   |none=>.stuck ""|some d=>
    match s.tmps.getD d (.s .aY)with
    |.s (.aI b)=>bif b==want then go s else skip s|.s (.bool b)=>.ite b
     (bif want then go {s with tmps:=s.tmps.set d (.s (.aI true))}else skip {s with tmps:=s.tmps.set d (.s (.aI true))})
     (bif want then skip {s with tmps:=s.tmps.set d (.s (.aI false))}else go {s with tmps:=s.tmps.set d (.s (.aI false))})
    |.s (.lI n0 eq)=>.both (bif eq then n0=0 else True) (bif eq then True else n0=0)
     (bif want then go {s with tmps:=s.tmps.set d (.s (.aI true))}else skip {s with tmps:=s.tmps.set d (.s (.aI true))})
     (bif want then skip {s with tmps:=s.tmps.set d (.s (.aI false))}else go {s with tmps:=s.tmps.set d (.s (.aI false))})
    |.bq []=>skip s|_=>.stuck ""
def gD(P:Program)(s:St):List ResultVar->Option (List AV)
 |[]=>some []|.tmp t::rs=>(gD P s rs).map (s.tmps.getD t (.s .aY):: ·)|.cell t T::rs=>match(ahj P T (s.tmps.getD t (.s .aY))).eval s.look,gD P s rs with
  |some r,some vs=>match r.ab,r.up,r.new with
   |[],[],[]=>some (r.r 0::vs)|_,_,_=>none
  |_,_=>none
def oneOf:List AV->AV
 |[v]=>v|vs=>.bq vs
def ahx(n:Nat)(ops:Array Oper)(o:Oper):Bool:=
 (o.looksAt ops).all (·.blt n)&&o.dst.all (·.blt n)&&(match o.op with|.select _ _=>false|.defer _=>false|_=>true)
def lV(n:Nat)(ops:Array Oper):Bool:=ops.toList.all (ahx n ops)
def iG(ops:Array Oper):Bool:=ops.toList.all λo=>match o.op with|.defer _=>false|_=>true
def kW(id:Nat):List tB->List AV->Option (tB×Lp×mI×List AV)
 |[],_=>none|d::ds,vs=>
  match d.lp with
  |some (L,st)=>(match vs.getD (d.n+gZ d.round+d.marks) (.s .aY)with
   |.tag j=>bif j.beq id then some (d,L,st,vs.take d.n)else kW id ds (vs.drop d.size)|_=>kW id ds (vs.drop d.size))
  |none=>kW id ds (vs.drop d.size)
def jE(id:Nat)(rD:mI):List tB->List AV->List tB
 |[],_=>[]|d::ds,vs=>
  match d.lp with
  |some (L,_)=>(match vs.getD (d.n+gZ d.round+d.marks) (.s .aY)with
   |.tag j=>bif j.beq id then{d with lp:=some (L,rD)}::ds else d::jE id rD ds (vs.drop d.size)|_=>d::jE id rD ds (vs.drop d.size))
  |none=>d::jE id rD ds (vs.drop d.size)
def mg{α:Type}(cR:List α)(ps:List Tmp)(args:List α):List α:=(ps.zip args).foldl (λt x=>t.set x.1 x.2) cR
def resume(c:bP)(v:AV)(below:List tB)(k:bP->Tree):Tree:=
 match below with
 |d::ds=>
  match d.lp,d.todo with
  |none,.inRegion ops (i::rest)::td=>
   let dst:=(ops[i]?).bind (·.dst)
   bif dst.all (·.blt d.n)then k {tmps:=cV (c.tmps.drop (c.n+c.stk.extra)) dst v,H:=c.H,todo:=.inRegion ops rest::td,stk:=⟨d.f,d.round,d.marks,ds,d.key.1⟩}else .stuck ""
  |_,_=>.stuck ""
 |[]=>.stuck ""
def ahy(c:bP)(v:AV)(k:bP->Tree):Tree:=
 match c.stk.below with
 |[]=>bif c.stk.f.isNone then .ret c.H v else .stuck ""|d::ds=>
  match d.lp with
  |none=>resume c v c.stk.below k|some (_,.busy)=>.stuck ""|some (_,st)=>
   let vs:=c.tmps.drop (c.n+c.stk.extra);let m:=d.n+gZ d.round+d.marks
   k {tmps:=vs.take m++vs.drop (m+1),H:=c.H,todo:=(match st with|.done j=>[.code j]|_=>[])++d.todo,stk:=⟨d.f,d.round,d.marks,ds,0⟩}
def adf(c:bP)(jump:Option Code)(k:bP->Tree):Tree:=
 match c.tmps.getD c.n (.s .aY)with
 |.tag id=>bif c.stk.marks.beq 0 then
  match kW id c.stk.below (c.tmps.drop (c.n+c.stk.extra))with
  |some _=>resume c (.s (.aI jump.isNone)) (jE id (match jump with|none=>.ready|some j=>.done j) c.stk.below (c.tmps.drop (c.n+c.stk.extra))) k|none=>.stuck ""
  else .stuck ""
 |_=>.stuck ""
def oP(P:Program)(c:bP)(f:FuncId)(args:List AV)(wait:tB)(k:bP->Tree):Tree:=
 match P.funcs[f]? with
 |some g=>bif jw P f&&args.length.ble g.ntmps then
  k {tmps:=args++replicate (g.ntmps - args.length) (.bq [])++c.tmps,H:=c.H,todo:=[.code (g.body.getD .skip)],stk:=⟨some f,false,0,wait::c.stk.below,0⟩}
  else .stuck ""
 |none=>.stuck ""
def abF(c:bP)(id:Nat)(args:List AV)(wait:tB)(k:bP->Tree):Tree:=
 match kW id c.stk.below (c.tmps.drop (c.n+c.stk.extra))with
 |some (d,L,_,cR)=>bif args.length.beq L.ps.length&&L.ps.all (·.blt d.n)then
  k {tmps:=mg cR L.ps args++.tag id::c.tmps,H:=c.H,todo:=[.code L.asg,.beginRound,.code L.body],stk:=⟨d.f,true,0,wait::c.stk.below,0⟩}
  else .stuck ""
 |none=>.stuck ""
def abG(P:Program)(c:bP)(f:FuncId)(dv:List AV)(L:Lp)(todo:List Item)(k:bP->Tree):Tree:=
 bif c.stk.round then .stuck "" else
 let id:=c.H.length;let wait:tB:=⟨c.stk.f,c.n,false,c.stk.marks+1,some (L,.ready),todo,((iD L.body).getD 0,0)⟩
 oP P {c with tmps:=c.tmps.take c.n++.tag id::((c.tmps.drop c.n).take c.stk.marks++.tag (id+1)::c.tmps.drop (c.n+c.stk.marks)),H:=c.H++[.aw]++[.aw]} f (.tag (id+1)::dv) wait k
def exec(P:Program)(S:fG)(fn:Func)(stop:Nat->Bool)(inl:FuncId->Bool):Nat->Bool->bP->Tree
 |0,_,c=>.at c|n+1,first,c=>
  let to (k:List Item):Tree:=exec P S fn stop inl n first {c with todo:=k}
  let go (c:bP):Tree:=exec P S fn stop inl n false c
  let back:Tree:=
   match c.stk.fn P fn with
   |some g=>(match gD P ⟨c.tmps.take c.n,c.H⟩ g.results.toList with
    |some vs=>ahy c (oneOf vs) go|none=>.stuck "")
   |none=>.stuck ""
  let ops (first:Bool) (id:Nat) (ops:Array Oper) (i:Nat) (k:List Item):Tree:=
   bif iG ops&&(c.stk.plain||lV c.n ops)then
    lU P S ops (λs j o=>
     let c':bP:={c with tmps:=s.tmps,H:=s.H};let wait:tB:=⟨c.stk.f,c.n,c.stk.round,c.stk.marks,none,.inRegion ops (range' j (ops.size - j))::k,(id,j)⟩
     bif stop (alK c.stk id j)&& !(first&&j.beq i)then some (.at {c' with todo:=.inRegion ops (range' j (ops.size - j))::k,stk:={c.stk with rid:=id}})else
     match rY o (jc s.tmps)with
     |some (g,args)=>(match g with
      |.s (.rH f)=>bif inl f then some (oP P c' f args wait go)else none|.fn f dv=>bif inl f then some (oP P c' f (args++dv) wait go)else none|.tag y=>some (abF c' y args wait go)|_=>none)
     |none=>bif ahw o then some (.at {c' with todo:=.inRegion ops (range' j (ops.size - j))::k,stk:={c.stk with rid:=id}})else none) (λs=>exec P S fn stop inl n first {c with tmps:=s.tmps,H:=s.H,todo:=k,stk:={c.stk with rid:=0}}) i (ops.toList.drop i) ⟨c.tmps,c.H⟩
   else .stuck ""
  match c.todo with
  |[]=>bif c.stk.round then adf c none go else back|.code .ret::_=>bif c.stk.round then adf c (some .ret) go else back|.code .skip::k|.code (.label _)::k|.inBlock _::k|.inScope _::k=>to k|.code (.seq a b)::k=>to (.code a::.code b::k)|.code (.block id body)::k=>to (.code body::.inBlock id::k)|.code (.scope body)::k=>to (.code body::.inScope body::k)|.code (.exit id)::k=>match exitTo id k with
   |some k'=>to k'|none=>bif c.stk.round then adf c (some (.exit id)) go else .stuck ""
  |.code (.cond (.tmp t) a b)::k=>
   bif c.stk.plain||t.blt c.n then
   match c.tmps.getD t (.s .aY)with
   |.s (.aI x)=>to (.code (bif x then a else b)::k)|.s (.bool x)=>.ite x (exec P S fn stop inl n first {c with tmps:=c.tmps.set t (.s (.aI true)),todo:=.code a::k}) (exec P S fn stop inl n first {c with tmps:=c.tmps.set t (.s (.aI false)),todo:=.code b::k})
   |.s (.lI n0 eq)=>.both (bif eq then n0=0 else True) (bif eq then True else n0=0) (exec P S fn stop inl n first {c with tmps:=c.tmps.set t (.s (.aI true)),todo:=.code a::k}) (exec P S fn stop inl n first {c with tmps:=c.tmps.set t (.s (.aI false)),todo:=.code b::k})
   |_=>.stuck ""
   else .stuck ""
  |.code (.region id rs draw)::k=>
   bif !first&&stop (aht c.stk id)then .at c else
   bif draw then
    (bif iF rs&&dY rs&&iG rs&&(c.stk.plain||lV c.n rs)then
      bif (cutAt rs).blt rs.size&&xu rs (cutAt rs)then
       mf P S rs (λs tr=>bif jd rs tr then exec P S fn stop inl n false {c with tmps:=s.tmps,H:=s.H,todo:=.inRegion rs (range' (cutAt rs) (rs.size - cutAt rs))::k,stk:={c.stk with rid:=id}}else .stuck "") 0 (rs.toList.take (cutAt rs)) ⟨c.tmps,c.H⟩ []
      else
      mf P S rs (λs tr=>bif jd rs tr then exec P S fn stop inl n false {c with tmps:=s.tmps,H:=s.H,todo:=k}else .stuck "") 0 rs.toList ⟨c.tmps,c.H⟩ []
    else .stuck "")
   else ops false id rs 0 k
  |.inRegion rs todo::k=>bif todo.length.ble rs.size&&todo==range' (rs.size - todo.length) todo.length then ops first c.stk.rid rs (rs.size - todo.length) k else .stuck ""
  |.beginRound::k=>bif c.stk.round then
   match c.tmps.getD c.n (.s .aY)with
   |.tag id=>(match kW id c.stk.below (c.tmps.drop (c.n+c.stk.extra))with
    |some (_,_,.ready,_)=>exec P S fn stop inl n first {c with todo:=k,stk:={c.stk with below:=jE id .busy c.stk.below (c.tmps.drop (c.n+c.stk.extra))}}
    |_=>.stuck "")
   |_=>.stuck "" else .stuck ""
  |.code (.rangeFunc (.tmp t) ps asg body)::k=>
   bif c.stk.plain||t.blt c.n then
   match c.tmps.getD t (.s .aY)with
   |.s (.rH f)=>abG P c f [] ⟨ps.toList,asg,body⟩ k go|.fn f dv=>abG P c f dv ⟨ps.toList,asg,body⟩ k go|_=>.stuck ""
   else .stuck ""
  |.code (.loop body)::k|.inLoop body::k=>bif stop (fA+aht c.stk ((iD body).getD 0))then exec P S fn stop inl n first {c with todo:=.code body::.inLoop body::k}else .at {c with todo:=.code body::.inLoop body::k}
  |_=>.at c
def start(fn:Func)(args:List AV)(H:List ak):bP:=
 {tmps:=args++replicate (fn.ntmps - args.length) (.bq []),H:=H,todo:=[.code (fn.body.getD .skip)]}
def cN(P:Program)(f:FuncId)(R:Ending->World->Prop)(b:Frame)(a:Act)(k:List Item)(fs:List Frame)(w:World):Prop:=
 ∀cs,∃e w' fr,R e w'/\Comes P (lone (b.atR a k) (fs++cs) w) (lone fr cs w') e/\fr.fn=f/\fr.leaving P w' e
theorem cN.steps{P:Program}{f:FuncId}{R:Ending->World->Prop}{b b':Frame}{a a':Act}{k k':List Item}{fs rE:List Frame}{w w':World}
 (hs:∀cs,Steps P (lone (b.atR a k) (fs++cs) w) (lone (b'.atR a' k') (rE++cs) w')) (h:cN P f R b' a' k' rE w'):cN P f R b a k fs w:=by
 intro cs;have⟨e,w2,fr,h1,h2,h3⟩:=h cs;exact⟨e,w2,fr,h1,Comes.of_steps (hs cs) h2,h3⟩
theorem cN.step{P:Program}{f:FuncId}{R:Ending->World->Prop}{b b':Frame}{a a':Act}{k k':List Item}{fs rE:List Frame}{w w':World}
 (hs:∀cs,step P (lone (b.atR a k) (fs++cs) w)=.next (lone (b'.atR a' k') (rE++cs) w')) (h:cN P f R b' a' k' rE w'):cN P f R b a k fs w:=
 cN.steps (λcs=>.one (hs cs)) h
theorem jq{P:Program}{f:FuncId}{fn:Func}{c:Code}{args:Array Value}{w:World}{R:Ending->World->Prop}(hf:P.funcs[f]? =some fn)(hb:fn.body=some c)
 (h:cN P f R {(default:Frame)with fn:=f,kind:=.normal,roundOf:=none} {tmps:=args++Array.replicate (fn.ntmps - args.size) undef,defers:=[]} [.code c] [] w):Calls P f args w R:=by
 intro cs
 have fW:Frame.enter P f args .normal=Frame.atR {(default:Frame)with fn:=f,kind:=.normal,roundOf:=none} {tmps:=args++Array.replicate (fn.ntmps - args.size) undef,defers:=[]} [.code c]:=by
  simp[Frame.enter,Frame.atR,hf,hb]
 have⟨e,w',fr,h1,h2,h3,h4⟩:=h cs;rw[fW];exact⟨e,w',fr,h1,h2,h3,h4⟩
structure Ctx where
 ρ:Nat->Value
 H:aS
 G:Nat->Prop
 w:World
 E:List (Nat×Obj):=[]
def dZ(Z:bh)(X:Ctx):Prop:=Z.ok X.w/\∀b,b∈Z.bs->¬Own X.ρ X.H b
def Ctx.at(X:Ctx)(G:Nat->Prop)(E:List (Nat×Obj)):Ctx:=⟨X.ρ,X.H,G,X.w,E⟩
theorem dZ.at{Z:bh}{X:Ctx}(h:dZ Z X)(G:Nat->Prop)(E:List (Nat×Obj)):dZ Z (X.at G E):=h
theorem zed{Z:bh}{X:Ctx}{w:World}{ρ:Nat->Value}{H:aS}(h:dZ Z X)(k:Frm X.ρ X.H X.w w)(hs:Sat ρ H X.G w)(st:Step X.ρ X.H (aV X.ρ X.H X.G) X.w ρ H (aV ρ H X.G) w):ZAt Z ρ H w:=by
 refine⟨Z.keep X.w w h.1 λb hb=>k.heap b (Z.low _ h.1 b hb) (h.2 b hb),λb hb ho=> ?_⟩;rcases st.gq b (.inl ho)with(h1|h1)|h1;exact h.2 b hb h1;exact hs.apart b ho h1;have:=Z.low _ h.1 b hb;omega
def Kept(X:Ctx)(w:World):Prop:=∀x∈X.E,X.G x.1/\X.w.heap.size<=x.1/\w.heap[x.1]? =some x.2
theorem Kept.jF{X:Ctx}{ρ:Nat->Value}{H:aS}{w w':World}(h:Kept X w)(hs:Sat ρ H X.G w)(k:Frm ρ H w w'):Kept X w':=λx hx=>by
 have⟨h1,h0,h2⟩:=h x hx;exact⟨h1,h0,by rw[k.heap x.1 (Array.getElem?_eq_some_iff.1 h2).1 (λho=>hs.apart _ ho h1)];exact h2⟩
structure cg (X:Ctx) (ρ:Nat->Value) (s:St) (a:Act) (w:World):Prop where
 sat:Sat ρ s.look X.G w
 size:s.tmps.length=a.tmps.size
 den:∀t,af ρ s.look (aV ρ s.look X.G) w (s.tmps.getD t (.s .aY)) (a.tmps.getD t undef)
 defers:a.defers=[]
 ao:Step X.ρ X.H (aV X.ρ X.H X.G) X.w ρ s.look (aV ρ s.look X.G) w
 jF:Frm X.ρ X.H X.w w
 kept:Kept X w
def Tree.Holds(K:List ak->AV->Prop)(C:bP->Prop):Tree->Prop
 |.ab p t=>p/\t.Holds K C|.ite b t e=>(b=true->t.Holds K C)/\(b=false->e.Holds K C)|.both p q t e=>(p->t.Holds K C)/\(q->e.Holds K C)|.ret H v=>K H v|.at c=>C c|.stuck _=>False
def kp(X:Ctx)(K:List ak->AV->Prop)(e:Ending)(w':World):Prop:=
 ∃v,e=.returned v/\∃(L:List ak) (r:AV),K L r/\Good X.ρ X.H X.G X.w (λid=>L[id]?) r v w'
def qv(D:Nat):Deferred:={target:=.collected D,args:= #[]}
def ej(D:Nat):Value:=.pointer (some ⟨D,0,none⟩)
def ct(l:Nat):Value:=.func (.yield l) #[] #[]
def mI.gv(st:mI)(L:Lp)(fn:FuncId)(tmps:Array Value)(defers:Nat):Loop:=
 {state:=match st with|.ready=>.ready|.busy=>.busy|.done _=>.done,pending:=match st with|.done c=>some c|_=>none,fn,tmps,params:=L.ps.toArray,assign:=L.asg,body:=L.body,defers}
structure alL (f:FuncId) (round:Bool) (v0 rv:List Value) (Ds:List Nat) (E:List (Nat×Obj)) (b:Frame) (a:Act):Prop where
 fr:∃r,b={(default:Frame)with fn:=f,kind:=.normal,roundOf:=r}/\(match round with|true=>∃l,rv=[ct l]/\r=some l|false=>rv=[]/\r=none)
 act:a={tmps:=v0.toArray,defers:=Ds.map qv}
 ghost:E=Ds.map λD=>(D,.deferred (some []))
def WfS(f0:FuncId):List tB->List Value->List (Nat×Obj)->List Frame->Prop
 |[],vs,E,fs=>vs=[]/\E=[]/\fs=[]|d::ds,vs,E,fs=>∃(v0 rv v2:List Value) (Ds:List Nat) (E1 E2:List (Nat×Obj)) (b:Frame) (a:Act) (fs2:List Frame) (lv:List Value) (lE:List (Nat×Obj)) (todo:List Item),
   vs=v0++(rv++(Ds.map ej++(lv++v2)))/\E=E1++(lE++E2)/\fs=b.atR a todo::fs2/\v0.length=d.n/\Ds.length=d.marks/\
   alL (d.f.getD f0) d.round v0 rv Ds E1 b a/\WfS f0 ds v2 E2 fs2/\
   (match d.lp with
    |none=>lv=[]/\lE=[]/\todo=d.todo|some (L,st)=>∃l D,lv=[ct l]/\lE=[(l,.loop (st.gv L (d.f.getD f0) v0.toArray D))]/\todo=.inRangeFunc l::d.todo)
def Wf(f0:FuncId)(k:uf)(vs:List Value)(E:List (Nat×Obj))(b:Frame)(a:Act)(fs:List Frame):Prop:=
 (E.map (·.1)).Nodup/\∃(v0 rv v2:List Value) (Ds:List Nat) (E1 E2:List (Nat×Obj)),vs=v0++(rv++(Ds.map ej++v2))/\E=E1++E2/\Ds.length=k.marks/\
   alL (k.f.getD f0) k.round v0 rv Ds E1 b a/\WfS f0 k.below v2 E2 fs
def Safe(P:Program)(f:FuncId)(X:Ctx)(K:List ak->AV->Prop)(c:bP):Prop:=
 ∀(G:Nat->Prop) (E:List (Nat×Obj)) ρ a w,(∀b,X.G b->G b)->(∀b,G b->X.G b\/X.w.heap.size<=b)->cg (X.at G E) ρ ⟨c.tmps,c.H⟩ a w->
  ∀b a' fs,Wf f c.stk a.tmps.toList E b a' fs->cN P f (kp X K) b a' c.todo fs w
section
variable{ρ aL:Nat->Value}{H H':aS}{G O O':Nat->Prop}{w w':World}{P:Program}{S:fG}{Z:bh}{X:Ctx}{s:St}{a:Act}{K:List ak->AV->Prop}{C:bP->Prop}
theorem af6(v:Value):af ρ H O w (aba v) v:=by
 have one:∀v:Value,af ρ H O w ((rI v).getD (.s .aY)) v:=by
  intro v;cases h:rI v with
  |none=>unfold af;trivial|some x=>
   have hc:=xf (ρ:=ρ) (H:=H) (O:=O) (w:=w) h;simp only[getD_some];unfold rI at h;split at h;simp only[Option.some.injEq]at h;subst h;unfold af;exact⟨_,rfl⟩;simp only[map_eq_some_iff]at h;obtain⟨y,h3,rfl⟩:=h;exact aE (abt h3)
 unfold aba;split;rename_i cs;cases h:rJ cs.toList with
 |none=>unfold af;trivial|some aP=>unfold af;exact⟨cs.toList,by simp,oE _ h⟩
 exact one v
theorem xv(T:List AV)(v:Value):af ρ H O w (jc T (.const v)) v:=by
 unfold jc;split;exact absurd ‹_› (by simp);rename_i h;cases h;exact aE .qI;rename_i h;cases h;exact af6 v;exact absurd ‹_› (by simp);exact absurd ‹_› (by simp)
theorem cg.ev(h:cg X ρ s a w)(x:Operand):af ρ s.look (aV ρ s.look X.G) w (jc s.tmps x) (a.eval x):=by
 cases x with
 |tmp t=>exact h.den t|const v=>exact xv _ v|global g=>unfold jc af;trivial|func f=>exact aE (.rH f)
theorem cX{α:Type}(l:List α)(d t:Nat)(x y:α):(l.set d x).getD t y=if t=d/\d<l.length then x else l.getD t y:=by
 simp only[List.getD,getElem?_set];by_cases h:d=t;subst h;by_cases h2:d<l.length;simp[h2];simp[h2];have:¬(t=d/\d<l.length):=λe=>h e.1.symm;simp[h,this]
theorem abH(l:Array Value)(d t:Nat)(x:Value):(l.setIfInBounds d x).getD t undef=if t=d/\d<l.size then x else l.getD t undef:=by
 simp only[getD_eq_getD_getElem?,Array.getElem?_setIfInBounds];by_cases h:d=t;subst h;by_cases h2:d<l.size;simp[h2];simp[h2];have:¬(t=d/\d<l.size):=λe=>h e.1.symm;simp[h,this]
theorem rZ{tmps:List AV}{arr:Array Value}(bU:tmps.length=arr.size)(h:∀t,af ρ H O w (tmps.getD t (.s .aY)) (arr.getD t undef))(dst:Option Tmp){r:AV}{v:Value}(hr:af ρ H O w r v)(df:List Deferred):
 (cV tmps dst r).length=((Act.put ⟨arr,df⟩ dst v).tmps).size/\∀t,af ρ H O w ((cV tmps dst r).getD t (.s .aY)) ((Act.put ⟨arr,df⟩ dst v).tmps.getD t undef):=by
 cases dst with
 |none=>exact⟨bU,h⟩|some d=>
  simp only[cV,Act.put];refine⟨by simp[bU],λt=> ?_⟩;rw[cX,abH,bU];split;exact hr;exact h t
theorem af7(us:List (Nat×ak)):∀(L:List ak) (j:Nat),j<L.length->(oM L us)[j]? =match cw us j with|some o=>some o|none=>L[j]? :=by
 induction us with
 |nil=>intro L j h;rfl
 |cons u us ih=>
  have⟨id,o⟩:=u;intro L j h;simp only[oM,cw];rw[ih _ _ (by simpa using h)];cases cw us j with
  |some x=>rfl|none=>
   by_cases hj:j=id;subst hj;simp[h];simp[hj,Ne.symm hj]
theorem mh(us:List (Nat×ak)):∀(L:List ak),(oM L us).length=L.length:=by
 induction us with
 |nil=>intro L;rfl
 |cons u us ih=>intro L;have⟨id,o⟩:=u;simp only[oM];rw[ih];simp
def alM(n:Nat)(us:List (Nat×ak)):Prop:=∀j,n<=j->cw us j=none
theorem adg(s:St)(dst:Option Tmp)(q:bQ)(hu:alM s.H.length q.up):(s.put dst q).look=cY s.look q.up s.H.length q.new:=by
 funext j;simp only[St.look,St.put,cY];by_cases hj:j<s.H.length;rw[getElem?_append_left (by rw[mh];exact hj),af7 _ _ _ hj];cases cw q.up j with
 |some o=>rfl|none=>rw[if_neg (by omega)]
 rw[getElem?_append_right (by rw[mh];omega),mh,hu j (by omega)];by_cases h2:j<s.H.length+q.new.length;simp only[show s.H.length<=j/\j<s.H.length+q.new.length from⟨by omega,h2⟩,and_self,if_true];have e1:q.new[j - s.H.length]? =none:=getElem?_eq_none (by omega);have e2:s.H[j]? =none:=getElem?_eq_none (by omega);rw[e1,if_neg (by omega)];exact e2.symm
theorem Frm.trans(h:cg X ρ s a w)(k:Frm ρ s.look w w'):Frm X.ρ X.H X.w w':=by
 refine⟨k.os.trans h.jF.os,k.tape.trans h.jF.tape,k.output.trans h.jF.output,λb hb hO=> ?_⟩;rw[k.heap b (by have:=h.ao.size;omega) (λho=> ?_),h.jF.heap b hb hO];rcases h.ao.gq b (.inl ho)with(h1|h1)|h1;exact hO h1;exact h.sat.apart b ho h1;omega
theorem ajU{o:Oper}{R:Value->World->Prop}{next:Act->World->Prop}{Q:Exit->Act->World->Prop}(h:Yields P o a.eval w R)(hn:∀v w',R v w'->next (a.put o.dst v) w'):o.wp P a w next Q:=by
 unfold Yields at h;unfold Oper.wp Oper.upon;split at h;rename_i v w2 hr;rw[hr];exact hn _ _ h;rename_i w2 hr;rw[hr];exact hn _ _ h;rename_i f args w2 hr;rw[hr];refine h.mono λen w'' ⟨v,he,hv⟩=> ?_;subst he;exact hn _ _ hv;exact h.elim
theorem cg.op(hS:SOk P S Z)(nT:dZ Z X)(h:cg X ρ s a w){o:Oper}{q:bQ}(hq:(vN P (S s.H.length) (jc s.tmps) o).eval s.look=some q)(hn:bJ q.ab)(hu:alM s.H.length q.up):
 Yields P o a.eval w (λv w'=>∃aL,cg X aL (s.put o.dst q) (a.put o.dst v) w'):=by
 have dA:∀i,i<q.new.length->s.look (s.H.length+i)=none:=λi _=>by simp[St.look]
 have:=alJ (base:=s.H.length) hS hq hn (zed nT h.jF h.sat h.ao) h.sat (e:=a.eval) (λx _=>h.ev x) dA;unfold Yields at *
 have key:∀v w',Good ρ s.look X.G w (cY s.look q.up s.H.length q.new) (q.r s.H.length) v w'->∃aL,cg X aL (s.put o.dst q) (a.put o.dst v) w':=by
  rintro v w' ⟨aL,h1,h2,h3,h4⟩;have hl:=adg s o.dst q hu;rw[<-hl]at h1 h2 h3;have⟨arr,df⟩:=a;have hp:=rZ (ρ:=aL) (H:=(s.put o.dst q).look) (O:=aV aL (s.put o.dst q).look X.G) (w:=w') h.size (λt=>af.step h3 _ _ (h.den t)) o.dst h2 df;exact⟨aL,h1,hp.1,hp.2,by have:=h.defers;cases o.dst<;>exact this,h.ao.trans h3,Frm.trans h h4,h.kept.jF h.sat h4⟩
 split at this;exact key _ _ this;exact key _ _ this;exact this.mono λen w'' ⟨v,he,hv⟩=>⟨v,he,key _ _ hv⟩;exact this
end
section
variable{ρ aL:Nat->Value}{H H':aS}{G O O':Nat->Prop}{w w':World}{P:Program}{S:fG}{Z:bh}{X:Ctx}{s:St}{a:Act}{K:List ak->AV->Prop}{C:bP->Prop}
theorem oQ:∀(ps:List Prop) (t:Tree),(Tree.aam ps t).Holds K C->bJ ps/\t.Holds K C
 |[],t,h=>⟨trivial,h⟩|p::ps,t,h=>by
  have⟨h1,h2⟩:=h;have⟨h3,h4⟩:=oQ ps t h2;exact⟨⟨h1,h3⟩,h4⟩
theorem alN{n:Nat}{us:List (Nat×ak)}(h:aan n us=true):alM n us:=by
 unfold aan at h;intro j hj
 induction us with
 |nil=>rfl|cons u us ih=>
  have⟨id,o⟩:=u;simp only[all_cons,and_eq_true]at h;have h1:id<n:=by simpa[Nat.blt,Nat.lt_iff_add_one_le]using h.1
  simp only[cw];rw[ih h.2,if_neg (by omega)]
theorem cg.skip(h:cg X ρ s a w)(dst:Option Tmp):cg X ρ {s with tmps:=cV s.tmps dst (.bq [])} (a.put dst undef) w:=by
 have⟨arr,df⟩:=a;have hp:=rZ (ρ:=ρ) (H:=s.look) (O:=aV ρ s.look X.G) (w:=w) h.size h.den dst (r:=.bq []) (v:=undef) cz df;exact⟨h.sat,hp.1,hp.2,by have:=h.defers;cases dst<;>exact this,h.ao,h.jF,h.kept⟩
theorem cg.refine(h:cg X ρ s a w){d:Nat}{x y:AV}(hx:s.tmps.getD d (.s .aY)=x)(hxy:∀v,af ρ s.look (aV ρ s.look X.G) w x v->af ρ s.look (aV ρ s.look X.G) w y v):cg X ρ {s with tmps:=s.tmps.set d y} a w:=by
 refine⟨h.sat,by simp[h.size],λt=> ?_,h.defers,h.ao,h.jF,h.kept⟩;simp only[];rw[cX];split;rename_i hc;obtain⟨rfl,_⟩:=hc;have:=h.den t;rw[hx]at this;exact hxy _ this;exact h.den t
theorem cg.abI(h:cg X ρ s a w){d:Nat}{x y:AV}(hx:s.tmps.getD d (.s .aY)=x)(hxy:af ρ s.look (aV ρ s.look X.G) w y (a.tmps.getD d undef)):cg X ρ {s with tmps:=s.tmps.set d y} a w:=by
 refine⟨h.sat,by simp[h.size],λt=> ?_,h.defers,h.ao,h.jF,h.kept⟩;simp only[];rw[cX];split;rename_i hc;obtain⟨rfl,_⟩:=hc;exact hxy;exact h.den t
theorem cg.drew(h:cg X ρ s a w):cg X ρ s a {w with drawn:=w.drawn+1}:=by
 have st:Step ρ s.look (aV ρ s.look X.G) w ρ s.look (aV ρ s.look X.G) {w with drawn:=w.drawn+1}:=
  ⟨λ_ _ _=>rfl,λ_ o h=>⟨o,h,λc' e' e=>⟨c',e',e,rfl,rfl⟩⟩,λ_ h=>.inl h,λ_ _ _=>rfl,le_refl _⟩
 refine⟨⟨λid o ho=>(h.sat.obj id o ho).step st (λ_ _ _=>rfl),h.sat.inj,h.sat.apart,h.sat.low⟩,h.size,λt=>af.step st _ _ (h.den t),h.defers,h.ao.trans st,⟨h.jF.os,h.jF.tape,h.jF.output,h.jF.heap⟩,h.kept⟩
theorem oR(h:cg X ρ s a w){d:Nat}{b:Bool}(hx:s.tmps.getD d (.s .aY)=.s (.aI b)):a.tmps[d]? =some (.bool b):=by
 have h1:=h.den d;rw[hx]at h1;have h2:=ax (by simp) h1
 have bo:d<s.tmps.length:=by
  rcases lt_or_ge d s.tmps.length with h3|h3;exact h3;rw[List.getD,getElem?_eq_none h3]at hx;simp at hx
 rw[h.size]at bo;have h4:a.tmps.getD d undef=a.tmps[d]:=by simp[Array.getD,bo]
 rw[h4]at h2;rw[Array.getElem?_eq_getElem bo];generalize a.tmps[d]=u at h2;cases h2;rfl
theorem ajV(h:cg X ρ s a w){d:Nat}(hx:s.tmps.getD d (.s .aY)=.bq []):a.tmps[d]? =some undef:=by
 have h1:=h.den d;rw[hx]at h1
 have bo:d<s.tmps.length:=by
  rcases lt_or_ge d s.tmps.length with h3|h3;exact h3;rw[List.getD,getElem?_eq_none h3]at hx;simp at hx
 rw[h.size]at bo;have h4:a.tmps.getD d undef=a.tmps[d]:=by simp[Array.getD,bo]
 rw[h4]at h1;unfold af at h1;have⟨us,h5,h6⟩:=h1;obtain rfl:=a8.1 h6;rw[Array.getElem?_eq_getElem bo,h5];rfl
theorem oS{b:Bool}(v:Value)(h:af ρ H O w (.s (.bool b)) v):af ρ H O w (.s (.aI b)) v:=by
 have:=ax (by simp) h;cases this;exact aE (.aI b)
end
section
variable{ρ aL:Nat->Value}{H H':aS}{G O O':Nat->Prop}{w w':World}{P:Program}{S:fG}{Z:bh}{X:Ctx}{s:St}{a:Act}{K:List ak->AV->Prop}{C:bP->Prop}{ops:Array Oper}
structure mJ (X:Ctx) (ρ:Nat->Value) (T:List AV) (H:aS) (a:Act) (w:World):Prop where
 sat:Sat ρ H X.G w
 size:T.length=a.tmps.size
 den:∀t,af ρ H (aV ρ H X.G) w (T.getD t (.s .aY)) (a.tmps.getD t undef)
 defers:a.defers=[]
 ao:Step X.ρ X.H (aV X.ρ X.H X.G) X.w ρ H (aV ρ H X.G) w
 jF:Frm X.ρ X.H X.w w
 kept:Kept X w
theorem cg.toF(h:cg X ρ s a w):mJ X ρ s.tmps s.look a w:=⟨h.sat,h.size,h.den,h.defers,h.ao,h.jF,h.kept⟩
theorem Frm.at2{T:List AV}(h:mJ X ρ T H a w)(k:Frm ρ H w w'):Frm X.ρ X.H X.w w':=by
 refine⟨k.os.trans h.jF.os,k.tape.trans h.jF.tape,k.output.trans h.jF.output,λb hb hO=> ?_⟩;rw[k.heap b (by have:=h.ao.size;omega) (λho=> ?_),h.jF.heap b hb hO];rcases h.ao.gq b (.inl ho)with(h1|h1)|h1;exact hO h1;exact h.sat.apart b ho h1;omega
theorem mJ.op(hS:SOk P S Z)(nT:dZ Z X){T Ti:List AV}(h:mJ X ρ T H a w){o:Oper}{q:bQ}{base:Nat}(hq:(vN P (S base) (jc Ti) o).eval H=some q)(hn:bJ q.ab)
 (hd:∀x∈o.op.operands,af ρ H (aV ρ H X.G) w (jc Ti x) (a.eval x)) (hf:∀i,i<q.new.length->H (base+i)=none):
 Yields P o a.eval w (λv w'=>∃aL,mJ X aL (cV T o.dst (q.r base)) (cY H q.up base q.new) (a.put o.dst v) w'):=by
 have:=alJ (base:=base) hS hq hn (zed nT h.jF h.sat h.ao) h.sat (e:=a.eval) hd hf;unfold Yields at *
 have key:∀v w',Good ρ H X.G w (cY H q.up base q.new) (q.r base) v w'->∃aL,mJ X aL (cV T o.dst (q.r base)) (cY H q.up base q.new) (a.put o.dst v) w':=by
  rintro v w' ⟨aL,h1,h2,h3,h4⟩;have⟨arr,df⟩:=a;have hp:=rZ (ρ:=aL) (H:=cY H q.up base q.new) (O:=aV aL (cY H q.up base q.new) X.G) (w:=w') h.size (λt=>af.step h3 _ _ (h.den t)) o.dst h2 df;exact⟨aL,h1,hp.1,hp.2,by have:=h.defers;cases o.dst<;>exact this,h.ao.trans h3,Frm.at2 h h4,h.kept.jF h.sat h4⟩
 split at this;exact key _ _ this;exact key _ _ this;exact this.mono λen w'' ⟨v,he,hv⟩=>⟨v,he,key _ _ hv⟩;exact this
def Ref(x y:AV):Prop:=x=y\/∃b,x=.s (.bool b)/\y=.s (.aI b)
theorem Ref.den{x y:AV}(h:Ref x y){v:Value}(hx:af ρ H O w x v):af ρ H O w y v:=by
 rcases h with rfl|⟨b,rfl,rfl⟩;exact hx;exact oS _ hx
theorem Ref.trans{x y z:AV}(h:Ref x y)(k:Ref y z):Ref x z:=by
 rcases h with rfl|⟨b,rfl,rfl⟩;exact k;rcases k with rfl|⟨c,h1,rfl⟩;exact .inr ⟨b,rfl,rfl⟩;cases h1
theorem RM.eval_congr{α:Type}:∀(m:RM α),(∀id∈m.ids H,H' id=H id)->m.eval H'=m.eval H/\m.ids H'=m.ids H
 |.ret a,h=>⟨rfl,rfl⟩|.fail _,h=>⟨rfl,rfl⟩|.look id k,h=>by
  simp only[RM.ids]at h;have e:=h id (by simp);have:=RM.eval_congr (k (H id)) (λj hj=>h j (by simp[hj]));simp only[RM.eval,RM.ids,e];exact⟨this.1,by rw[this.2]⟩
structure El where
 i:Nat
 o:Oper
 T:List AV
 q:Option bQ
 base:Nat
 rd:List Nat
def El.wr(e:El):List Nat:=match e.q with
 |some q=>vr q.up++(List.range q.new.length).map (e.base+·)|none=>[]
def El.cR(e:El)(T:List AV):List AV:=cV T e.o.dst (match e.q with|some q=>q.r e.base|none=>.bq [])
def El.heap(e:El)(H:aS):aS:=match e.q with|some q=>cY H q.up e.base q.new|none=>H
structure El.Ok (P:Program) (S:fG) (ops:Array Oper) (T:List AV) (H:aS) (e:El):Prop where
 op:ops[e.i]? =some e.o
 looks:∀t∈e.o.looksAt ops,Ref (T.getD t (.s .aY)) (e.T.getD t (.s .aY))
 guard:match e.o.guard with
  |none=>e.q.isSome=true|some (g,want)=>∃d,(ops[g]?).bind (·.dst)=some d/\((∃b,e.T.getD d (.s .aY)=.s (.aI b)/\e.q.isSome=(b==want))\/(e.T.getD d (.s .aY)=.bq []/\e.q=none))
 skip:e.q=none->e.rd=[]
 run:∀q,e.q=some q->(vN P (S e.base) (jc e.T) e.o).eval H=some q/\(vN P (S e.base) (jc e.T) e.o).ids H=e.rd/\bJ q.ab/\∀j,j<q.new.length->H (e.base+j)=none
def oT(P:Program)(S:fG)(ops:Array Oper):List AV->aS->List El->List AV->aS->Prop
 |T,H,[],T',H'=>T=T'/\H=H'|T,H,e::es,T',H'=>e.Ok P S ops T H/\oT P S ops (e.cR T) (e.heap H) es T' H'
structure adh (ops:Array Oper) (x y:El):Prop where
 s1:∀d,x.o.dst=some d->d ∉ y.o.looksAt ops/\y.o.dst≠some d
 s2:∀d,y.o.dst=some d->d ∉ x.o.looksAt ops
 h1:∀id∈x.wr,id ∉ y.rd/\id ∉ y.wr
 h2:∀id∈y.wr,id ∉ x.rd
theorem El.aao(e:El)(T:List AV){t:Nat}(h:e.o.dst≠some t):(e.cR T).getD t (.s .aY)=T.getD t (.s .aY):=by
 unfold El.cR;cases hd:e.o.dst with
 |none=>rfl|some d=>
  simp only[cV];rw[cX,if_neg];rintro⟨rfl,_⟩;exact h hd
theorem adi{us:List (Nat×ak)}{id:Nat}(h:id ∉ vr us):cw us id=none:=by
 induction us with
 |nil=>rfl|cons u us ih=>
  have⟨j,o⟩:=u;simp only[vr,map_cons,mem_cons,not_or]at h;simp only[cw];rw[ih h.2,if_neg (Ne.symm (Ne.symm h.1))]
theorem adj{us:List (Nat×ak)}{id:Nat}(h:id∈vr us):∃o,cw us id=some o:=by
 induction us with
 |nil=>simp[vr]at h|cons u us ih=>
  have⟨j,o⟩:=u;simp only[vr,map_cons,mem_cons]at h;simp only[cw];cases hf:cw us id with
  |some x=>exact⟨x,rfl⟩|none=>
   rcases h with rfl|h;simp;have⟨o,ho⟩:=ih h;rw[ho]at hf;cases hf
theorem El.iH(e:El)(H:aS){id:Nat}(h:id ∉ e.wr):e.heap H id=H id:=by
 unfold El.wr at h;unfold El.heap;cases hq:e.q with
 |some q=>
  rw[hq]at h;simp only[mem_append,not_or,mem_map,mem_range,not_exists,not_and]at h;simp only[cY,adi h.1];rw[if_neg];rintro⟨h1,h2⟩;exact h.2 (id - e.base) (by omega) (by omega)
 |none=>rfl
theorem El.ahz(e:El)(H H':aS){id:Nat}(h:id∈e.wr):e.heap H id=e.heap H' id:=by
 unfold El.wr at h;unfold El.heap;cases hq:e.q with
 |some q=>
  rw[hq]at h;simp only[mem_append,mem_map,mem_range]at h;simp only[cY];rcases h with h|⟨j,h1,rfl⟩;have⟨o,ho⟩:=adj h;rw[ho];cases cw q.up (e.base+j)with
  |some o=>rfl|none=>simp[h1]
 |none=>rw[hq]at h;simp at h
theorem alO{e:El}{q:bQ}(hq:e.q=some q){j:Nat}(hj:j<q.new.length):e.base+j∈e.wr:=by
 unfold El.wr;rw[hq];simp only[mem_append,mem_map,mem_range];exact .inr ⟨j,hj,rfl⟩
theorem swap{T:List AV}{x y:El}(hx:x.Ok P S ops T H)(hy:y.Ok P S ops (x.cR T) (x.heap H))(hi:adh ops x y):
 y.Ok P S ops T H/\x.Ok P S ops (y.cR T) (y.heap H)/\y.cR (x.cR T)=x.cR (y.cR T)/\y.heap (x.heap H)=x.heap (y.heap H):=by
 refine⟨⟨hy.op,λt ht=> ?_,hy.guard,hy.skip,λq hq=> ?_⟩,⟨hx.op,λt ht=> ?_,hx.guard,hx.skip,λq hq=> ?_⟩, ?_, ?_⟩;have:=hy.looks t ht;rwa[El.aao x T (λe=>(hi.s1 t e).1 ht)]at this;have⟨h1,h2,h3,h4⟩:=hy.run q hq
 have hc:=RM.eval_congr (H:=x.heap H) (H':=H) (vN P (S y.base) (jc y.T) y.o) (λid dq=>by
  rw[h2]at dq;exact(El.iH x H (λhw=>(hi.h1 id hw).1 dq)).symm)
 refine⟨hc.1.trans h1,hc.2.trans h2,h3,λj hj=> ?_⟩;rw[<-h4 j hj];exact(El.iH x H (λhw=>(hi.h1 _ hw).2 (alO hq hj))).symm;rw[El.aao y T (λe=>hi.s2 t e ht)];exact hx.looks t ht;have⟨h1,h2,h3,h4⟩:=hx.run q hq
 have hc:=RM.eval_congr (H:=H) (H':=y.heap H) (vN P (S x.base) (jc x.T) x.o) (λid dq=>by
  rw[h2]at dq;exact El.iH y H (λhw=>hi.h2 id hw dq))
 refine⟨hc.1.trans h1,hc.2.trans h2,h3,λj hj=> ?_⟩;rw[El.iH y H (λhw=>(hi.h1 _ (alO hq hj)).2 hw)];exact h4 j hj;unfold El.cR;cases hd:x.o.dst with
 |none=>rfl|some d=>
  cases hd':y.o.dst with
  |none=>rfl|some d'=>
   simp only[cV];exact List.set_comm _ _ (λe=>(hi.s1 d hd).2 (by rw[hd',e]))
 funext id;by_cases h1:id∈x.wr;rw[El.iH y _ (hi.h1 id h1).2];exact El.ahz x _ _ h1;rw[El.iH x _ h1];by_cases h2:id∈y.wr;exact El.ahz y _ _ h2;rw[El.iH y _ h2,El.iH y _ h2,El.iH x _ h1]
theorem front{T':List AV}{H':aS}{x:El}{post:List El}:∀(pre:List El) {T:List AV} {H:aS},oT P S ops T H (pre++x::post) T' H'->(∀e∈pre,adh ops e x)->
 x.Ok P S ops T H/\oT P S ops (x.cR T) (x.heap H) (pre++post) T' H'
 |[],T,H,h,_=>h|e::pre,T,H,h,hi=>by
  have⟨h1,h2⟩:=h;have⟨h3,h4⟩:=front pre h2 (λf hf=>hi f (by simp[hf]));have⟨h5,h6,h7,h8⟩:=swap h1 h3 (hi e (by simp));refine⟨h5,h6, ?_⟩;rw[h7,h8]at h4;exact h4
def qY(ops:Array Oper)(e f:El):Prop:=e.i<f.i/\(gJ ops f.i e.i=true\/adh ops e f)
theorem mJ.ahA{T:List AV}(h:mJ X ρ T H a w){d:Nat}{b:Bool}{Ti:List AV}(hr:Ref (T.getD d (.s .aY)) (Ti.getD d (.s .aY)))(hx:Ti.getD d (.s .aY)=.s (.aI b)):a.tmps[d]? =some (.bool b):=by
 have h1:=hr.den (h.den d);rw[hx]at h1;have h2:=ax (by simp) h1
 have bo:d<a.tmps.size:=by
  rcases lt_or_ge d a.tmps.size with h3|h3;exact h3;have:a.tmps.getD d undef=undef:=by simp[Array.getD,Nat.not_lt.2 h3]
  rw[this]at h2;cases h2
 have h4:a.tmps.getD d undef=a.tmps[d]:=by simp[Array.getD,bo]
 rw[h4]at h2;rw[Array.getElem?_eq_getElem bo];generalize a.tmps[d]=u at h2;cases h2;rfl
theorem mJ.ajW{T:List AV}(h:mJ X ρ T H a w){d:Nat}{Ti:List AV}(hr:Ref (T.getD d (.s .aY)) (Ti.getD d (.s .aY)))(hx:Ti.getD d (.s .aY)=.bq []):∀b,a.tmps[d]? ≠some (.bool b):=by
 intro b hb;have h1:=hr.den (h.den d);rw[hx]at h1;have:a.tmps.getD d undef=.bool b:=by simp[getD_eq_getD_getElem?,hb]
 rw[this]at h1;unfold af at h1;have⟨us,h5,_⟩:=h1;cases h5
theorem alP{o:Oper}{T Ti:List AV}(h:mJ X ρ T H a w)(hl:∀t∈o.looksAt ops,Ref (T.getD t (.s .aY)) (Ti.getD t (.s .aY))):∀x∈o.op.operands,af ρ H (aV ρ H X.G) w (jc Ti x) (a.eval x):=by
 intro x hx;cases x with
 |tmp t=>
  refine(hl t ?_).den (h.den t);simp only[Oper.looksAt,mem_append,List.mem_filterMap];exact .inl ⟨.tmp t,by simpa using hx,rfl⟩
 |const v=>exact xv _ v|global g=>unfold jc af;trivial|func f=>exact aE (.rH f)
theorem mJ.skip{T:List AV}(h:mJ X ρ T H a w)(dst:Option Tmp):mJ X ρ (cV T dst (.bq [])) H (a.put dst undef) w:=by
 have⟨arr,df⟩:=a;have hp:=rZ (ρ:=ρ) (H:=H) (O:=aV ρ H X.G) (w:=w) h.size h.den dst (r:=.bq []) (v:=undef) cz df;exact⟨h.sat,hp.1,hp.2,by have:=h.defers;cases dst<;>exact this,h.ao,h.jF,h.kept⟩
theorem ahB(hS:SOk P S Z)(nT:dZ Z X){T:List AV}{e:El}(he:e.Ok P S ops T H)(h:mJ X ρ T H a w){Kn:Act->World->Prop}{Q:Exit->Act->World->Prop}
 (hK:∀aL a' w',mJ X aL (e.cR T) (e.heap H) a' w'->Kn a' w'):wpOp P ops Q e.i Kn a w:=by
 unfold wpOp;rw[he.op];simp only[];cases hq:e.q with
 |some q=>
  have hw:Region.wanted e.o (yielded ops a.tmps)=true:=by
   have hg:=he.guard;split at hg;rename_i h0;simp[Region.wanted,h0];rename_i g want h0;have⟨d,h1,h2⟩:=hg;rcases h2 with⟨b,h2,h3⟩|⟨_,h3⟩;have hld:d∈e.o.looksAt ops:=by simp[Oper.looksAt,h0,h1]
   have:=h.ahA (he.looks d hld) h2;rw[hq]at h3;simp only[Region.wanted,h0,yielded,h1,Option.bind_some,this];simpa using h3.symm;rw[hq]at h3;cases h3
  rw[if_pos hw];have⟨h1,h2,h3,h4⟩:=he.run q hq;refine .inl (ajU (h.op hS nT h1 h3 (alP h he.looks) h4) (λv w' ⟨aL,eG⟩=>hK aL _ w' ?_));simpa only[El.cR,El.heap,hq]using eG
 |none=>
  have hw:Region.wanted e.o (yielded ops a.tmps)=false:=by
   have hg:=he.guard;split at hg;rename_i h0;rw[hq]at hg;cases hg;rename_i g want h0;have⟨d,h1,h2⟩:=hg;have hld:d∈e.o.looksAt ops:=by simp[Oper.looksAt,h0,h1]
   rcases h2 with⟨b,h2,h3⟩|⟨h2,h3⟩;have:=h.ahA (he.looks d hld) h2;rw[hq]at h3;simp only[Region.wanted,h0,yielded,h1,Option.bind_some,this];have:(b==want)=false:=by simpa using h3.symm
   simpa using this;have:=h.ajW (he.looks d hld) h2
   have hy:yielded ops a.tmps g=none:=by
    simp only[yielded,h1,Option.bind_some]
    first
     |done
     |(split
       rename_i b hb;exact(this b hb).elim;rfl)
   simp only[Region.wanted,h0,hy];rfl
  rw[if_neg (by rw[hw];simp)];refine hK ρ _ w ?_;simpa only[El.cR,El.heap,hq]using h.skip e.o.dst
theorem jr{L:Nat->Prop}(hL:∀i o,ops[i]? =some o->L i->∀e∈o.after,Region.binds .any e=true->L e.on):∀(n:Nat) {i j:Nat} {o:Oper},ops[i]? =some o->(∀e∈o.after,Region.binds .any e=true->L e.on)->xt ops n i j=true->L j
 |0,i,j,o,ho,hd,h=>by cases h
 |n+1,i,j,o,ho,hd,h=>by
  simp only[xt,ho,Bool.or_eq_true,Array.any_eq_true]at h;rcases h with⟨k,hk,h⟩|⟨k,hk,h⟩;simp only[and_eq_true]at h;have:=hd _ (Array.getElem_mem hk) h.1;rwa[Nat.eq_of_beq_eq_true h.2]at this;simp only[and_eq_true]at h;have h1:=hd _ (Array.getElem_mem hk) h.1.1;cases dH:ops[(o.after[k]).on]? with
  |none=>
   have h2:=h.2;cases n with
   |zero=>cases h2
   |succ n=>simp only[xt,dH]at h2;cases h2
  |some o'=>exact jr hL n dH (hL _ o' dH h1) h.2
theorem abJ(hS:SOk P S Z)(nT:dZ Z X)(heb:dY ops=true){T':List AV}{H':aS}{Q:Exit->Act->World->Prop}(hQ:∀aL a' w',mJ X aL T' H' a' w'->Q .normal a' w'):
 ∀(fuel:Nat) (listed:Array Bool) (es:List El) (T:List AV) (H:aS) (ρ:Nat->Value) (a:Act) (w:World),es.length=fuel->listed.size=ops.size->es.Pairwise (qY ops)->
 (∀i,i<ops.size->(listed.getD i true=false↔ ∃e∈es,e.i=i))->(∀i o,ops[i]? =some o->listed.getD i false=true->∀e∈o.after,Region.binds .any e=true->listed.getD e.on false=true)->mJ X ρ T H a w->oT P S ops T H es T' H'->wpAny P .any ops Q fuel listed a w:=by
 have gg:∀(listed:Array Bool) (i:Nat),i∈Region.ready .any ops listed->i<ops.size/\listed.getD i true=false/\∃o,ops[i]? =some o/\∀e∈o.after,Region.binds .any e=true->listed.getD e.on false=true:=by
  intro listed i hi;simp only[Region.ready,List.mem_filter,mem_range,and_eq_true]at hi;have⟨h1,h2,h3⟩:=hi;refine⟨h1,by simpa using h2, ?_⟩;cases ho:ops[i]? with
  |none=>rw[ho]at h3;simp at h3|some o=>
   rw[ho]at h3;simp only[map_some,getD_some,Array.all_eq_true]at h3;refine⟨o,rfl,λe he hb=> ?_⟩;obtain⟨n,hn,rfl⟩:=Array.mem_iff_getElem.1 he;have:=h3 n hn;rw[hb]at this;simpa using this
 have stop:∀(listed:Array Bool) (es:List El) (T:List AV) (H:aS),listed.size=ops.size->es.Pairwise (qY ops)->(∀i,i<ops.size->(listed.getD i true=false↔ ∃e∈es,e.i=i))->
  oT P S ops T H es T' H'->Region.ready .any ops listed=[]->es=[]:=by
  intro listed es T H bU hp hl hc hr;cases es with
  |nil=>rfl|cons e es=>
   exfalso;have ho:=hc.1.op;have bo:e.i<ops.size:=(Array.getElem?_eq_some_iff.1 ho).1
   have ko:e.i∈Region.ready .any ops listed:=by
    simp only[Region.ready,List.mem_filter,mem_range,and_eq_true];refine⟨bo,by simpa using(hl e.i bo).2 ⟨e,by simp,rfl⟩, ?_⟩;rw[ho];simp only[map_some,getD_some,Array.all_eq_true];intro n hn;have hb:dY ops=true:=heb;simp only[dY,all_eq_true,mem_range]at hb;have hb:=hb e.i bo;rw[ho]at hb;simp only[Array.all_eq_true]at hb;have hb:=hb n hn;cases hbi:Region.binds .any (e.o.after[n])with
    |false=>simp|true=>
     rw[hbi]at hb;have hon:(e.o.after[n]).on<e.i:=by simpa[Nat.blt,Nat.lt_iff_add_one_le]using hb
     have cP:¬(listed.getD (e.o.after[n]).on true=false):=by
      intro hf;have⟨f,hf1,hf2⟩:=(hl _ (by omega)).1 hf;rcases mem_cons.1 hf1 with rfl|hf1;omega;have:=(pairwise_cons.1 hp).1 f hf1;have:=this.1;omega
     have cO:(e.o.after[n]).on<listed.size:=by omega
     simp only[Array.getD,cO,dif_pos]at cP ⊢;simpa using cP
   rw[hr]at ko;simp at ko
 intro fuel
 induction fuel with
 |zero=>
  intro listed es T H ρ a w bB bU hp hl hdc af8 hc;obtain rfl:es=[]:=List.length_eq_zero_iff.1 bB;obtain⟨rfl,rfl⟩:=hc;refine⟨?_,hQ _ _ _ af8⟩;rw[List.eq_nil_iff_forall_not_mem];intro i hi;have⟨h1,h2,_⟩:=gg listed i hi;have⟨e,he,_⟩:=(hl i h1).1 h2;simp at he
 |succ fuel ih=>
  intro listed es T H ρ a w bB bU hp hl hdc af8 hc;refine⟨λhr=> ?_,λi hi=> ?_⟩;obtain rfl:=stop listed es T H bU hp hl hc hr;simp at bB;have⟨h1,h2,o,ho,h3⟩:=gg listed i hi;obtain⟨f,hf,rfl⟩:=(hl i h1).1 h2;obtain⟨pre,post,rfl⟩:=List.append_of_mem hf;have mK:∀e∈pre,qY ops e f:=λe he=>(List.pairwise_append.1 hp).2.2 e he f (by simp)
  have at3:∀e∈pre,adh ops e f:=by
   intro e he;rcases(mK e he).2 with h4|h4;exfalso;have h8:listed.getD e.i false=true:=jr (L:=λi=>listed.getD i false=true) hdc 9 ho h3 h4;have bo:e.i<ops.size:=by have:=(mK e he).1;omega
   have h9:=(hl e.i bo).2 ⟨e,by simp[he],rfl⟩;have cO:e.i<listed.size:=by omega
   simp only[Array.getD,cO,dif_pos]at h8 h9;rw[h8]at h9;cases h9;exact h4
  have⟨jU,hch⟩:=front pre hc at3;refine ahB hS nT jU af8 (λaL a' w' eG=> ?_)
  have keep:∀j,listed.getD j false=true->(listed.setIfInBounds f.i true).getD j false=true:=λj hj=>by
   simp only[getD_eq_getD_getElem?,Array.getElem?_setIfInBounds]at hj ⊢;split;split<;>simp_all;exact hj
  have at4:∀i o,ops[i]? =some o->(listed.setIfInBounds f.i true).getD i false=true->∀e∈o.after,Region.binds .any e=true->(listed.setIfInBounds f.i true).getD e.on false=true:=by
   intro i o' dH fq e he hb;by_cases hif:i=f.i;subst hif;rw[ho]at dH;cases dH;exact keep _ (h3 e he hb);refine keep _ (hdc i o' dH ?_ e he hb);simp only[getD_eq_getD_getElem?,Array.getElem?_setIfInBounds,if_neg (Ne.symm hif)]at fq ⊢;exact fq
  refine ih _ (pre++post) _ _ aL a' w' ?_ (by simp[bU]) ?_ ?_ at4 eG hch;simp only[length_append,length_cons]at bB ⊢;omega;exact hp.sublist (List.Sublist.append (List.Sublist.refl _) (List.sublist_cons_self _ _));intro j hj
  have alD:∀e∈pre++post,e.i≠f.i:=by
   intro e he;rcases mem_append.1 he with he|he;have:=(mK e he).1;omega;have:=(pairwise_cons.1 (List.pairwise_append.1 hp).2.1).1 e he;have:=this.1;omega
  have cO:j<listed.size:=by omega
  have at5:(listed.setIfInBounds f.i true).getD j true=if j=f.i then true else listed.getD j true:=by
   simp only[getD_eq_getD_getElem?,Array.getElem?_setIfInBounds];by_cases hjf:f.i=j;subst hjf;simp[cO];simp[hjf,Ne.symm hjf]
  rw[at5];by_cases hjf:j=f.i;subst hjf;simp only[if_true,Bool.true_eq_false,false_iff,not_exists,not_and];exact alD;rw[if_neg hjf,hl j hj];constructor;rintro⟨e,he,rfl⟩;refine⟨e, ?_,rfl⟩;simp only[mem_append,mem_cons]at he ⊢;rcases he with he|rfl|he;exact .inl he;exact(hjf rfl).elim;exact .inr he;rintro⟨e,he,rfl⟩;refine⟨e, ?_,rfl⟩;simp only[mem_append,mem_cons]at he ⊢;rcases he with he|he;exact .inl he;exact .inr (.inr he)
def El.nK(e:El):Touch:=⟨e.i,e.rd,e.wr⟩
theorem gS:∀(tr:List Touch),jd ops tr=true->tr.Pairwise (λb a=>a.ahv b=false\/gJ ops b.i a.i=true)
 |[],_=>.nil|b::aP,h=>by
  simp only[jd,and_eq_true,all_eq_true,Bool.or_eq_true,not_eq_true']at h;exact .cons (λa ha=>h.1 a ha) (gS aP h.2)
theorem Touch.xw{a b:Touch}(h:a.ahv b=false):(∀id∈a.wr,id ∉ b.rd/\id ∉ b.wr)/\∀id∈b.wr,id ∉ a.rd:=by
 simp only[Touch.ahv,Bool.or_eq_false_iff,List.any_eq_false,Bool.or_eq_true,List.contains_iff_mem,not_or]at h;exact h
theorem ahC{T T':List AV}(bB:T.length=T'.length)(h:∀t,Ref (T.getD t (.s .aY)) (T'.getD t (.s .aY)))(dst:Option Tmp)(x:AV):∀t,Ref ((cV T dst x).getD t (.s .aY)) ((cV T' dst x).getD t (.s .aY)):=by
 intro t;cases dst with
 |none=>exact h t|some d=>
  simp only[cV];rw[cX,cX,bB];split;exact .inl rfl;exact h t
theorem oU(T:List AV)(dst:Option Tmp)(x:AV):(cV T dst x).length=T.length:=by cases dst<;>simp[cV]
theorem gK{cont:St->List Touch->Tree}:∀(l:List Oper) (i:Nat) (s:St) (tr:List Touch) (T:List AV),(∀j o,l[j]? =some o->ops[i+j]? =some o)->(mf P S ops cont i l s tr).Holds K C->
 T.length=s.tmps.length->(∀t,Ref (T.getD t (.s .aY)) (s.tmps.getD t (.s .aY)))->
 ∃es s' rF T',(cont s' rF).Holds K C/\oT P S ops T s.look es T' s'.look/\T'.length=s'.tmps.length/\(∀t,Ref (T'.getD t (.s .aY)) (s'.tmps.getD t (.s .aY)))/\
  es.map El.i=range' i l.length/\rF=((es.filter (λe=>e.q.isSome)).map El.nK).reverse++tr
 |[],i,s,tr,T,_,h,bB,hT=>⟨[],s,tr,T,h,⟨rfl,rfl⟩,bB,hT,rfl,rfl⟩|o::rest,i,s,tr,T,hl,h,bB,hT=>by
  have ho:ops[i]? =some o:=by simpa using hl 0 o (by simp)
  have hl':∀j o',rest[j]? =some o'->ops[i+1+j]? =some o':=λj o' hj=>by
   have:=hl (j+1) o' (by simpa using hj);rwa[show i+(j+1)=i+1+j from by omega]at this
  have oV:∀(s:St),T.length=s.tmps.length->(∀t,Ref (T.getD t (.s .aY)) (s.tmps.getD t (.s .aY)))->
   (match o.guard with|none=>True|some (g,want)=>∃d,(ops[g]?).bind (·.dst)=some d/\s.tmps.getD d (.s .aY)=.s (.aI want))->
   (match(vN P (S s.H.length) (jc s.tmps) o).eval s.look with
     |some r=>bif aan s.H.length r.up then Tree.aam r.ab (mf P S ops cont (i+1) rest (s.put o.dst r) (⟨i,(vN P (S s.H.length) (jc s.tmps) o).ids s.look,vr r.up++(List.range r.new.length).map (s.H.length+·)⟩::tr))else .stuck ""|none=>.stuck (o.pos++ " " ++(vN P (S s.H.length) (jc s.tmps) o).why s.look)).Holds K C->
   ∃es s' rF T',(cont s' rF).Holds K C/\oT P S ops T s.look es T' s'.look/\T'.length=s'.tmps.length/\(∀t,Ref (T'.getD t (.s .aY)) (s'.tmps.getD t (.s .aY)))/\
    es.map El.i=range' i (o::rest).length/\rF=((es.filter (λe=>e.q.isSome)).map El.nK).reverse++tr:=by
   intro s bB hT hg h;split at h;rename_i q hq;rw[cond_eq_ite]at h;split at h;rename_i hup;have⟨hn,h2⟩:=oQ _ _ h;let e:El:=⟨i,o,s.tmps,some q,s.H.length,(vN P (S s.H.length) (jc s.tmps) o).ids s.look⟩;have⟨es,s',rF,T',g1,g2,g3,g4,g5,g6⟩:=gK rest (i+1) _ _ (e.cR T) hl' h2 (by simp[El.cR,St.put,oU,bB]) (ahC bB hT o.dst _);refine⟨e::es,s',rF,T',g1,⟨⟨ho,λt _=>hT t, ?_,λhq'=>by simp[e]at hq',λq' hq'=> ?_⟩, ?_⟩,g3,g4, ?_, ?_⟩;show match o.guard with|none=>_|some (g,want)=>_
   split;rfl;rename_i g want h0;rw[h0]at hg;have⟨d,h5,h6⟩:=hg;exact⟨d,h5,.inl ⟨want,h6,by simp[e]⟩⟩;obtain rfl:q=q':=by simpa[e]using hq'
   exact⟨hq,rfl,hn,λj _=>by simp[St.look,e]⟩;have:e.heap s.look=(s.put o.dst q).look:=(adg s o.dst q (alN hup)).symm;rw[this];exact g2;simp[g5,List.range'_succ,e];rw[g6];simp[e,El.nK,El.wr];exact h.elim;exact h.elim
  have oW:∀(s:St),T.length=s.tmps.length->(∀t,Ref (T.getD t (.s .aY)) (s.tmps.getD t (.s .aY)))->
   (∃g want d,o.guard=some (g,want)/\(ops[g]?).bind (·.dst)=some d/\(s.tmps.getD d (.s .aY)=.s (.aI (!want))\/s.tmps.getD d (.s .aY)=.bq []))->
   (mf P S ops cont (i+1) rest {s with tmps:=cV s.tmps o.dst (.bq [])} tr).Holds K C->
   ∃es s' rF T',(cont s' rF).Holds K C/\oT P S ops T s.look es T' s'.look/\T'.length=s'.tmps.length/\(∀t,Ref (T'.getD t (.s .aY)) (s'.tmps.getD t (.s .aY)))/\
    es.map El.i=range' i (o::rest).length/\rF=((es.filter (λe=>e.q.isSome)).map El.nK).reverse++tr:=by
   intro s bB hT hg h;let e:El:=⟨i,o,s.tmps,none,s.H.length,[]⟩;have⟨es,s',rF,T',g1,g2,g3,g4,g5,g6⟩:=gK rest (i+1) _ _ (e.cR T) hl' h (by simp[El.cR,oU,bB]) (ahC bB hT o.dst _);refine⟨e::es,s',rF,T',g1,⟨⟨ho,λt _=>hT t, ?_,λ_=>rfl,λq' hq'=>by simp[e]at hq'⟩,g2⟩,g3,g4, ?_, ?_⟩;show match o.guard with|none=>_|some (g,want)=>_
   have⟨g,want,d,h0,h5,h6⟩:=hg;rw[h0];refine⟨d,h5, ?_⟩;rcases h6 with h6|h6;exact .inl ⟨!want,h6,by cases want<;>rfl⟩;exact .inr ⟨h6,rfl⟩;simp[g5,List.range'_succ,e];rw[g6];simp[e]
  have oD:∀{d:Nat} {b:Bool},s.tmps.getD d (.s .aY)=.s (.bool b)->d<s.tmps.length:=by
   intro d b hb;rcases lt_or_ge d s.tmps.length with h3|h3;exact h3;rw[List.getD,getElem?_eq_none h3]at hb;simp at hb
  have apK:∀{d:Nat} {b:Bool},s.tmps.getD d (.s .aY)=.s (.bool b)->∀t,Ref (T.getD t (.s .aY)) ((s.tmps.set d (.s (.aI b))).getD t (.s .aY)):=by
   intro d b hb t;rw[cX];split;rename_i hc;obtain⟨rfl,_⟩:=hc;exact(hT t).trans (.inr ⟨b,hb,rfl⟩);exact hT t
  unfold mf at h;simp only[]at h;split at h;rename_i hg;exact oV s bB hT (by rw[hg];trivial) h;rename_i g want hg;split at h;exact h.elim;rename_i d hd;split at h;rename_i b hb;rw[cond_eq_ite]at h;split at h;rename_i hbw;obtain rfl:b=want:=by simpa using hbw
  exact oV s bB hT (by rw[hg];exact⟨d,hd,hb⟩) h;rename_i hbw;refine oW s bB hT ⟨g,want,d,hg,hd,.inl ?_⟩ h;rw[hb];cases b<;>cases want<;>simp_all;rename_i b hb;have bo:=oD hb;have zB:=apK hb;have ahD:∀c:Bool,(s.tmps.set d (.s (.aI c))).getD d (.s .aY)=.s (.aI c):=λc=>by simp[List.getD,bo]
  have⟨h1,h2⟩:=h;cases b;have h2:=h2 rfl;cases want;exact oV {s with tmps:=s.tmps.set d (.s (.aI false))} (by simpa using bB) zB (by rw[hg];exact⟨d,hd,ahD _⟩) h2;exact oW {s with tmps:=s.tmps.set d (.s (.aI false))} (by simpa using bB) zB ⟨g,true,d,hg,hd,.inl (ahD _)⟩ h2;have h1:=h1 rfl;cases want;exact oW {s with tmps:=s.tmps.set d (.s (.aI true))} (by simpa using bB) zB ⟨g,false,d,hg,hd,.inl (ahD _)⟩ h1;exact oV {s with tmps:=s.tmps.set d (.s (.aI true))} (by simpa using bB) zB (by rw[hg];exact⟨d,hd,ahD _⟩) h1;rename_i hb;exact oW s bB hT ⟨g,want,d,hg,hd,.inr hb⟩ h;exact h.elim
theorem kX{T':List AV}{H':aS}:∀{es:List El} {T:List AV} {H:aS},oT P S ops T H es T' H'->∀e∈es,e.q=none->e.rd=[]
 |[],_,_,_,e,he=>by simp at he
 |x::es,T,H,h,e,he=>by
  rcases mem_cons.1 he with rfl|he;exact h.1.skip;exact kX h.2 e he
theorem xx{T':List AV}{H':aS}:∀{es:List El} {T:List AV} {H:aS},oT P S ops T H es T' H'->∀e∈es,ops[e.i]? =some e.o
 |[],_,_,_,e,he=>by simp at he
 |x::es,T,H,h,e,he=>by
  rcases mem_cons.1 he with rfl|he;exact h.1.op;exact xx h.2 e he
theorem vt(hso:iF ops=true){e f:El}(he:ops[e.i]? =some e.o)(hf:ops[f.i]? =some f.o)(bo:e.i<f.i)(hna:gJ ops f.i e.i=false):
 (∀d,e.o.dst=some d->d ∉ f.o.looksAt ops/\f.o.dst≠some d)/\(∀d,f.o.dst=some d->d ∉ e.o.looksAt ops):=by
 have hei:e.i<ops.size:=(Array.getElem?_eq_some_iff.1 he).1;have hfi:f.i<ops.size:=(Array.getElem?_eq_some_iff.1 hf).1;simp only[iF,all_eq_true,mem_range]at hso;refine⟨λd hd=> ?_,λd hd=> ?_⟩;have:=hso e.i hei f.i hfi;rw[he,hf]at this;simp only[hd,bo,if_true,hna,Bool.or_false,Bool.or_eq_true,beq_iff_eq,and_eq_true,not_eq_true']at this;rcases this with h|⟨h1,h2⟩;omega;refine⟨λhm=> ?_,λhm=> ?_⟩;rw[List.contains_iff_mem.2 hm]at h1;cases h1;rw[hm]at h2;simp at h2;have:=hso f.i hfi e.i hei;rw[he,hf]at this;simp only[hd,Nat.not_lt.2 (Nat.le_of_lt bo),if_false,hna,Bool.or_false,Bool.or_eq_true,beq_iff_eq,and_eq_true,not_eq_true']at this;rcases this with h|⟨h1,h2⟩;omega;intro hm;rw[List.contains_iff_mem.2 hm]at h1;cases h1
theorem abK(hS:SOk P S Z)(nT:dZ Z X){cont:St->List Touch->Tree}(hso:iF ops=true)(heb:dY ops=true)(h:(mf P S ops cont 0 ops.toList s []).Holds K C)(hcl:∀s' rF,(cont s' rF).Holds K C->jd ops rF=true)
 {Q:Act->World->Prop} (hQ:∀aL s' rF a' w',(cont s' rF).Holds K C->cg X aL s' a' w'->Q a' w') (hr:cg X ρ s a w):wpAny P .any ops (λe a' w'=>e=.normal/\Q a' w') ops.size (Array.replicate ops.size false) a w:=by
 have⟨es,s',rF,T',g1,g2,g3,g4,g5,g6⟩:=gK ops.toList 0 s [] s.tmps (by simp) h rfl (λt=>.inl rfl);have hcf:=gS _ (hcl _ _ g1);rw[g6,append_nil,List.pairwise_reverse,List.pairwise_map,List.pairwise_filter]at hcf;have zk:=xx g2
 have ac1:es.Pairwise (λe f=>e.i<f.i):=by
  have:(es.map El.i).Pairwise (· < ·):=by rw[g5];exact List.pairwise_lt_range'
  rwa[List.pairwise_map]at this
 have abL:es.Pairwise (qY ops):=by
  refine(hcf.and ac1).imp_of_mem (λ{e f} he hf ⟨hc,bo⟩=>⟨bo, ?_⟩);cases hna:gJ ops f.i e.i with
  |true=>exact .inl rfl|false=>
   refine .inr ?_;have⟨s1,s2⟩:=vt hso (zk e he) (zk f hf) bo hna
   have hh:(∀id∈e.wr,id ∉ f.rd/\id ∉ f.wr)/\∀id∈f.wr,id ∉ e.rd:=by
    cases hqe:e.q with
    |none=>
     have e1:e.wr=[]:=by simp[El.wr,hqe]
     have e2:=kX g2 e he hqe;exact⟨λid dq=>by rw[e1]at dq;simp at dq,λid _=>by rw[e2];simp⟩
    |some qe=>
     cases hqf:f.q with
     |none=>
      have e1:f.wr=[]:=by simp[El.wr,hqf]
      have e2:=kX g2 f hf hqf;exact⟨λid _=>by rw[e1,e2];simp,λid dq=>by rw[e1]at dq;simp at dq⟩
     |some qf=>
      rcases hc (by rw[hqe];rfl) (by rw[hqf];rfl)with h1|h1;exact Touch.xw (a:=e.nK) (b:=f.nK) h1;exact(by rw[show f.nK.i=f.i from rfl,show e.nK.i=e.i from rfl,hna]at h1;cases h1)
   exact⟨s1,s2,hh.1,hh.2⟩
 have bB:es.length=ops.size:=by
  have:=congrArg List.length g5;simpa using this
 refine abJ hS nT heb (λaL a' w' eG=>⟨rfl,hQ aL s' rF a' w' g1 ⟨eG.sat,g3▸eG.size,λt=>(g4 t).den (eG.den t),eG.defers,eG.ao,eG.jF,eG.kept⟩⟩) ops.size _ es s.tmps s.look ρ a w bB (by simp) abL ?_ (λi o _ hi=>by rw[getD_eq_getD_getElem?,Array.getElem?_replicate]at hi;split at hi<;>simp at hi) hr.toF g2;intro i hi;have:i∈es.map El.i:=by rw[g5];simp[List.mem_range'];omega
 obtain⟨e,he,rfl⟩:=mem_map.1 this;simp only[getD_eq_getD_getElem?,Array.getElem?_replicate,hi,if_true,getD_some,true_iff];exact⟨e,he,rfl⟩
end
section
variable{ρ aL:Nat->Value}{H H':aS}{G O O':Nat->Prop}{w w':World}{P:Program}{S:fG}{Z:bh}{X:Ctx}{s:St}{a:Act}{K:List ak->AV->Prop}{C:bP->Prop}{ops:Array Oper}
structure kq (n:Nat) (rest:List Value) (Ds:List Nat) (a t:Act):Prop where
 sl:∃v0,a.tmps.toList=v0++rest/\t.tmps=v0.toArray/\v0.length=n
 df:t.defers=a.defers++Ds.map qv
theorem kq.get{n:Nat}{rest:List Value}{Ds:List Nat}{a t:Act}(h:kq n rest Ds a t){j:Nat}(hj:rest=[]\/j<n):t.tmps[j]? =a.tmps[j]? :=by
 have⟨v0,h1,h2,h3⟩:=h.sl;have e:a.tmps[j]? =(v0++rest)[j]? :=by rw[<-h1,Array.getElem?_toList]
 rw[e,h2,List.getElem?_toArray];rcases hj with rfl|hj;rw[append_nil];rw[getElem?_append_left (by omega)]
theorem kq.eval{n:Nat}{rest:List Value}{Ds:List Nat}{a t:Act}(h:kq n rest Ds a t){x:Operand}(hx:rest=[]\/∀j,x=.tmp j->j<n):t.eval x=a.eval x:=by
 cases x with
 |tmp j=>
  show t.tmps.getD j undef=a.tmps.getD j undef;rw[getD_eq_getD_getElem?,getD_eq_getD_getElem?,h.get (hx.imp id λg=>g j rfl)]
 |const v=>rfl|global g=>rfl|func f=>rfl
theorem kq.put{n:Nat}{rest:List Value}{Ds:List Nat}{a t:Act}(h:kq n rest Ds a t){dst:Option Tmp}(hd:rest=[]\/∀d,dst=some d->d<n)(v:Value):kq n rest Ds (a.put dst v) (t.put dst v):=by
 cases dst with
 |none=>exact h|some d=>
  have⟨v0,h1,h2,h3⟩:=h.sl;refine⟨⟨v0.set d v, ?_, ?_,by simp[h3]⟩,h.df⟩;show(a.tmps.setIfInBounds d v).toList=_;rw[Array.toList_setIfInBounds,h1];rcases hd with rfl|hd;simp;rw[List.set_append_left _ _ (h3▸hd d rfl)];show t.tmps.setIfInBounds d v=_;rw[h2];simp
theorem ahE{R:Value->World->Prop}{i:Nat}{rest:List Nat}{o:Oper}(ho:ops[i]? =some o)(hw:Region.wanted o (yielded ops a.tmps)=true)(iq:∀c,o.op≠.defer c)(h:Yields P o a.eval w R)(b:Frame)(k:List Item)(cs:List Frame):
 ∃v w',R v w'/\Steps P (lone (b.atR a (.inRegion ops (i::rest)::k)) cs w) (lone (b.atR (a.put o.dst v) (.inRegion ops rest::k)) cs w'):=by
 have hg:=stepGR_op (P:=P) (b:=b) (k:=k) (cs:=cs) (w:=w) (rest:=rest) ho hw;rw[Oper.semAt_eq _ _ _ iq]at hg
 have ug:∀v,(b.atR a (.inRegion ops (i::rest)::k)).finish v=b.atR (a.put o.dst v) (.inRegion ops rest::k):=by
  intro v;rw[Frame.finish_atR,ho];rfl
 unfold Yields at h;split at h;rename_i v w' hr;refine⟨v,w',h,.one (step_lone_go ?_)⟩;rw[hg,<-ug];simp[stepG.apply,hr];rename_i w' hr;refine⟨undef,w',h,.one (step_lone_go ?_)⟩;rw[hg,<-ug];simp[stepG.apply,hr];rename_i f args w' hr;obtain⟨e,w2,fr,⟨v,rfl,hv⟩,h2,h3,h4⟩:=h (b.atR a (.inRegion ops (i::rest)::k)::cs);have fW:step P (lone (b.atR a (.inRegion ops (i::rest)::k)) cs w)=
  .next (lone (Frame.enter P f args .normal) (b.atR a (.inRegion ops (i::rest)::k)::cs) w'):=
  step_lone_go (by rw[hg];simp[stepG.apply,hr,Frame.atR])
 refine⟨v,w2,hv,.head fW (Steps.trans h2 (.one ?_))⟩;rw[<-ug];exact step_leave_returned h4;exact h.elim
theorem abM{i:Nat}{rest:List Nat}{o:Oper}(ho:ops[i]? =some o)(hw:Region.wanted o (yielded ops a.tmps)=false)(b:Frame)(k:List Item)(cs:List Frame):
 step P (lone (b.atR a (.inRegion ops (i::rest)::k)) cs w)=.next (lone (b.atR (a.put o.dst undef) (.inRegion ops rest::k)) cs w):=by
 have:=stepR_op_skip (P:=P) (b:=b) (a:=a) (k:=k) (cs:=cs) (w:=w) (ops:=ops) (i:=i) (rest:=rest) (by simp[ho];simpa using hw);simpa[ho]using this
theorem alQ{i:Nat}{rest:List Nat}{o:Oper}(ho:ops[i]? =some o)(hw:Region.wanted o (yielded ops a.tmps)=true)(iq:∀c,o.op≠.defer c){f:FuncId}{args:Array Value}(h:(execOp a.eval o).run P w=.ok (.enter f args) w')(b:Frame)(k:List Item)(cs:List Frame):
 step P (lone (b.atR a (.inRegion ops (i::rest)::k)) cs w)=.next (lone (Frame.enter P f args .normal) (b.atR a (.inRegion ops (i::rest)::k)::cs) w'):=by
 have hg:=stepGR_op (P:=P) (b:=b) (k:=k) (cs:=cs) (w:=w) (rest:=rest) ho hw;rw[Oper.semAt_eq _ _ _ iq]at hg;exact step_lone_go (by rw[hg];simp[stepG.apply,h,Frame.atR])
theorem alR{i:Nat}{rest:List Nat}{o:Oper}(ho:ops[i]? =some o)(hw:Region.wanted o (yielded ops a.tmps)=true)(iq:∀c,o.op≠.defer c){l:Nat}{f:FuncId}{tmps:Array Value}{asg body:Code}(h:(execOp a.eval o).run P w=.ok (.round l f tmps asg body) w')(b:Frame)(k:List Item)(cs:List Frame):
 step P (lone (b.atR a (.inRegion ops (i::rest)::k)) cs w)=.next (lone (Frame.round l f tmps asg body .normal) (b.atR a (.inRegion ops (i::rest)::k)::cs) w'):=by
 have hg:=stepGR_op (P:=P) (b:=b) (k:=k) (cs:=cs) (w:=w) (rest:=rest) ho hw;rw[Oper.semAt_eq _ _ _ iq]at hg;exact step_lone_go (by rw[hg];simp[stepG.apply,h])
theorem oX(h:iG ops=true){i:Nat}{o:Oper}(ho:ops[i]? =some o):∀c,o.op≠.defer c:=by
 intro c hc;simp only[iG,all_eq_true]at h;have:=h o (by rw[<-Array.getElem?_toList]at ho;exact List.mem_of_getElem? ho);rw[hc]at this;cases this
theorem hM{Q:Exit->Act->World->Prop}(iq:iG ops=true)(hQ:∀e a w,Q e a w->e=.normal):∀(l:List Nat) (a:Act) (w:World),wpOps P ops Q l a w->∀(b:Frame) (k:List Item) (cs:List Frame),
 ∃a' w',Q .normal a' w'/\Steps P (lone (b.atR a (.inRegion ops l::k)) cs w) (lone (b.atR a' k) cs w')
 |[],a,w,h,b,k,cs=>⟨a,w,h,.one stepR_region_end⟩|i::rest,a,w,h,b,k,cs=>by
  simp only[wpOps]at h;split at h;rename_i ho;have⟨a',w',h1,h2⟩:=hM iq hQ rest a w h b k cs;have hs:=stepR_op_skip (P:=P) (b:=b) (a:=a) (k:=k) (cs:=cs) (w:=w) (ops:=ops) (i:=i) (rest:=rest) (by simp[ho]);simp only[ho,Option.bind_none,Act.put]at hs;exact⟨a',w',h1,.head hs h2⟩;rename_i o ho;by_cases hw:Region.wanted o (yielded ops a.tmps)=true;rw[if_pos hw]at h;rcases h with h|⟨_,a0,w0,hq⟩;unfold Oper.wp Oper.upon at h;have hg:=stepGR_op (P:=P) (b:=b) (k:=k) (cs:=cs) (w:=w) (rest:=rest) ho hw;rw[Oper.semAt_eq _ _ _ (oX iq ho)]at hg
  have ug:∀v,(b.atR a (.inRegion ops (i::rest)::k)).finish v=b.atR (a.put o.dst v) (.inRegion ops rest::k):=by
   intro v;rw[Frame.finish_atR,ho];rfl
  split at h;rename_i v w' hr;have⟨a',w2,h1,h2⟩:=hM iq hQ rest _ _ h b k cs;refine⟨a',w2,h1,.head (step_lone_go ?_) h2⟩;rw[hg,<-ug];simp[stepG.apply,hr];rename_i w' hr;have⟨a',w2,h1,h2⟩:=hM iq hQ rest _ _ h b k cs;refine⟨a',w2,h1,.head (step_lone_go ?_) h2⟩;rw[hg,<-ug];simp[stepG.apply,hr];rename_i d w' hr;have⟨a',w2,h1,h2⟩:=hM iq hQ rest _ _ h b k cs;refine⟨a',w2,h1,.head (step_lone_go ?_) h2⟩;have:({b.atR a (.inRegion ops (i::rest)::k)with defers:=d::a.defers}:Frame).finish undef=
   b.atR ({a with defers:=d::a.defers}.put o.dst undef) (.inRegion ops rest::k):=by
   have:=Frame.finish_atR b {a with defers:=d::a.defers} ops i rest k undef;rw[ho]at this;exact this
  rw[hg];simp only[stepG.apply,Sem.runT_eq,hr,GStep.bare_after];exact congrArg (λfr=>GStep.go {frame:=fr,callers:=cs,status:=.running,dying:=none} w') this;rename_i f args w' hr;have⟨e,w2,fr,hR,kY,hfn,qZ⟩:=h (b.atR a (.inRegion ops (i::rest)::k)::cs);have fW:step P (lone (b.atR a (.inRegion ops (i::rest)::k)) cs w)=
   .next (lone (Frame.enter P f args .normal) (b.atR a (.inRegion ops (i::rest)::k)::cs) w'):=
   step_lone_go (by rw[hg];simp[stepG.apply,hr,Frame.atR])
  cases e with
  |returned v=>
   have⟨a',w3,h1,h2⟩:=hM iq hQ rest _ _ hR b k cs;refine⟨a',w3,h1,.head fW (Steps.trans kY (.head ?_ h2))⟩;rw[<-ug];exact step_leave_returned qZ
  |panicked chain=>cases hQ _ _ _ hR
  |outgrown=>
   have⟨a0,w0,hq⟩:=hR;cases hQ _ _ _ hq
  rename_i row args w' hr;have⟨v,w2,hR,kY⟩:=h (b.atR a (.inRegion ops (i::rest)::k)) cs;have fW:step P (lone (b.atR a (.inRegion ops (i::rest)::k)) cs w)=
   .next (lone (Frame.ofRow P row args .normal) (b.atR a (.inRegion ops (i::rest)::k)::cs) w'):=
   step_lone_go (by rw[hg];simp[stepG.apply,hr,Frame.atR])
  have⟨a',w3,h1,h2⟩:=hM iq hQ rest _ _ hR b k cs;refine⟨a',w3,h1,.head fW (Steps.trans kY ?_)⟩;rw[ug];exact h2;cases hQ _ _ _ h;exact h.elim;cases hQ _ _ _ hq;rw[if_neg hw]at h;have⟨a',w',h1,h2⟩:=hM iq hQ rest _ _ h b k cs;exact⟨a',w',h1,.head (abM ho (by simpa using hw) b k cs) h2⟩
theorem fX{more:List Nat}{Q:Exit->Act->World->Prop}(iq:iG ops=true)(hQ:∀e a w,Q e a w->e=.normal):∀(l:List Nat) (a:Act) (w:World),wpOps P ops Q l a w->∀(b:Frame) (k:List Item) (cs:List Frame),
 ∃a' w',Q .normal a' w'/\Steps P (lone (b.atR a (.inRegion ops (l++more)::k)) cs w) (lone (b.atR a' (.inRegion ops more::k)) cs w')
 |[],a,w,h,b,k,cs=>⟨a,w,h,⟨0,rfl⟩⟩|i::rest,a,w,h,b,k,cs=>by
  rw[cons_append];simp only[wpOps]at h;split at h;rename_i ho;have⟨a',w',h1,h2⟩:=fX (more:=more) iq hQ rest a w h b k cs;have hs:=stepR_op_skip (P:=P) (b:=b) (a:=a) (k:=k) (cs:=cs) (w:=w) (ops:=ops) (i:=i) (rest:=rest++more) (by simp[ho]);simp only[ho,Option.bind_none,Act.put]at hs;exact⟨a',w',h1,.head hs h2⟩;rename_i o ho;by_cases hw:Region.wanted o (yielded ops a.tmps)=true;rw[if_pos hw]at h;rcases h with h|⟨_,a0,w0,hq⟩;unfold Oper.wp Oper.upon at h;have hg:=stepGR_op (P:=P) (b:=b) (k:=k) (cs:=cs) (w:=w) (rest:=rest++more) ho hw;rw[Oper.semAt_eq _ _ _ (oX iq ho)]at hg
  have ug:∀v,(b.atR a (.inRegion ops (i::(rest++more))::k)).finish v=b.atR (a.put o.dst v) (.inRegion ops (rest++more)::k):=by
   intro v;rw[Frame.finish_atR,ho];rfl
  split at h;rename_i v w' hr;have⟨a',w2,h1,h2⟩:=fX (more:=more) iq hQ rest _ _ h b k cs;refine⟨a',w2,h1,.head (step_lone_go ?_) h2⟩;rw[hg,<-ug];simp[stepG.apply,hr];rename_i w' hr;have⟨a',w2,h1,h2⟩:=fX (more:=more) iq hQ rest _ _ h b k cs;refine⟨a',w2,h1,.head (step_lone_go ?_) h2⟩;rw[hg,<-ug];simp[stepG.apply,hr];rename_i d w' hr;have⟨a',w2,h1,h2⟩:=fX (more:=more) iq hQ rest _ _ h b k cs;refine⟨a',w2,h1,.head (step_lone_go ?_) h2⟩;have:({b.atR a (.inRegion ops (i::(rest++more))::k)with defers:=d::a.defers}:Frame).finish undef=
   b.atR ({a with defers:=d::a.defers}.put o.dst undef) (.inRegion ops (rest++more)::k):=by
   have:=Frame.finish_atR b {a with defers:=d::a.defers} ops i (rest++more) k undef;rw[ho]at this;exact this
  rw[hg];simp only[stepG.apply,Sem.runT_eq,hr,GStep.bare_after];exact congrArg (λfr=>GStep.go {frame:=fr,callers:=cs,status:=.running,dying:=none} w') this;rename_i f args w' hr;have⟨e,w2,fr,hR,kY,hfn,qZ⟩:=h (b.atR a (.inRegion ops (i::(rest++more))::k)::cs);have fW:step P (lone (b.atR a (.inRegion ops (i::(rest++more))::k)) cs w)=
   .next (lone (Frame.enter P f args .normal) (b.atR a (.inRegion ops (i::(rest++more))::k)::cs) w'):=
   step_lone_go (by rw[hg];simp[stepG.apply,hr,Frame.atR])
  cases e with
  |returned v=>
   have⟨a',w3,h1,h2⟩:=fX (more:=more) iq hQ rest _ _ hR b k cs;refine⟨a',w3,h1,.head fW (Steps.trans kY (.head ?_ h2))⟩;rw[<-ug];exact step_leave_returned qZ
  |panicked chain=>cases hQ _ _ _ hR
  |outgrown=>
   have⟨a0,w0,hq⟩:=hR;cases hQ _ _ _ hq
  rename_i row args w' hr;have⟨v,w2,hR,kY⟩:=h (b.atR a (.inRegion ops (i::(rest++more))::k)) cs;have fW:step P (lone (b.atR a (.inRegion ops (i::(rest++more))::k)) cs w)=
   .next (lone (Frame.ofRow P row args .normal) (b.atR a (.inRegion ops (i::(rest++more))::k)::cs) w'):=
   step_lone_go (by rw[hg];simp[stepG.apply,hr,Frame.atR])
  have⟨a',w3,h1,h2⟩:=fX (more:=more) iq hQ rest _ _ hR b k cs;refine⟨a',w3,h1,.head fW (Steps.trans kY ?_)⟩;rw[ug];exact h2;cases hQ _ _ _ h;exact h.elim;cases hQ _ _ _ hq;rw[if_neg hw]at h;have⟨a',w',h1,h2⟩:=fX (more:=more) iq hQ rest _ _ h b k cs;exact⟨a',w',h1,.head (abM ho (by simpa using hw) b k cs) h2⟩
def r5(n:Nat)(rest:List Value)(ops:Array Oper):Prop:=rest=[]\/lV n ops=true
theorem r5.op{n:Nat}{rest:List Value}(h:r5 n rest ops){i:Nat}{o:Oper}(ho:ops[i]? =some o):rest=[]\/((∀t∈o.looksAt ops,t<n)/\(∀d,o.dst=some d->d<n)/\∀cs b,o.op≠.select cs b):=by
 refine h.imp id λh=> ?_;simp only[lV,all_eq_true]at h;have:=h o (by rw[<-Array.getElem?_toList]at ho;exact List.mem_of_getElem? ho);simp only[ahx,and_eq_true,all_eq_true]at this;have⟨⟨h1,h2⟩,h3⟩:=this;refine⟨λt ht=>by have:=h1 t ht;simpa[Nat.blt,Nat.lt_iff_add_one_le]using this,λd hd=>by rw[hd]at h2;simpa[Nat.blt,Nat.lt_iff_add_one_le]using h2,λcs b hc=>by rw[hc]at h3;cases h3⟩
theorem kq.same{n:Nat}{rest:List Value}{Ds:List Nat}{a t:Act}(h:kq n rest Ds a t)(cO:r5 n rest ops){i:Nat}{o:Oper}(ho:ops[i]? =some o):
 execOp t.eval o=execOp a.eval o/\Region.wanted o (yielded ops t.tmps)=Region.wanted o (yielded ops a.tmps):=by
 rcases cO.op ho with hr|⟨h1,h2,h3⟩
 have e:t.tmps=a.tmps:=by
  have⟨v0,k1,k2,_⟩:=h.sl;rw[hr,append_nil]at k1;rw[k2,<-k1]
 have ee:t.eval=a.eval:=funext λx=>by cases x<;>simp[Act.eval,e]
 rw[ee,e];exact⟨rfl,rfl⟩;refine⟨execOp_congr o h3 λx hx=>h.eval (.inr λj hj=>h1 j ?_), ?_⟩;subst hj;simp only[Oper.looksAt,mem_append,List.mem_filterMap];exact .inl ⟨.tmp j,by simpa using hx,rfl⟩;unfold Region.wanted;cases hg:o.guard with
 |none=>rfl|some g=>
  have⟨g,b⟩:=g;simp only[];congr 1;unfold yielded;cases hd:(ops[g]?).bind (·.dst)with
  |none=>rfl|some d=>
   have:t.tmps[d]? =a.tmps[d]? :=h.get (.inr (h1 d (by simp[Oper.looksAt,hg,hd])));simp only[Option.bind_some,this]
theorem hY{n:Nat}{rest:List Value}{Ds:List Nat}{Q:Exit->Act->World->Prop}(cO:r5 n rest ops)(hQ:∀e a w,Q e a w->e=.normal):∀(l:List Nat) (a t:Act) (w:World),kq n rest Ds a t->wpOps P ops Q l a w->
 wpOps P ops (λe t' w'=>e=.normal/\∃a',Q .normal a' w'/\kq n rest Ds a' t') l t w
 |[],a,t,w,ht,h=>⟨rfl,a,h,ht⟩|i::l,a,t,w,ht,h=>by
  simp only[wpOps]at h ⊢;split at h;rename_i ho;exact hY cO hQ l a t w ht h;rename_i o ho;have⟨e1,e2⟩:=ht.same cO ho;have lK:rest=[]\/∀d,o.dst=some d->d<n:=(cO.op ho).imp id (·.2.1);rw[e2];split at h;rename_i hw;rw[if_pos hw];rcases h with h|⟨_,a0,w0,hq⟩;refine .inl ?_;unfold Oper.wp at *;rw[e1];generalize (execOp a.eval o).run P w=r at *;cases r with
  |ok x w'=>
   cases x<;>simp only[Oper.upon]at h ⊢ <;>first
    |exact hY cO hQ l _ _ _ (ht.put lK _) h|exact hY cO hQ l _ _ _ (kq.put (a:={a with defers:=_::a.defers}) (t:={t with defers:=_::t.defers}) ⟨ht.sl,by simp[ht.df]⟩ lK _) h
    |exact Calls.mono h (λe w'' he=>by
     cases e<;>first
      |exact hY cO hQ l _ _ _ (ht.put lK _) he|(exact(by cases hQ _ _ _ he))
      |(have⟨a0,w0,h2⟩:=he;exact(by cases hQ _ _ _ h2)))
    |exact Rows.mono h (λ_ _ he=>hY cO hQ l _ _ _ (ht.put lK _) he)
  |halt x w'=>cases x<;>simp only[Oper.upon]at h ⊢ <;>exact(by cases hQ _ _ _ h)
  cases hQ _ _ _ hq;rename_i hw;rw[if_neg hw];exact hY cO hQ l _ _ _ (ht.put lK _) h
end
section
variable{ρ aL:Nat->Value}{H H':aS}{G G' O O' O2:Nat->Prop}{w w':World}{P:Program}{S:fG}{Z:bh}{X:Ctx}{s:St}{a:Act}{K:List ak->AV->Prop}{C:bP->Prop}{ops:Array Oper}{E E':List (Nat×Obj)}
theorem Step.src(h:Step ρ H O w aL H' O' w')(k:∀b,O b->O2 b):Step ρ H O2 w aL H' O' w':=
 ⟨h.wR,h.keep,λb hb=>(h.gq b hb).imp (k b) id,λb hb ho=>h.heap b hb (λh1=>ho (k b h1)),h.size⟩
theorem Kept.sub(h:Kept (X.at G E) w)(hs:∀y∈E',y∈E):Kept (X.at G E') w:=λy hy=>h y (hs y hy)
theorem cg.sub(h:cg (X.at G E) ρ s a w)(hs:∀y∈E',y∈E):cg (X.at G E') ρ s a w:=⟨h.sat,h.size,h.den,h.defers,h.ao,h.jF,h.kept.sub hs⟩
theorem cg.apL(h:cg (X.at G E) ρ s a w){D:Nat}{o o':Obj}(hx:(D,o)∈E)(hE:∀y∈E',(y∈E/\y.1≠D)\/y=(D,o')):cg (X.at G E') ρ s a (w.putObj D o'):=by
 have⟨hG,hle,hh⟩:=h.kept _ hx;have hs:=h.sat;have bo:D<w.heap.size:=(Array.getElem?_eq_some_iff.1 hh).1
 have st:Step ρ s.look (aV ρ s.look G) w ρ s.look (aV ρ s.look G) (w.putObj D o'):=
  ⟨λ_ _ _=>rfl,λ_ o h=>⟨o,h,λc' e' e=>⟨c',e',e,rfl,rfl⟩⟩,λ_ h=>.inl h,λb hb hO=>World.putObj_heap_other (λe=>hO (.inr (e▸hG))),by simp⟩
 have ei:∀b,Own ρ s.look b->(w.putObj D o').heap[b]? =w.heap[b]? :=λb hb=>World.putObj_heap_other (λe=>hs.apart b hb (e▸hG));refine⟨⟨λid o ho=>(hs.obj id o ho).step st (λb ha hb=>ei b ⟨id,o,ho,ha,hb⟩),hs.inj,hs.apart,λb hb=>by rw[World.putObj_size];exact hs.low b hb⟩,h.size,λt=>af.step st _ _ (h.den t),h.defers,h.ao.trans st,⟨h.jF.os,h.jF.tape,h.jF.output,λb hb hO=> ?_⟩,λy hy=> ?_⟩;rw[World.putObj_heap_other (by have:X.w.heap.size<=D:=hle;have:b<X.w.heap.size:=hb;omega)];exact h.jF.heap b hb hO;rcases hE y hy with⟨h1,h2⟩|rfl;have⟨k1,k2,k3⟩:=h.kept y h1;exact⟨k1,k2,by rw[World.putObj_heap_other h2];exact k3⟩;exact⟨hG,hle,World.putObj_heap_same bo⟩
def q7(ρ:Nat->Value)(n:Nat)(u:Value):Nat->Value:=λj=>if j=n then u else ρ j
theorem cg.grow(h:cg (X.at G E) ρ s a w)(o:Obj)(u:Value):
 cg (X.at (λb=>G b\/b=w.heap.size) ((w.heap.size,o)::E)) (q7 ρ s.H.length u) ⟨s.tmps,s.H++[.aw]⟩ a (w.alloc o)/\
 Step ρ s.look (aV ρ s.look G) w (q7 ρ s.H.length u) (St.look ⟨s.tmps,s.H++[.aw]⟩) (aV (q7 ρ s.H.length u) (St.look ⟨s.tmps,s.H++[.aw]⟩) (λb=>G b\/b=w.heap.size)) (w.alloc o):=by
 have hs:=h.sat
 have old:∀{id:Nat} {o:ak},(s.H++[.aw])[id]? =some o->(id=s.H.length/\o=.aw)\/(id≠s.H.length/\s.look id=some o):=by
  intro id o ho;have h2:=(List.getElem?_eq_some_iff.1 ho).1;simp only[length_append,length_cons,length_nil]at h2;by_cases dq:id=s.H.length;subst dq;simp at ho;exact .inl ⟨rfl,ho.symm⟩;refine .inr ⟨dq, ?_⟩;rwa[getElem?_append_left (by omega)]at ho
 have bo:∀{id:Nat} {o:ak},s.look id=some o->id<s.H.length:=λh=>(List.getElem?_eq_some_iff.1 h).1
 have ei:∀b,Own (q7 ρ s.H.length u) (St.look ⟨s.tmps,s.H++[.aw]⟩) b->Own ρ s.look b:=by
  rintro b ⟨id,o,ho,ha,hb⟩;rcases old ho with⟨_,rfl⟩|⟨h1,h2⟩;cases ha;rw[q7,if_neg h1]at hb;exact⟨id,o,h2,ha,hb⟩
 have st:Step ρ s.look (aV ρ s.look G) w (q7 ρ s.H.length u) (St.look ⟨s.tmps,s.H++[.aw]⟩) (aV (q7 ρ s.H.length u) (St.look ⟨s.tmps,s.H++[.aw]⟩) (λb=>G b\/b=w.heap.size)) (w.alloc o):=by
  refine⟨λid o ho=> ?_,λid o ho=> ?_,λb hb=> ?_,λb hb _=>alloc_old hb,by rw[fU];omega⟩;have:=bo ho;rw[q7,if_neg (by omega)];have h1:=bo ho;exact⟨o,by show(s.H++[.aw])[id]? =_;rw[getElem?_append_left h1];exact ho,λc' e' hc=>⟨c',e',hc,rfl,rfl⟩⟩;rcases hb with hb|hb|hb;exact .inl (.inl (ei b hb));exact .inl (.inr hb);exact .inr (by omega)
 have hle:X.w.heap.size<=w.heap.size:=h.ao.size;refine⟨?_,st⟩;refine⟨⟨λid o' ho=> ?_,λi j oi oj b hi hj ai aj bi bj=> ?_,λb hb hg=> ?_,λb hb=> ?_⟩,h.size,λt=>af.step st _ _ (h.den t),h.defers,(h.ao.trans st).src (λb hb=>hb.imp id .inl),⟨h.jF.os,h.jF.tape,h.jF.output,λb hb hO=> ?_⟩,λy hy=> ?_⟩;rcases old ho with⟨_,rfl⟩|⟨h1,h2⟩;trivial;rw[q7,if_neg h1];exact(hs.obj id o' h2).step st (λb ha hb=>alloc_old (gQ hs ⟨id,o',h2,ha,hb⟩));rcases old hi with⟨_,rfl⟩|⟨h1,h2⟩;cases ai;rcases old hj with⟨_,rfl⟩|⟨h3,h4⟩;cases aj;rw[q7,if_neg h1]at bi;rw[q7,if_neg h3]at bj;exact hs.inj i j oi oj b h2 h4 ai aj bi bj;rcases hg with hg|hg;exact hs.apart b (ei b hb) hg;have:=gQ hs (ei b hb);omega;rw[fU];rcases hb with hb|hb;have:=hs.low b hb;omega;omega;rw[alloc_old (show b<w.heap.size from Nat.lt_of_lt_of_le hb hle)];exact h.jF.heap b hb hO;rcases mem_cons.1 hy with rfl|hy;exact⟨.inr rfl,hle,kC⟩;have⟨k1,k2,k3⟩:=h.kept y hy;exact⟨.inl k1,k2,by rw[alloc_old (Array.getElem?_eq_some_iff.1 k3).1];exact k3⟩
theorem kp.at6{L:List ak}{tmps:List AV}{r:AV}{v:Value}(gL:∀b,X.G b->G b)(hZ:∀b,G b->X.G b\/X.w.heap.size<=b)(hr:cg (X.at G E) ρ ⟨tmps,L⟩ a w)
 (hv:af ρ (λid=>L[id]?) (aV ρ (λid=>L[id]?) G) w r v) (hK:K L r):kp X K (.returned v) w:=by
 have hs:Sat ρ (λid=>L[id]?) G w:=hr.sat;have hf:Step X.ρ X.H (aV X.ρ X.H G) X.w ρ (λid=>L[id]?) (aV ρ (λid=>L[id]?) G) w:=hr.ao;have less:∀b,aV ρ (λid=>L[id]?) X.G b->aV ρ (λid=>L[id]?) G b:=λb hb=>hb.imp id (gL b);refine⟨v,rfl,L,r,hK,ρ,⟨λid o ho=> ?_,hs.inj,λb hb hg=>hs.apart b hb (gL b hg),λb hb=>hs.low b (gL b hb)⟩, ?_, ?_,hr.jF⟩
 have st:Step ρ (λid=>L[id]?) (aV ρ (λid=>L[id]?) G) w ρ (λid=>L[id]?) (aV ρ (λid=>L[id]?) X.G) w:=
  ⟨λ_ _ _=>rfl,λ_ o h=>⟨o,h,λc' e' e=>⟨c',e',e,rfl,rfl⟩⟩,λb h=>.inl (less b h),λ_ _ _=>rfl,le_refl _⟩
 exact(hs.obj id o ho).step st (λ_ _ _=>rfl)
 have st:Step ρ (λid=>L[id]?) (aV ρ (λid=>L[id]?) G) w ρ (λid=>L[id]?) (aV ρ (λid=>L[id]?) X.G) w:=
  ⟨λ_ _ _=>rfl,λ_ o h=>⟨o,h,λc' e' e=>⟨c',e',e,rfl,rfl⟩⟩,λb h=>.inl (less b h),λ_ _ _=>rfl,le_refl _⟩
 exact hv.step st;refine⟨hf.wR,hf.keep,λb hb=> ?_,λb hb hO=>hr.jF.heap b hb (λho=>hO (.inl ho)),hf.size⟩;rcases hf.gq b (less b hb)with(h1|h1)|h1;exact .inl (.inl h1);rcases hZ b h1 with h2|h2;exact .inl (.inr h2);exact .inr h2;exact .inr h1
theorem adk{fr:Frame}{cs:List Frame}{D:Nat}{Ds:List Deferred}(hm:fr.mode=.returning)(hd:fr.defers=qv D::Ds)(h:w.heap[D]? =some (.deferred (some []))):
 step P (lone fr cs w)=.next (lone {fr with defers:=Ds} cs (w.putObj D (.deferred none))):=by
 have hr:=run_takeDeferred (P:=P) h;exact step_lone_go (by simp[stepG,unwind,hm,hd,qv,Sem.runT_eq,hr,GStep.bare_after])
theorem xy:∀(Ds:List Nat) {ρ:Nat->Value} {E2:List (Nat×Obj)} {a:Act} {w:World} {fr:Frame},((Ds.map (λD=>(D,Obj.deferred (some [])))++E2).map (·.1)).Nodup->
 cg (X.at G (Ds.map (λD=>(D,Obj.deferred (some [])))++E2)) ρ s a w->fr.mode=.returning->fr.defers=Ds.map qv->
 ∃w',cg (X.at G E2) ρ s a w'/\∀cs,Steps P (lone fr cs w) (lone {fr with defers:=[]} cs w')
 |[],ρ,E2,a,w,fr,hn,hr,hm,hd=>⟨w,hr,λcs=>by
    have:fr={fr with defers:=[]}:=by cases fr;simp only[map_nil]at hd;subst hd;rfl
    rw[<-this];exact .refl _ _⟩
 |D::Ds,ρ,E2,a,w,fr,hn,hr,hm,hd=>by
  simp only[map_cons,cons_append,List.nodup_cons]at hn;have ko:(D,Obj.deferred (some []))∈((D::Ds).map (λD=>(D,Obj.deferred (some [])))++E2):=by simp
  have hh:=(hr.kept _ ko).2.2
  have eG:cg (X.at G (Ds.map (λD=>(D,Obj.deferred (some [])))++E2)) ρ s a (w.putObj D (.deferred none)):=by
   refine hr.apL ko (λy hy=>.inl ⟨by simp only[map_cons,cons_append,mem_cons];exact .inr hy,λe=>hn.1 (e▸List.mem_map_of_mem (f:=Prod.fst) hy)⟩)
  have⟨w',h1,h2⟩:=xy Ds (fr:={fr with defers:=Ds.map qv}) hn.2 eG hm rfl;exact⟨w',h1,λcs=>.head (adk hm hd hh) (h2 cs)⟩
def upE(l:Nat)(o:Obj)(E:List (Nat×Obj)):List (Nat×Obj):=E.map λx=>if x.1=l then(l,o)else x
theorem adl(l:Nat)(o:Obj)(E:List (Nat×Obj)):(upE l o E).map (·.1)=E.map (·.1):=by
 rw[upE,List.map_map];refine List.map_congr_left λx _=> ?_;simp only[Function.comp];split;rename_i h;exact h.symm;rfl
theorem r6{l:Nat}{o:Obj}{E:List (Nat×Obj)}(h:l ∉ E.map (·.1)):upE l o E=E:=by
 rw[upE,show E=E.map id from(List.map_id _).symm,List.map_map];refine List.map_congr_left λx hx=> ?_;simp only[Function.comp,id];rw[if_neg];rintro rfl;exact h (List.mem_map_of_mem hx)
theorem ahF{l:Nat}{o:Obj}{E:List (Nat×Obj)}:∀y∈upE l o E,(y∈E/\y.1≠l)\/y=(l,o):=by
 intro y hy;simp only[upE,mem_map]at hy;obtain⟨x,hx,rfl⟩:=hy;split;exact .inr rfl;rename_i cP;exact .inl ⟨hx,cP⟩
theorem nn(l:Nat)(o:Obj)(E F:List (Nat×Obj)):upE l o (E++F)=upE l o E++upE l o F:=map_append
theorem WfS.len{f0:FuncId}:∀{ds:List tB} {vs:List Value} {E:List (Nat×Obj)} {fs:List Frame},WfS f0 ds vs E fs->vs.length=ahu ds
 |[],vs,E,fs,h=>by rw[h.1];rfl
 |d::ds,vs,E,fs,h=>by
  obtain⟨v0,rv,v2,Ds,E1,E2,b,a,fs2,lv,lE,todo,rfl,rfl,rfl,h1,h2,h3,h4,h5⟩:=h
  have zA:rv.length=gZ d.round:=by
   have⟨r,_,h6⟩:=h3.fr;cases hd:d.round<;>rw[hd]at h6<;>simp only[]at h6;rw[h6.1];rfl;obtain⟨l,rfl,_⟩:=h6;rfl
  have hlv:lv.length=gZ d.lp.isSome:=by
   cases hd:d.lp<;>rw[hd]at h5<;>simp only[]at h5;rw[h5.1];rfl;obtain⟨l,D,rfl,_⟩:=h5;rfl
  simp only[length_append,length_map,ahu,tB.size,h4.len,zA,hlv,h1,h2];omega
theorem xz{l l':Nat}(h:ct l=ct l'):l=l':=by
 simp only[ct,Value.func.injEq,Fn.yield.injEq]at h;exact h.1
theorem pO{f0:FuncId}{id:Nat}{d:tB}{L:Lp}{st:mI}{cR:List AV}:∀{ds:List tB} {aP:List AV} {vs:List Value} {E:List (Nat×Obj)} {fs:List Frame},
 kW id ds aP=some (d,L,st,cR)->WfS f0 ds vs E fs->(E.map (·.1)).Nodup->(∀t,af ρ H O w (aP.getD t (.s .aY)) (vs.getD t undef))->
 ∃(l D:Nat) (v0:List Value),ρ id=ct l/\v0.length=d.n/\(l,Obj.loop (st.gv L (d.f.getD f0) v0.toArray D))∈E/\(∀t,t<d.n->af ρ H O w (cR.getD t (.s .aY)) (v0.getD t undef))/\(aP.length=vs.length->cR.length=d.n)/\
  ∀rD,WfS f0 (jE id rD ds aP) vs (upE l (Obj.loop (rD.gv L (d.f.getD f0) v0.toArray D)) E) fs
 |[],aP,vs,E,fs,h,_,_,_=>by simp[kW]at h
 |e::ds,aP,vs,E,fs,h,hw,hn,hd=>by
  have hw0:=hw;obtain⟨v0,rv,v2,Ds,E1,E2,b,a,fs2,lv,lE,todo,rfl,rfl,rfl,h1,h2,h3,h4,h5⟩:=hw
  have zA:rv.length=gZ e.round:=by
   have⟨r,_,h6⟩:=h3.fr;cases hd:e.round<;>rw[hd]at h6<;>simp only[]at h6
   ·rw[h6.1];rfl
   ·obtain⟨l,rfl,_⟩:=h6;rfl
  have hlv:lv.length=gZ e.lp.isSome:=by
   cases hd:e.lp<;>rw[hd]at h5<;>simp only[]at h5
   ·rw[h5.1];rfl
   ·obtain⟨l,D,rfl,_⟩:=h5;rfl
  have awC:∀t,af ρ H O w ((aP.drop e.size).getD t (.s .aY)) (v2.getD t undef):=by
   intro t;have:=hd (e.size+t);have e1:(aP.drop e.size).getD t (.s .aY)=aP.getD (e.size+t) (.s .aY):=by simp[List.getD]
   have e2:(v0++(rv++(Ds.map ej++(lv++v2)))).getD (e.size+t) undef=v2.getD t undef:=by
    rw[show v0++(rv++(Ds.map ej++(lv++v2)))=(v0++(rv++(Ds.map ej++lv)))++v2 from by simp];rw[List.getD,getElem?_append_right (by simp only[length_append,length_map,zA,hlv,h1,h2,tB.size];omega)];rw[show e.size+t - (v0++(rv++(Ds.map ej++lv))).length=t from by simp only[length_append,length_map,zA,hlv,h1,h2,tB.size];omega];rfl
   rw[e1,<-e2];exact this
  have next:(kW id ds (aP.drop e.size)=some (d,L,st,cR))->(∀rD,jE id rD (e::ds) aP=e::jE id rD ds (aP.drop e.size))->
   ∃(l D:Nat) (q8:List Value),ρ id=ct l/\q8.length=d.n/\(l,Obj.loop (st.gv L (d.f.getD f0) q8.toArray D))∈(E1++(lE++E2))/\(∀t,t<d.n->af ρ H O w (cR.getD t (.s .aY)) (q8.getD t undef))/\(aP.length=(v0++(rv++(Ds.map ej++(lv++v2)))).length->cR.length=d.n)/\
    ∀rD,WfS f0 (jE id rD (e::ds) aP) (v0++(rv++(Ds.map ej++(lv++v2)))) (upE l (Obj.loop (rD.gv L (d.f.getD f0) q8.toArray D)) (E1++(lE++E2))) (b.atR a todo::fs2):=by
   intro hf oD
   have tA:(E2.map (·.1)).Nodup:=by
    rw[map_append,map_append]at hn;exact(nodup_append.1 (nodup_append.1 hn).2.1).2.1
   have⟨l,D,q8,g1,g2,g3,g4,g5,g6⟩:=pO hf h4 tA awC;have hl2:l∈E2.map (·.1):=List.mem_map_of_mem (f:=Prod.fst) g3
   have hl1:l ∉ (E1++lE).map (·.1):=by
    intro hm;rw[<-append_assoc,map_append]at hn;exact(nodup_append.1 hn).2.2 l hm l hl2 rfl
   rw[map_append,mem_append,not_or]at hl1;refine⟨l,D,q8,g1,g2,by simp[g3],g4,λhl=>g5 ?_,λrD=> ?_⟩
   ·rw[length_drop,hl];simp only[length_append,length_map,zA,hlv,h1,h2,tB.size];omega
   ·rw[oD,nn,nn,r6 hl1.1,r6 hl1.2];exact⟨v0,rv,v2,Ds,E1,_,b,a,fs2,lv,lE,todo,rfl,rfl,rfl,h1,h2,h3,g6 rD,h5⟩
  unfold kW at h;split at h
  ·rename_i L' st0 hlp;rw[hlp]at h5;obtain⟨l,D,rfl,rfl,rfl⟩:=h5;split at h
   ·rename_i j hj;rw[cond_eq_ite]at h;split at h
    ·rename_i alS;have alS:j=id:=Nat.eq_of_beq_eq_true alS;subst alS;simp only[Option.some.injEq,Prod.mk.injEq]at h;obtain⟨rfl,rfl,rfl,rfl⟩:=h
     have kU:(v0++(rv++(Ds.map ej++([ct l]++v2)))).getD (e.n+gZ e.round+e.marks) undef=ct l:=by
      rw[show v0++(rv++(Ds.map ej++([ct l]++v2)))=(v0++(rv++Ds.map ej))++(ct l::v2)from by simp];rw[List.getD,getElem?_append_right (by simp only[length_append,length_map,zA,h1,h2];omega)];rw[show e.n+gZ e.round+e.marks - (v0++(rv++Ds.map ej)).length=0 from by simp only[length_append,length_map,zA,h1,h2];omega];rfl
     have lL:=hd (e.n+gZ e.round+e.marks);rw[hj,kU]at lL;unfold af aN at lL;refine⟨l,D,v0,lL.1.symm,h1,by simp,λt ht=> ?_,λhl=> ?_,λrD=> ?_⟩
     ·have:=hd t;have e1:(aP.take e.n).getD t (.s .aY)=aP.getD t (.s .aY):=by simp[List.getD,getElem?_take,ht]
      have e2:(v0++(rv++(Ds.map ej++([ct l]++v2)))).getD t undef=v0.getD t undef:=by
       rw[List.getD,getElem?_append_left (by omega)];rfl
      rw[e1,<-e2];exact this
     ·rw[length_take,hl];simp only[length_append,h1];omega
     ·have hs:jE j rD (e::ds) aP={e with lp:=some (L',rD)}::ds:=by
       unfold jE;rw[hlp];simp only[hj,Nat.beq_eq_true_eq,cond_eq_ite,show Nat.beq j j=true from Nat.beq_refl j,if_true]
      rw[hs]
      have hl1:l ∉ E1.map (·.1):=by
       intro hm;rw[map_append]at hn;exact(nodup_append.1 hn).2.2 l hm l (by simp) rfl
      have hl2:l ∉ E2.map (·.1):=by
       intro hm;rw[map_append,map_append]at hn;exact(nodup_append.1 (nodup_append.1 hn).2.1).2.2 l (by simp) l hm rfl
      rw[nn,nn,r6 hl1,r6 hl2,show upE l (Obj.loop (rD.gv L' (e.f.getD f0) v0.toArray D)) [(l,Obj.loop (st0.gv L' (e.f.getD f0) v0.toArray D))]=[(l,Obj.loop (rD.gv L' (e.f.getD f0) v0.toArray D))]from by simp[upE]];exact⟨v0,rv,v2,Ds,E1,E2,b,a,fs2,_,_,_,rfl,rfl,rfl,h1,h2,h3,h4,⟨l,D,rfl,rfl,rfl⟩⟩
    ·rename_i alS;refine next h (λrD=> ?_)
     rw[show jE id rD (e::ds) aP=_ from by unfold jE;rw[hlp]];simp only[hj,cond_eq_ite,if_neg alS]
   ·rename_i hj;refine next h (λrD=> ?_)
    rw[jE,hlp]
    all_goals (try simp only[])
    all_goals (split<;>first|(rename_i j' kj;exact absurd kj (hj j'))|rfl)
  ·rename_i hlp;refine next h (λrD=> ?_)
   rw[show jE id rD (e::ds) aP=_ from by unfold jE;rw[hlp]]
end
section
variable{ρ aL:Nat->Value}{H H':aS}{G G' O O' O2:Nat->Prop}{w w':World}{P:Program}{S:fG}{Z:bh}{X:Ctx}{s:St}{a:Act}{K:List ak->AV->Prop}{C:bP->Prop}{ops:Array Oper}{E E':List (Nat×Obj)}
structure DP (ρ:Nat->Value) (H:aS) (O:Nat->Prop) (w:World) (T:List AV) (vs:List Value):Prop where
 len:T.length=vs.length
 get:∀t,af ρ H O w (T.getD t (.s .aY)) (vs.getD t undef)
theorem adm(x:Array Value)(t:Nat):x.getD t undef=x.toList.getD t undef:=by
 rw[getD_eq_getD_getElem?,List.getD,Array.getElem?_toList]
theorem cg.dp(h:cg X ρ s a w):DP ρ s.look (aV ρ s.look X.G) w s.tmps a.tmps.toList:=
 ⟨by rw[h.size];simp,λt=>by rw[<-adm];exact h.den t⟩
theorem cg.cR(h:cg X ρ s a w){T:List AV}{vs:List Value}(hd:DP ρ s.look (aV ρ s.look X.G) w T vs):cg X ρ ⟨T,s.H⟩ ⟨vs.toArray,[]⟩ w:=
 ⟨h.sat,by simpa using hd.len,λt=>by rw[adm];exact hd.get t,rfl,h.ao,h.jF,h.kept⟩
theorem DP.step{T:List AV}{vs:List Value}(h:DP ρ H O w T vs)(st:Step ρ H O w aL H' O' w'):DP aL H' O' w' T vs:=⟨h.len,λt=>(h.get t).step st⟩
theorem DP.nil:DP ρ H O w [] []:=⟨rfl,λt=>by simp only[List.getD_nil];unfold af;trivial⟩
theorem DP.cons{x:AV}{v:Value}{T:List AV}{vs:List Value}(hx:af ρ H O w x v)(h:DP ρ H O w T vs):DP ρ H O w (x::T) (v::vs):=
 ⟨by simp[h.len],λt=>by
   cases t with
   |zero=>simpa using hx|succ t=>simpa using h.get t⟩
theorem DP.append{T T':List AV}{vs vs':List Value}(h:DP ρ H O w T vs)(h':DP ρ H O w T' vs'):DP ρ H O w (T++T') (vs++vs'):=by
 refine⟨by simp[h.len,h'.len],λt=> ?_⟩;by_cases ht:t<T.length;have:=h.get t;simp only[List.getD]at this ⊢;rwa[getElem?_append_left ht,getElem?_append_left (h.len▸ht)];have:=h'.get (t - T.length);simp only[List.getD]at this ⊢;rwa[getElem?_append_right (by omega),getElem?_append_right (by have:=h.len;omega),<-h.len]
theorem DP.drop{T:List AV}{vs:List Value}(h:DP ρ H O w T vs)(n:Nat):DP ρ H O w (T.drop n) (vs.drop n):=
 ⟨by simp[h.len],λt=>by have:=h.get (n+t);simpa[List.getD]using this⟩
theorem DP.take{T:List AV}{vs:List Value}(h:DP ρ H O w T vs)(n:Nat):DP ρ H O w (T.take n) (vs.take n):=by
 refine⟨by simp[h.len],λt=> ?_⟩;have:=h.get t;simp only[List.getD,getElem?_take]at this ⊢;split;exact this;unfold af;trivial
theorem DP.set{T:List AV}{vs:List Value}(h:DP ρ H O w T vs)(d:Nat){x:AV}{v:Value}(hx:af ρ H O w x v):DP ρ H O w (T.set d x) (vs.set d v):=by
 refine⟨by simp[h.len],λt=> ?_⟩;rw[cX,cX,h.len];split;exact hx;exact h.get t
theorem DP.at7(n:Nat):DP ρ H O w (replicate n (.bq [])) (replicate n undef):=by
 induction n with
 |zero=>exact DP.nil|succ n ih=>exact DP.cons cz ih
theorem DP.ofL:∀{aP:List AV} {vs:List Value},bL ρ H O w aP vs->DP ρ H O w aP vs
 |[],vs,h=>by rw[a8.1 h];exact DP.nil
 |x::aP,vs,h=>by
  obtain⟨v,rest,rfl,h1,h2⟩:=aD.1 h;exact DP.cons h1 (DP.ofL h2)
theorem DP.split{T1 T2:List AV}{v1 v2:List Value}(h:DP ρ H O w (T1++T2) (v1++v2))(hl:T1.length=v1.length):DP ρ H O w T1 v1/\DP ρ H O w T2 v2:=by
 have h1:=h.take T1.length;have h2:=h.drop T1.length;rw[List.take_left' rfl,hl,List.take_left' rfl]at h1;rw[List.drop_left' rfl,hl,List.drop_left' rfl]at h2;exact⟨h1,h2⟩
theorem DP.mg:∀(ps:List Tmp) {args:List AV} {us:List Value} {T:List AV} {vs:List Value},DP ρ H O w T vs->bL ρ H O w args us->DP ρ H O w (mg T ps args) (mg vs ps us)
 |[],args,us,T,vs,h,_=>h|p::ps,[],us,T,vs,h,hl=>by rw[a8.1 hl];exact h
 |p::ps,x::args,us,T,vs,h,hl=>by
  obtain⟨u,rest,rfl,h1,h2⟩:=aD.1 hl;exact DP.mg ps (h.set p h1) h2
theorem af9:∀(ps:List Tmp) (us:List Value) (vs:List Value),(ps.toArray.zip us.toArray).foldl (λ(tmps:Array Value) (x:Tmp×Value)=>tmps.setIfInBounds x.1 x.2) vs.toArray=(mg vs ps us).toArray:=by
 intro ps us vs;rw[<-Array.foldl_toList];simp only[Array.toList_zip]
 have:∀(l:List (Tmp×Value)) (vs:List Value),l.foldl (λ(tmps:Array Value) (x:Tmp×Value)=>tmps.setIfInBounds x.1 x.2) vs.toArray=(l.foldl (λt x=>t.set x.1 x.2) vs).toArray:=by
  intro l
  induction l with
  |nil=>intro vs;rfl
  |cons x l ih=>intro vs;simp only[List.foldl_cons,List.setIfInBounds_toArray];exact ih _
 exact this _ _
theorem apM{o:Oper}{ev:Operand->AV}{e:Operand->Value}{g:AV}{args:List AV}(h:rY o ev=some (g,args))(hd:∀x∈o.op.operands,af ρ H O w (ev x) (e x)):
 ∃(vf:Value) (us:List Value),af ρ H O w g vf/\bL ρ H O w args us/\
  (∀f vs,vf=.func (.func f) #[] vs.toArray->jw P f=true->(execOp e o).run P w=.ok (.enter f (us++vs).toArray) w)/\
  (∀l,vf=ct l->∀r,w.heap[l]? =some (.loop r)->us.length=r.params.size->(execOp e o).run P w=.ok (.round l r.fn ((r.params.zip us.toArray).foldl (λtmps (t,a)=>tmps.setIfInBounds t a) r.tmps) r.assign r.body) w):=by
 unfold rY at h;split at h;rename_i c ho;split at h;rename_i f hc;simp only[Option.some.injEq,Prod.mk.injEq]at h;obtain⟨rfl,rfl⟩:=h;have hf:=my (hd f (by simp[ho,Op.operands,Call.operands,hc]));have hl:=oL c.args.toList (ev:=λx=>qq (ev x)) (e:=e) (λx hx=>my (hd x (by simp[ho,Op.operands,Call.operands,hc,Array.mem_toList_iff.1 hx])));have e1:(c.args.toList.map e).toArray=c.args.map e:=by apply toList_inj.1;simp
 refine⟨e f,c.args.toList.map e,hf,hl,λg vs hv gC=> ?_,λl hv r hr hs=> ?_⟩;have e2:(c.args.toList.map e++vs).toArray=c.args.map e++vs.toArray:=by apply toList_inj.1;simp
 rw[e2];simp[execOp,ho,resolve,hc,hv,Deferred.ofValue,invoke,iC gC];rw[e1];have hy:=run_yield (P:=P) (args:=c.args.map e) hr (by rw[<-hs];simp);simp only[ct]at hv;simp[execOp,ho,resolve,hc,hv,Deferred.ofValue,invoke,hy];cases h;cases h
def fD(P:Program)(f:FuncId)(R:Ending->World->Prop)(top:Frame)(fs:List Frame)(w:World):Prop:=
 ∀cs,∃e w' fr,R e w'/\Comes P (lone top (fs++cs) w) (lone fr cs w') e/\fr.fn=f/\fr.leaving P w' e
theorem fD.steps{f:FuncId}{R:Ending->World->Prop}{top awD:Frame}{fs rE:List Frame}(hs:∀cs,Steps P (lone top (fs++cs) w) (lone awD (rE++cs) w'))(h:fD P f R awD rE w'):fD P f R top fs w:=by
 intro cs;have⟨e,w2,fr,h1,h2,h3⟩:=h cs;exact⟨e,w2,fr,h1,Comes.of_steps (hs cs) h2,h3⟩
theorem vu{f0 f:FuncId}{c:bP}{args:List AV}{us:List Value}{wait:tB}{go:bP->Tree}{fs:List Frame}(h:(oP P c f args wait go).Holds K C)(oV:∀c',(go c').Holds K C->Safe P f0 X K c')
 (gL:∀b,X.G b->G b) (hZ:∀b,G b->X.G b\/X.w.heap.size<=b) (hr:cg (X.at G E) ρ ⟨c.tmps,c.H⟩ a w) (hl:bL ρ (St.look ⟨c.tmps,c.H⟩) (aV ρ (St.look ⟨c.tmps,c.H⟩) G) w args us) (hn:(E.map (·.1)).Nodup)
 (hw:WfS f0 (wait::c.stk.below) a.tmps.toList E fs):jw P f=true/\fD P f0 (kp X K) (Frame.enter P f us.toArray .normal) fs w:=by
 unfold oP at h;split at h;rename_i g hg;rw[cond_eq_ite]at h;split at h;rename_i hb;simp only[and_eq_true]at hb;have⟨gC,bB⟩:=hb;refine⟨gC, ?_⟩;have bB:args.length<=g.ntmps:=le_of_ble_eq_true bB;have hul:us.length=args.length:=(DP.ofL hl).len.symm
 have hb:g.body.isSome=true:=by
  unfold jw at gC;rw[hg]at gC;simp only[and_eq_true]at gC;exact gC.1
 have⟨cd,hcd⟩:=isSome_iff_exists.1 hb;have eG:=hr.cR (((DP.ofL hl).append (DP.at7 (g.ntmps - args.length))).append hr.dp);have key:=oV _ h G E ρ _ w gL hZ eG {(default:Frame)with fn:=f,kind:=.normal,roundOf:=none} {tmps:=(us++replicate (g.ntmps - args.length) undef).toArray,defers:=[]} fs
  ⟨hn,us++replicate (g.ntmps - args.length) undef,[],a.tmps.toList,[],[],E,by simp,rfl,rfl,⟨⟨none,rfl,rfl,rfl⟩,rfl,rfl⟩,hw⟩
 have fW:Frame.enter P f us.toArray .normal=Frame.atR {(default:Frame)with fn:=f,kind:=.normal,roundOf:=none} {tmps:=(us++replicate (g.ntmps - args.length) undef).toArray,defers:=[]} [.code (g.body.getD .skip)]:=by
  simp[Frame.enter,Frame.atR,hg,hcd,hul]
 rw[fW];exact key;exact h.elim;exact h.elim
theorem adn{f0:FuncId}{c:bP}{id:Nat}{args:List AV}{us:List Value}{wait:tB}{go:bP->Tree}{fs:List Frame}{E0 E1:List (Nat×Obj)}{vs1:List Value}{fs1:List Frame}{v:Value}(h:(abF c id args wait go).Holds K C)(oV:∀c',(go c').Holds K C->Safe P f0 X K c')
 (gL:∀b,X.G b->G b) (hZ:∀b,G b->X.G b\/X.w.heap.size<=b) (hr:cg (X.at G E) ρ ⟨c.tmps,c.H⟩ a w) (hl:bL ρ (St.look ⟨c.tmps,c.H⟩) (aV ρ (St.look ⟨c.tmps,c.H⟩) G) w args us) (hn:(E.map (·.1)).Nodup)
 (hw:WfS f0 (wait::c.stk.below) a.tmps.toList E fs) (hE:E=E0++E1) (hvs:a.tmps.toList.drop (c.n+c.stk.extra)=vs1) (hb:WfS f0 c.stk.below vs1 E1 fs1) (awE:af ρ (St.look ⟨c.tmps,c.H⟩) (aV ρ (St.look ⟨c.tmps,c.H⟩) G) w (.tag id) v):
 ∃l r,v=ct l/\w.heap[l]? =some (.loop r)/\us.length=r.params.size/\
  fD P f0 (kp X K) (Frame.round l r.fn ((r.params.zip us.toArray).foldl (λtmps (t,a)=>tmps.setIfInBounds t a) r.tmps) r.assign r.body .normal) fs w:=by
 unfold abF at h;split at h;rename_i d L st cR hf;rw[cond_eq_ite]at h;split at h;rename_i hb1;simp only[and_eq_true]at hb1;have bB:args.length=L.ps.length:=Nat.eq_of_beq_eq_true hb1.1
 have hn1:(E1.map (·.1)).Nodup:=by
  rw[hE,map_append]at hn;exact(nodup_append.1 hn).2.1
 have hdp:=hr.dp.drop (c.n+c.stk.extra);rw[hvs]at hdp;have⟨l,D,v0,g1,g2,g3,g4,g5,g6⟩:=pO hf hb hn1 hdp.get;have lL:=awE;unfold af aN at lL;have awF:cR.length=d.n:=g5 hdp.len;have ko:(l,Obj.loop (st.gv L (d.f.getD f0) v0.toArray D))∈E:=by rw[hE];exact mem_append_right _ g3
 have iB:=(hr.kept _ ko).2.2;have hul:us.length=args.length:=(DP.ofL hl).len.symm;refine⟨l,st.gv L (d.f.getD f0) v0.toArray D,lL.1.trans g1,iB,by rw[hul,bB];simp[mI.gv], ?_⟩
 have hsl:DP ρ (St.look ⟨c.tmps,c.H⟩) (aV ρ (St.look ⟨c.tmps,c.H⟩) G) w cR v0:=⟨by rw[awF,g2],λt=>by
  by_cases ht:t<d.n;exact g4 t ht;have e1:cR.getD t (.s .aY)=.s .aY:=by rw[List.getD,getElem?_eq_none (by omega)];rfl
  rw[e1];unfold af;trivial⟩
 have eG:=hr.cR ((hsl.mg L.ps hl).append (DP.cons awE hr.dp));have hv:v=ct l:=lL.1.trans g1;have key:=oV _ h G E ρ _ w gL hZ eG {(default:Frame)with fn:=d.f.getD f0,kind:=.normal,roundOf:=some l} {tmps:=(mg v0 L.ps us).toArray,defers:=[]} fs
  ⟨hn,mg v0 L.ps us,[v],a.tmps.toList,[],[],E,by simp,rfl,rfl,⟨⟨some l,rfl,l,by rw[hv],rfl⟩,rfl,rfl⟩,hw⟩
 have er:Frame.round l (st.gv L (d.f.getD f0) v0.toArray D).fn (((st.gv L (d.f.getD f0) v0.toArray D).params.zip us.toArray).foldl (λtmps (t,a)=>tmps.setIfInBounds t a) (st.gv L (d.f.getD f0) v0.toArray D).tmps) (st.gv L (d.f.getD f0) v0.toArray D).assign (st.gv L (d.f.getD f0) v0.toArray D).body .normal
  =Frame.atR {(default:Frame)with fn:=d.f.getD f0,kind:=.normal,roundOf:=some l} {tmps:=(mg v0 L.ps us).toArray,defers:=[]} [.code L.asg,.beginRound,.code L.body]:=by
  have:=af9 L.ps us v0;simp only[mI.gv,Frame.round,Frame.atR];rw[<-this]
 rw[er];exact key;exact h.elim;exact h.elim
end
section
variable{ρ aL:Nat->Value}{H H':aS}{G O O':Nat->Prop}{w w':World}{P:Program}{S:fG}{Z:bh}{X:Ctx}{s:St}{a:Act}{K:List ak->AV->Prop}{C:bP->Prop}
theorem ado{t:TypeId}{va v:Value}{w':World}(h:(Instr.loadAt t va).run P w=.ok v w'):(do loadVar t (<-asAddr va):Sem Value).run P w=.ok v w':=by
 cases va with
 |pointer o=>
  cases o with
  |none=>simp[Instr.loadAt,Instr.sureAddr]at h|some x=>simpa[Instr.loadAt,Instr.sureAddr,asAddr]using h
 |_=>simp[Instr.loadAt,Instr.sureAddr]at h
theorem oY(h:cg X ρ s a w):∀(rs:List ResultVar) {vs:List AV},gD P s rs=some vs->
 ∃us:List Value,(rs.mapM (m:=Sem) λ|.tmp t=>pure (a.tmps.getD t undef)|.cell x t=>do loadVar t (<-asAddr (a.tmps.getD x undef))).run P w=.ok us w/\bL ρ s.look (aV ρ s.look X.G) w vs us
 |[],vs,hv=>by
  simp only[gD,Option.some.injEq]at hv;subst hv;exact⟨[],by simp,a8.2 rfl⟩
 |.tmp t::rs,vs,hv=>by
  simp only[gD,map_eq_some_iff]at hv;obtain⟨vs',h1,rfl⟩:=hv;have⟨us,h2,h3⟩:=oY h rs h1;refine⟨a.tmps.getD t undef::us, ?_,aD.2 ⟨_,_,rfl,h.den t,h3⟩⟩;simp only[List.mapM_cons,Sem.run_bind,Sem.run_pure,Result.andThen_ok,h2]
 |.cell t T::rs,vs,hv=>by
  simp only[gD]at hv;split at hv;rename_i r vs' hr hrs;split at hv;rename_i e1 e2 e3;simp only[Option.some.injEq]at hv;subst hv;have⟨us,h2,h3⟩:=oY h rs hrs;have⟨_,_,v,h4,h5⟩:=acP hr (by rw[e1];trivial) h.sat (h.den t);refine⟨v::us, ?_,aD.2 ⟨_,_,rfl,h5 0,h3⟩⟩;have h6:=ado h4;simp only[List.mapM_cons];rw[Sem.run_bind,h6];simp only[Result.andThen_ok,Sem.run_bind,h2,Sem.run_pure];cases hv;cases hv
theorem aga{fn:Func}(h:cg X ρ s a w){vs:List AV}(hv:gD P s fn.results.toList=some vs):∃v,(results fn a.tmps).run P w=.ok v w/\af ρ s.look (aV ρ s.look X.G) w (oneOf vs) v:=by
 have⟨us,h1,h2⟩:=oY h _ hv
 have key:(results fn a.tmps).run P w=.ok (if h:us.toArray.size=1 then us.toArray[0]else .tuple us.toArray) w:=by
  unfold results;rw[Array.mapM_eq_mapM_toList];simp only[Sem.run_bind,Sem.run_map];erw [h1];rfl
 refine⟨_,key, ?_⟩;unfold oneOf;split;rename_i x;obtain⟨v,rest,rfl,h3,h4⟩:=aD.1 h2;obtain rfl:=a8.1 h4;simpa using h3;rename_i cP
 have:¬us.toArray.size=1:=by
  intro h0;cases us with
  |nil=>simp at h0|cons u us=>
   cases us with
   |nil=>
    cases vs with
    |nil=>have:=a8.1 h2;cases this
    |cons y ys=>
     have⟨v,rest,e,h3,h4⟩:=aD.1 h2;cases e;cases ys with
     |nil=>exact cP y rfl|cons z zs=>
      have⟨v',awG,e',_⟩:=aD.1 h4;cases e'
   |cons _ _=>simp at h0
 rw[dif_neg this];unfold af;exact⟨us,rfl,h2⟩
end
section
variable{ρ aL:Nat->Value}{H H':aS}{G G' O O' O2:Nat->Prop}{w w':World}{P:Program}{S:fG}{Z:bh}{X:Ctx}{s:St}{a:Act}{K:List ak->AV->Prop}{C:bP->Prop}{ops:Array Oper}{E E':List (Nat×Obj)}
theorem agb{T:List AV}{vs:List Value}(h:DP ρ H O w T vs)(dst:Option Tmp){x:AV}{v:Value}(hx:af ρ H O w x v):DP ρ H O w (cV T dst x) (match dst with|some d=>vs.set d v|none=>vs):=by
 cases dst with
 |none=>exact h|some d=>exact h.set d hx
theorem vv{f0:FuncId}{c:bP}{v:AV}{u:Value}{below:List tB}{go:bP->Tree}{vs1:List Value}{fs:List Frame}(h:(resume c v below go).Holds K C)(oV:∀c',(go c').Holds K C->Safe P f0 X K c')
 (gL:∀b,X.G b->G b) (hZ:∀b,G b->X.G b\/X.w.heap.size<=b) (hr:cg (X.at G E) ρ ⟨c.tmps,c.H⟩ a w) (hvs:a.tmps.toList.drop (c.n+c.stk.extra)=vs1) (hb:WfS f0 below vs1 E fs) (hn:(E.map (·.1)).Nodup)
 (hv:af ρ (St.look ⟨c.tmps,c.H⟩) (aV ρ (St.look ⟨c.tmps,c.H⟩) G) w v u):∃fr fs1,fs=fr::fs1/\fD P f0 (kp X K) (fr.finish u) fs1 w:=by
 unfold resume at h;split at h;rename_i d ds;simp only[]at h;split at h;rename_i ops i rest td hlp nZ;simp only[cond_eq_ite]at h;split at h;rename_i lK;have⟨v0,rv,v2,Ds,E1,E2,b,t,fs2,lv,lE,todo,e1,e2,e3,h1,h2,h3,h4,h5⟩:=hb;rw[hlp]at h5;obtain⟨rfl,rfl,rfl⟩:=h5;rw[nZ]at e3;refine⟨_,_,e3, ?_⟩;rw[Frame.finish_atR];have hdp:=agb (hr.dp.drop (c.n+c.stk.extra)) ((ops[i]?).bind (·.dst)) hv;have eG:=hr.cR hdp
 have hdn:∀d',(ops[i]?).bind (·.dst)=some d'->d'<v0.length:=λd' hd=>by
  rw[hd]at lK;rw[h1];simpa[Nat.blt,Nat.lt_iff_add_one_le]using lK
 refine oV _ h G E ρ _ w gL hZ eG b (t.put ((ops[i]?).bind (·.dst)) u) fs2 ⟨hn,match(ops[i]?).bind (·.dst)with|some d'=>v0.set d' u|none=>v0,rv,v2,Ds,E1,E2, ?_,by rw[e2];rfl,h2,⟨h3.fr, ?_,h3.ghost⟩,h4⟩;rw[hvs,e1];cases hd:(ops[i]?).bind (·.dst)with
 |none=>simp|some d'=>
  simp only[List.toList_toArray];rw[List.set_append_left _ _ (hdn d' hd)];simp
 rw[h3.act];cases hd:(ops[i]?).bind (·.dst)with
 |none=>rfl|some d'=>simp[Act.put]
 exact h.elim;exact h.elim;exact h.elim
theorem pP{f0:FuncId}{c:bP}{vs:List Value}{v0 rv v2:List Value}{Ds:List Nat}{E1 E2:List (Nat×Obj)}{b:Frame}{t:Act}{fs:List Frame}(hl:c.tmps.length=vs.length)(e:vs=v0++(rv++(Ds.map ej++v2)))(hd:Ds.length=c.stk.marks)
 (h3:alL f0 c.stk.round v0 rv Ds E1 b t) {f1:FuncId} (h4:WfS f1 c.stk.below v2 E2 fs):v0.length=c.n/\rv.length=gZ c.stk.round/\vs.drop (c.n+c.stk.extra)=v2:=by
 have zA:rv.length=gZ c.stk.round:=by
  have⟨r,_,h6⟩:=h3.fr;cases hd:c.stk.round<;>rw[hd]at h6<;>simp only[]at h6;rw[h6.1];rfl;obtain⟨l,rfl,_⟩:=h6;rfl
 have h0:v0.length=c.n:=by
  unfold bP.n;rw[hl,e];simp only[length_append,length_map,zA,hd,h4.len,uf.extra];omega
 refine⟨h0,zA, ?_⟩;rw[e,show v0++(rv++(Ds.map ej++v2))=(v0++(rv++Ds.map ej))++v2 from by simp];exact List.drop_left' (by simp only[length_append,length_map,zA,hd,h0,uf.extra])
theorem agc{f0:FuncId}{c:bP}{fn g:Func}{vs:List AV}{go:bP->Tree}{b:Frame}{t:Act}{fs:List Frame}{todo:List Item}(hf:P.funcs[f0]? =some fn)(hg:c.stk.fn P fn=some g)(er:c.stk.round=false)
 (af4:gD P ⟨c.tmps.take c.n,c.H⟩ g.results.toList=some vs) (h:(ahy c (oneOf vs) go).Holds K C) (oV:∀c',(go c').Holds K C->Safe P f0 X K c')
 (gL:∀b,X.G b->G b) (hZ:∀b,G b->X.G b\/X.w.heap.size<=b) (hr:cg (X.at G E) ρ ⟨c.tmps,c.H⟩ a w) (hw:Wf f0 c.stk a.tmps.toList E b t fs):
 fD P f0 (kp X K) {b.atR t todo with mode:=.returning} fs w:=by
 obtain⟨hn,v0,rv,v2,Ds,E1,E2,e1,rfl,hd,h3,h4⟩:=hw;have⟨l0,l1,l2⟩:=pP hr.dp.len e1 hd h3 h4;have hgE:=h3.ghost;subst hgE;have hb:=h3.fr;rw[er]at hb;obtain⟨r,rfl,zA,hrr⟩:=hb;subst zA hrr;have aua:=h3.act;subst aua;have⟨w',eG,ni⟩:=xy (P:=P) Ds (fr:={Frame.atR {(default:Frame)with fn:=c.stk.f.getD f0,kind:=.normal,roundOf:=none} {tmps:=v0.toArray,defers:=Ds.map qv} todo with mode:=.returning}) hn hr rfl rfl
 have tA:(E2.map (·.1)).Nodup:=by
  rw[map_append]at hn;exact(nodup_append.1 hn).2.1
 have q9:DP ρ (St.look ⟨c.tmps,c.H⟩) (aV ρ (St.look ⟨c.tmps,c.H⟩) G) w' (c.tmps.take c.n) v0:=by
  have:=eG.dp.take c.n;rw[e1,List.take_left' l0]at this;exact this
 have hrt:=eG.cR q9;have⟨u,jb,lL⟩:=aga (fn:=g) hrt af4
 have hfn:P.funcs[c.stk.f.getD f0]? =some g:=by
  unfold uf.fn at hg;split at hg;rename_i h0;rw[h0];cases hg;exact hf;rename_i g' h0;rw[h0];exact hg
 let fr:Frame:={Frame.atR {(default:Frame)with fn:=c.stk.f.getD f0,kind:=.normal,roundOf:=none} {tmps:=v0.toArray,defers:=Ds.map qv} todo with mode:=.returning,defers:=[]};have qZ:fr.leaving P w' (.returned u):=⟨rfl,rfl,rfl,g,hfn,jb⟩;refine fD.steps (λcs=>ni (fs++cs)) ?_;show fD P f0 (kp X K) fr fs w';have apN:a.tmps.toList.drop (c.n+c.stk.extra)=v2:=l2;unfold ahy at h;split at h;rename_i aub;rw[aub]at h4;obtain⟨_,_,rfl⟩:=h4;intro cs;rw[cond_eq_ite]at h;split at h;rename_i hk;refine⟨.returned u,w',fr,kp.at6 gL hZ eG lL h,Steps.refl _ _, ?_,qZ⟩;show c.stk.f.getD f0=f0;rw[Option.isNone_iff_eq_none.1 hk];rfl;exact h.elim;rename_i d ds aub;split at h;rename_i hlp;obtain⟨fr1,fs1,rfl,key⟩:=vv h oV gL hZ eG apN h4 tA lL;exact fD.steps (λcs=>.one (step_leave_returned qZ)) key;exact h.elim;rename_i L st azo hlp;rw[aub]at h4;have⟨q8,rv',v2',Ds',E1',E2',b',t',fs2,lv,lE,aBi,e1',e2',e3',h1',h2',h3',h4',h5'⟩:=h4;rw[hlp]at h5';obtain⟨l,D,rfl,rfl,rfl⟩:=h5';subst e3' e2';have ko:(l,Obj.loop (st.gv L (d.f.getD f0) q8.toArray D))∈(E1'++([(l,Obj.loop (st.gv L (d.f.getD f0) q8.toArray D))]++E2')):=by simp
 have iB:=(eG.kept _ ko).2.2
 have hnb:(st.gv L (d.f.getD f0) q8.toArray D).state≠.busy:=by
  unfold mI.gv;cases st with
  |busy=>exact absurd rfl (azo)|ready=>simp|done c=>simp
 have apO:=run_endLoop (P:=P) iB hnb
 have hl1:l ∉ E1'.map (·.1):=by
  intro hm;rw[map_append]at tA;exact(nodup_append.1 tA).2.2 l hm l (by simp) rfl
 have hl2:l ∉ E2'.map (·.1):=by
  intro hm;rw[map_append,map_append]at tA;exact(nodup_append.1 (nodup_append.1 tA).2.1).2.2 l (by simp) l hm rfl
 have zB:cg (X.at G (E1'++E2')) ρ ⟨c.tmps,c.H⟩ a (w'.putObj l (.loop {st.gv L (d.f.getD f0) q8.toArray D with state:=.exhausted})):=
  eG.apL ko (λy hy=>.inl (by
   rcases mem_append.1 hy with h6|h6;exact⟨by simp[h6],λe=>hl1 (e▸List.mem_map_of_mem (f:=Prod.fst) h6)⟩;exact⟨by simp[h6],λe=>hl2 (e▸List.mem_map_of_mem (f:=Prod.fst) h6)⟩))
 have hn3:((E1'++E2').map (·.1)).Nodup:=by
  rw[map_append,map_append]at tA;rw[map_append];have⟨n1,n2,n3⟩:=nodup_append.1 tA;exact nodup_append.2 ⟨n1,(nodup_append.1 n2).2.1,λx hx y hy=>n3 x hx y (mem_append_right _ hy)⟩
 have hdp:DP ρ (St.look ⟨c.tmps,c.H⟩) (aV ρ (St.look ⟨c.tmps,c.H⟩) G) (w'.putObj l (.loop {st.gv L (d.f.getD f0) q8.toArray D with state:=.exhausted}))
  ((c.tmps.drop (c.n+c.stk.extra)).take (d.n+gZ d.round+d.marks)++(c.tmps.drop (c.n+c.stk.extra)).drop (d.n+gZ d.round+d.marks+1)) (q8++(rv'++(Ds'.map ej++v2'))):=by
  have awH:rv'.length=gZ d.round:=by
   have⟨r,_,h6⟩:=h3'.fr;cases hd:d.round<;>rw[hd]at h6<;>simp only[]at h6;rw[h6.1];rfl;obtain⟨l,rfl,_⟩:=h6;rfl
  have h6:=zB.dp.drop (c.n+c.stk.extra);rw[apN,e1']at h6;have h7:=(h6.take (d.n+gZ d.round+d.marks)).append (h6.drop (d.n+gZ d.round+d.marks+1));rw[show q8++(rv'++(Ds'.map ej++([ct l]++v2')))=(q8++(rv'++Ds'.map ej))++([ct l]++v2')from by simp]at h7
  rw[List.take_left' (by simp only[length_append,length_map,awH,h1',h2'];omega),show(q8++(rv'++Ds'.map ej))++([ct l]++v2')=((q8++(rv'++Ds'.map ej))++[ct l])++v2' from by simp,
   List.drop_left' (by simp only[length_append,length_map,awH,h1',h2',length_cons,length_nil];omega)]at h7
  rw[append_assoc,append_assoc]at h7;exact h7
 have hr3:=zB.cR hdp;have key:=oV _ h G (E1'++E2') ρ _ _ gL hZ hr3 b' t' fs2 ⟨hn3,q8,rv',v2',Ds',E1',E2',by simp,rfl,h2',h3',h4'⟩;refine fD.steps (λcs=>.head (step_leave_returned qZ) ?_) key;rw[finish_atR_inRangeFunc];refine .one ?_;have:=stepR_endRangeFunc (P:=P) (b:=b') (a:=t') (k:=d.todo) (cs:=fs2++cs) apO;rw[List.append_eq];rw[this];cases st<;>rfl
theorem ra{f0:FuncId}{c:bP}{jump:Option Code}{go:bP->Tree}{b:Frame}{t:Act}{fs:List Frame}{todo:List Item}(er:c.stk.round=true)
 (h:(adf c jump go).Holds K C) (oV:∀c',(go c').Holds K C->Safe P f0 X K c')
 (gL:∀b,X.G b->G b) (hZ:∀b,G b->X.G b\/X.w.heap.size<=b) (hr:cg (X.at G E) ρ ⟨c.tmps,c.H⟩ a w) (hw:Wf f0 c.stk a.tmps.toList E b t fs)
 (awI:∀(l:Nat) (w':World) (c0:Frame) (cs:List Frame),b.roundOf=some l->b.kind=.normal->(Instr.endRound l jump).run P w=.ok (.bool jump.isNone) w'->step P (lone (b.atR t todo) (c0::cs) w)=.next (lone (c0.finish (.bool jump.isNone)) cs w')):
 fD P f0 (kp X K) (b.atR t todo) fs w:=by
 obtain⟨hn,v0,rv,v2,Ds,E1,E2,e1,rfl,hd,h3,h4⟩:=hw;have⟨l0,l1,l2⟩:=pP hr.dp.len e1 hd h3 h4;have hb:=h3.fr;rw[er]at hb;obtain⟨r,rfl,l,zA,hrr⟩:=hb;subst zA hrr;unfold adf at h;split at h;rename_i id dq;rw[cond_eq_ite]at h;split at h;rename_i hm
 have hD0:Ds=[]:=by
  have:=Nat.eq_of_beq_eq_true hm;exact List.eq_nil_of_length_eq_zero (hd.trans this)
 subst hD0;have hgE:E1=[]:=h3.ghost;subst hgE;split at h;rename_i y hf;have⟨d,L,st,cR⟩:=y;have hdp:=hr.dp.drop (c.n+c.stk.extra);rw[l2]at hdp;have tA:(E2.map (·.1)).Nodup:=by simpa using hn
 have⟨l',D,q8,g1,g2,g3,g4,g5,g6⟩:=pO hf h4 tA hdp.get
 have kU:a.tmps.toList.getD c.n undef=ct l:=by
  rw[e1,List.getD,getElem?_append_right (by omega),show c.n - v0.length=0 from by omega];rfl
 have lL:=hr.dp.get c.n;rw[dq,kU]at lL;unfold af aN at lL;have hll:l'=l:=xz (g1.symm.trans lL.1.symm);subst hll;have iB:=(hr.kept _ (show _∈([]++E2)from g3)).2.2;have apO:=run_endRound (P:=P) jump iB
 have azp:({st.gv L (d.f.getD f0) q8.toArray D with state:=if jump.isNone then .ready else .done,pending:=jump}:Loop)=(match jump with|none=>mI.ready|some j=>mI.done j).gv L (d.f.getD f0) q8.toArray D:=by
  cases jump<;>rfl
 rw[azp]at apO
 have zB:cg (X.at G (upE l' (Obj.loop ((match jump with|none=>mI.ready|some j=>mI.done j).gv L (d.f.getD f0) q8.toArray D)) E2)) ρ ⟨c.tmps,c.H⟩ a (w.putObj l' (Obj.loop ((match jump with|none=>mI.ready|some j=>mI.done j).gv L (d.f.getD f0) q8.toArray D))):=
  hr.apL (show(l',Obj.loop (st.gv L (d.f.getD f0) q8.toArray D))∈([]++E2)from g3) (λy hy=>by
   rcases ahF y hy with h6|h6;exact .inl h6;exact .inr h6)
 obtain⟨fr1,fs1,rfl,key⟩:=vv (u:=.bool jump.isNone) h oV gL hZ zB l2 (g6 _) (by rw[adl];exact tA) (aE (.aI _));exact fD.steps (λcs=>.one (awI l' _ fr1 (fs1++cs) rfl rfl apO)) key;exact h.elim;exact h.elim;exact h.elim
theorem vw{f0 f:FuncId}{c:bP}{dv:List AV}{cvs:List Value}{L:Lp}{td:List Item}{go:bP->Tree}{b:Frame}{t:Act}{fs:List Frame}{g:Operand}{asg body:Code}{ps:Array Tmp}(hL:L=⟨ps.toList,asg,body⟩)
 (h:(abG P c f dv L td go).Holds K C) (oV:∀c',(go c').Holds K C->Safe P f0 X K c')
 (gL:∀b,X.G b->G b) (hZ:∀b,G b->X.G b\/X.w.heap.size<=b) (hr:cg (X.at G E) ρ ⟨c.tmps,c.H⟩ a w) (hw:Wf f0 c.stk a.tmps.toList E b t fs)
 (hg:t.eval g=.func (.func f) #[] cvs.toArray) (hl:bL ρ (St.look ⟨c.tmps,c.H⟩) (aV ρ (St.look ⟨c.tmps,c.H⟩) G) w dv cvs):
 fD P f0 (kp X K) (b.atR t (.code (.rangeFunc g ps asg body)::td)) fs w:=by
 unfold abG at h;rw[cond_eq_ite]at h;split at h;exact h.elim;rename_i er;have er:c.stk.round=false:=by simpa using er
 obtain⟨hn,v0,rv,v2,Ds,E1,E2,e1,rfl,hd,h3,h4⟩:=hw;have⟨l0,l1,l2⟩:=pP hr.dp.len e1 hd h3 h4;have hb:=h3.fr;rw[er]at hb;obtain⟨r,rfl,zA,hrr⟩:=hb;subst zA hrr;have hgE:=h3.ghost;subst hgE;have aua:=h3.act;subst aua;let Dn:=w.heap.size;let ln:=w.heap.size+1;let r7:Loop:=mI.ready.gv L (c.stk.f.getD f0) v0.toArray Dn;have⟨r1,s1⟩:=hr.grow (.deferred (some [])) (ej Dn);have⟨r2,s2⟩:=r1.grow (.loop r7) (ct ln);have bU:(w.alloc (.deferred (some []))).heap.size=ln:=fU;rw[bU]at r2 s2
 have hold:∀x∈(Ds.map (λD=>(D,Obj.deferred (some [])))++E2).map (·.1),x<Dn:=λx hx=>by
  obtain⟨y,hy,rfl⟩:=mem_map.1 hx;exact(Array.getElem?_eq_some_iff.1 (hr.kept y hy).2.2).1
 have r3:=r2.sub (E':=(Dn::Ds).map (λD=>(D,Obj.deferred (some [])))++([(ln,Obj.loop r7)]++E2)) (λy hy=>by
  simp only[map_cons,cons_append,mem_cons,mem_append,nil_append]at hy ⊢;rcases hy with rfl|hy|rfl|hy;exact .inr (.inl rfl);exact .inr (.inr (.inl hy));exact .inl rfl;exact .inr (.inr (.inr hy)))
 have hn3:(((Dn::Ds).map (λD=>(D,Obj.deferred (some [])))++([(ln,Obj.loop r7)]++E2)).map (·.1)).Nodup:=by
  rw[map_append]at hn;have⟨n1,n2,n3⟩:=nodup_append.1 hn;rw[map_append,map_append];refine nodup_append.2 ⟨?_, ?_, ?_⟩;rw[map_cons,map_cons,List.nodup_cons];exact⟨λhm=>absurd (hold Dn (by rw[map_append];exact List.mem_append_left _ hm)) (Nat.lt_irrefl _),n1⟩;rw[map_cons,map_nil,List.singleton_append,List.nodup_cons];exact⟨λhm=>absurd (hold ln (by rw[map_append];exact mem_append_right _ hm)) (by omega),n2⟩;intro x hx y hy hxy;subst hxy;simp only[map_cons,map_nil,mem_cons,mem_append,List.not_mem_nil,or_false]at hx hy;rcases hx with rfl|hx;rcases hy with hy|hy;omega;exact absurd (hold Dn (by rw[map_append];exact mem_append_right _ hy)) (Nat.lt_irrefl _);rcases hy with rfl|hy;exact absurd (hold ln (by rw[map_append];exact List.mem_append_left _ hx)) (by omega);exact n3 x hx x hy rfl
 let L0:=c.H++[ak.aw]++[ak.aw];let G2:Nat->Prop:=λb=>(G b\/b=w.heap.size)\/b=ln;let gw:=q7 (q7 ρ c.H.length (ej Dn)) (c.H++[ak.aw]).length (ct ln);have aBj:(c.H++[ak.aw]).length=c.H.length+1:=by simp
 have azq:gw (c.H.length+1)=ct ln:=by simp[gw,q7]
 have azr:gw c.H.length=ej Dn:=by simp[gw,q7]
 have awJ:(St.look ⟨c.tmps,L0⟩) c.H.length=some .aw:=by simp[St.look,L0]
 have awK:(St.look ⟨c.tmps,L0⟩) (c.H.length+1)=some .aw:=by simp[St.look,L0]
 have d3:=r3.dp
 have azt:af gw (St.look ⟨c.tmps,L0⟩) (aV gw (St.look ⟨c.tmps,L0⟩) G2) ((w.alloc (.deferred (some []))).alloc (.loop r7)) (.tag c.H.length) (ej Dn):=by
  unfold af aN;exact⟨azr.symm,rfl,by rw[awJ];rfl⟩
 have awL:af gw (St.look ⟨c.tmps,L0⟩) (aV gw (St.look ⟨c.tmps,L0⟩) G2) ((w.alloc (.deferred (some []))).alloc (.loop r7)) (.tag (c.H.length+1)) (ct ln):=by
  unfold af aN;exact⟨azq.symm,rfl,by rw[awK];rfl⟩
 have azu:DP gw (St.look ⟨c.tmps,L0⟩) (aV gw (St.look ⟨c.tmps,L0⟩) G2) ((w.alloc (.deferred (some []))).alloc (.loop r7))
  (c.tmps.take c.n++.tag c.H.length::((c.tmps.drop c.n).take c.stk.marks++.tag (c.H.length+1)::c.tmps.drop (c.n+c.stk.marks))) (v0++([]++((Dn::Ds).map ej++([ct ln]++v2)))):=by
  have e2:a.tmps.toList=v0++(Ds.map ej++v2):=by simpa using e1
  have a1:=d3.take c.n;have a2:=(d3.drop c.n).take c.stk.marks;have a3:=d3.drop (c.n+c.stk.marks);rw[e2,List.take_left' l0]at a1;rw[e2,List.drop_left' l0,List.take_left' (by rw[length_map,hd])]at a2;rw[e2,show v0++(Ds.map ej++v2)=(v0++Ds.map ej)++v2 from by simp,List.drop_left' (by rw[length_append,length_map,hd,l0])]at a3;have:=a1.append (DP.cons azt (a2.append (DP.cons awL a3)));exact this
 have r4:=r3.cR azu;have auc:Step ρ (St.look ⟨c.tmps,c.H⟩) (aV ρ (St.look ⟨c.tmps,c.H⟩) G) w gw (St.look ⟨c.tmps,L0⟩) (aV gw (St.look ⟨c.tmps,L0⟩) G2) ((w.alloc (.deferred (some []))).alloc (.loop r7)):=s1.trans s2
 have gu:bL gw (St.look ⟨c.tmps,L0⟩) (aV gw (St.look ⟨c.tmps,L0⟩) G2) ((w.alloc (.deferred (some []))).alloc (.loop r7)) (.tag (c.H.length+1)::dv) (ct ln::cvs):=
  aD.2 ⟨_,_,rfl,awL,bL.step auc _ _ hl⟩
 have ahG:WfS f0 (⟨c.stk.f,c.n,false,c.stk.marks+1,some (L,.ready),td,((iD L.body).getD 0,0)⟩::c.stk.below) (v0++([]++((Dn::Ds).map ej++([ct ln]++v2))))
  ((Dn::Ds).map (λD=>(D,Obj.deferred (some [])))++([(ln,Obj.loop r7)]++E2))
  ((Frame.atR {(default:Frame)with fn:=c.stk.f.getD f0,kind:=.normal,roundOf:=none} {tmps:=v0.toArray,defers:=(Dn::Ds).map qv} (.inRangeFunc ln::td))::fs):=
  ⟨v0,[],v2,Dn::Ds,_,E2,_,_,fs,[ct ln],[(ln,Obj.loop r7)],_,rfl,rfl,rfl,l0,by simp[hd],⟨⟨none,rfl,rfl,rfl⟩,rfl,rfl⟩,h4,⟨ln,Dn,rfl,rfl,rfl⟩⟩
 have key:=vu (us:=ct ln::cvs) h oV (λb hb=>.inl (.inl (gL b hb))) (λb hb=>by
  have hle:X.w.heap.size<=w.heap.size:=hr.ao.size;rcases hb with(hb|hb)|hb;exact hZ b hb;exact .inr (by omega);exact .inr (by omega)) r4 gu hn3 (by simpa using ahG)
 have⟨gC,key⟩:=key;refine fD.steps (λcs=>.one ?_) key;have he:=run_enterLoop_outer (P:=P) (w:=w) (c.stk.f.getD f0) v0.toArray ps asg body
 have awM:r7={state:=.ready,pending:=none,fn:=c.stk.f.getD f0,tmps:=v0.toArray,params:=ps,assign:=asg,body:=body,defers:=w.heap.size}:=by
  simp only[r7,mI.gv,hL,Dn]
 rw[<-awM]at he;refine stepR_rangeFunc (b:={(default:Frame)with fn:=c.stk.f.getD f0,kind:=.normal,roundOf:=none}) (a:={tmps:=v0.toArray,defers:=Ds.map qv}) (ps:=ps) (assign:=asg) (body:=body) (w:=w) (l:=ln) (w₁':=(w.alloc (.deferred (some []))).alloc (.loop r7)) (d:={target:=.fn (.func f) cvs.toArray,args:= #[ct ln]}) he ?_ ?_;simp only[resolve,hg];simp[go_sem,ct,ln];have:=iC gC (#[ct ln]++cvs.toArray) ((w.alloc (.deferred (some []))).alloc (.loop r7));simp only[invoke];rw[this];simp
end
section
variable{ρ aL:Nat->Value}{H H':aS}{G O O':Nat->Prop}{w w':World}{P:Program}{S:fG}{Z:bh}{X:Ctx}{s:St}{a:Act}{K:List ak->AV->Prop}{C:bP->Prop}{ops:Array Oper}
def wpC(P:Program)(ops:Array Oper)(Q:Act->World->Prop):Nat->Array Bool->Act->World->Prop
 |0,_,a,w=>Q a w|fuel+1,listed,a,w=>Region.ready .any ops listed≠[]/\∀i∈Region.ready .any ops listed,wpOp P ops (λe a w=>e=.normal/\Q a w) i (wpC P ops Q fuel (listed.setIfInBounds i true)) a w
theorem ajX{Q:Act->World->Prop}:∀(fuel t:Nat) (listed:Array Bool) (a:Act) (w:World),wpC P ops Q fuel listed a w->
 wpOps P ops (λe a w=>e=.normal/\Q a w) (Region.linearise.go .any ops fuel t listed []) a w:=by
 intro fuel
 induction fuel with
 |zero=>intro t listed a w h;simpa[Region.linearise.go,wpOps,wpC]using h
 |succ fuel ih=>
  intro t listed a w h;have⟨h₀,h₁⟩:=h;simp only[Region.linearise.go]
  change wpOps P ops _ (match(Region.ready .any ops listed)[t%(Region.ready .any ops listed).length]? with
   |some i=>Region.linearise.go .any ops fuel (t / (Region.ready .any ops listed).length) (listed.setIfInBounds i true) [i]|none=>[].reverse) a w
  cases hi:(Region.ready .any ops listed)[t%(Region.ready .any ops listed).length]? with
  |none=>
   exfalso;cases hr:Region.ready .any ops listed with
   |nil=>exact h₀ hr|cons x xs=>
    rw[hr]at hi;have bo:t%(x::xs).length<(x::xs).length:=Nat.mod_lt _ (by simp);simp at hi;simp at bo;omega
  |some i=>
   simp only[];rw[linearise_go_acc,List.reverse_singleton,List.singleton_append,wpOps_cons];exact wpOp_mono (λa w=>ih _ _ a w) (h₁ i (List.mem_of_getElem? hi))
theorem gg{listed:Array Bool}{i:Nat}(hi:i∈Region.ready .any ops listed):i<ops.size/\listed.getD i true=false/\∃o,ops[i]? =some o/\∀e∈o.after,Region.binds .any e=true->listed.getD e.on false=true:=by
 simp only[Region.ready,List.mem_filter,mem_range,and_eq_true]at hi;have⟨h1,h2,h3⟩:=hi;refine⟨h1,by simpa using h2, ?_⟩;cases ho:ops[i]? with
 |none=>rw[ho]at h3;simp at h3|some o=>
  rw[ho]at h3;simp only[map_some,getD_some,Array.all_eq_true]at h3;refine⟨o,rfl,λe he hb=> ?_⟩;obtain⟨n,hn,rfl⟩:=Array.mem_iff_getElem.1 he;have:=h3 n hn;rw[hb]at this;simpa using this
theorem xD{listed:Array Bool}(bU:listed.size=ops.size)(heb:dY ops=true){i:Nat}(hi:i<ops.size)(hn:listed.getD i true=false)(hl:∀k,k<i->listed.getD k true=true):i∈Region.ready .any ops listed:=by
 simp only[Region.ready,List.mem_filter,mem_range,and_eq_true];have ho:ops[i]? =some ops[i]:=Array.getElem?_eq_getElem hi;refine⟨hi,by simpa using hn, ?_⟩;rw[ho];simp only[map_some,getD_some,Array.all_eq_true];intro n hn;have hb:dY ops=true:=heb;simp only[dY,all_eq_true,mem_range]at hb;have hb:=hb i hi;rw[ho]at hb;simp only[Array.all_eq_true]at hb;have hb:=hb n hn;cases hbi:Region.binds .any (ops[i].after[n])with
 |false=>simp|true=>
  rw[hbi]at hb;have hon:(ops[i].after[n]).on<i:=by simpa[Nat.blt,Nat.lt_iff_add_one_le]using hb
  have cP:=hl _ hon;have cO:(ops[i].after[n]).on<listed.size:=by omega
  simp only[Array.getD,cO,dif_pos]at cP ⊢;simpa using cP
theorem xE{j i k:Nat}(h:xu ops j=true)(hi:i<ops.size)(hj:j<=i)(hk:k<i):gJ ops i k=true:=by
 have h1:=all_eq_true.1 h i (mem_range.2 hi);rw[Bool.or_eq_true]at h1;rcases h1 with h1|h1;have:i<j:=by simpa[Nat.blt,Nat.lt_iff_add_one_le]using h1
 omega;exact all_eq_true.1 h1 k (mem_range.2 hk)
def Down(ops:Array Oper)(listed:Array Bool):Prop:=∀i o,ops[i]? =some o->listed.getD i false=true->∀e∈o.after,Region.binds .any e=true->listed.getD e.on false=true
theorem ajY{listed:Array Bool}{i:Nat}(h:listed.getD i false=true):listed.getD i true=true:=by
 simp only[getD_eq_getD_getElem?]at h ⊢;cases hx:listed[i]? with
 |none=>rw[hx]at h;simp at h|some b=>rw[hx]at h;simpa using h
theorem oZ{listed:Array Bool}(hd:Down ops listed){i k:Nat}(hi:i∈Region.ready .any ops listed)(ha:gJ ops i k=true):listed.getD k true=true:=by
 have⟨h1,h2,o,ho,h3⟩:=gg hi;exact ajY (jr (L:=λi=>listed.getD i false=true) hd 9 ho h3 ha)
theorem Down.set{listed:Array Bool}(hd:Down ops listed){i:Nat}(hi:i∈Region.ready .any ops listed):Down ops (listed.setIfInBounds i true):=by
 have⟨h1,h2,o,ho,h3⟩:=gg hi
 have keep:∀j,listed.getD j false=true->(listed.setIfInBounds i true).getD j false=true:=λj hj=>by
  simp only[getD_eq_getD_getElem?,Array.getElem?_setIfInBounds]at hj ⊢;split;split<;>simp_all;exact hj
 intro k o' dH fq e he hb;by_cases hif:k=i;subst hif;rw[ho]at dH;cases dH;exact keep _ (h3 e he hb);refine keep _ (hd k o' dH ?_ e he hb);simp only[getD_eq_getD_getElem?,Array.getElem?_setIfInBounds,if_neg (Ne.symm hif)]at fq ⊢;exact fq
theorem ahH{listed:Array Bool}(bU:listed.size=ops.size){i k:Nat}(hi:i<ops.size):(listed.setIfInBounds i true).getD k true=if k=i then true else listed.getD k true:=by
 simp only[getD_eq_getD_getElem?,Array.getElem?_setIfInBounds];by_cases hjf:i=k;subst hjf;simp[bU,hi];simp[hjf,Ne.symm hjf]
theorem ahI(heb:dY ops=true){j:Nat}(hc:xu ops j=true):∀(m t i:Nat) (listed:Array Bool),i+m=ops.size->j<=i->listed.size=ops.size->Down ops listed->(∀k,k<ops.size->(listed.getD k true=false↔i<=k))->
 Region.linearise.go .any ops m t listed []=range' i m
 |0,t,i,listed,_,_,_,_,_=>rfl|m+1,t,i,listed,him,hj,bU,hd,hl=>by
  have hr:Region.ready .any ops listed=[i]:=by
   have ko:i∈Region.ready .any ops listed:=xD bU heb (by omega) ((hl i (by omega)).2 (le_refl _)) (λk hk=>by
    cases h:listed.getD k true with
    |true=>rfl|false=>have:=(hl k (by omega)).1 h;omega)
   have aap:∀k∈Region.ready .any ops listed,k=i:=λk hk=>by
    have⟨h1,h2,_⟩:=gg hk;have h3:=(hl k h1).1 h2;rcases lt_or_ge i k with h4|h4;have:=oZ hd hk (xE hc h1 (by omega) h4);rw[(hl i (by omega)).2 (le_refl _)]at this;cases this;omega
   have iq:(Region.ready .any ops listed).Nodup:=List.Nodup.sublist List.filter_sublist List.nodup_range;generalize Region.ready .any ops listed=l at *
   match l,ko,aap,iq with
   |[x],ko,aap,iq=>rw[aap x (by simp)]
   |x::y::l,ko,aap,iq=>
    have h1:=aap x (by simp);have h2:=aap y (by simp);rw[h1,h2]at iq;simp at iq
  simp only[Region.linearise.go]
  change (match(Region.ready .any ops listed)[t%(Region.ready .any ops listed).length]? with
   |some i=>Region.linearise.go .any ops m (t / (Region.ready .any ops listed).length) (listed.setIfInBounds i true) [i]|none=>[].reverse)=_
  rw[hr];simp only[List.length_singleton,Nat.mod_one,List.getElem?_cons_zero];rw[linearise_go_acc,List.reverse_singleton,List.singleton_append,List.range'_succ];congr 1;have ko:i∈Region.ready .any ops listed:=by rw[hr];simp
  refine ahI heb hc m _ (i+1) _ (by omega) (by omega) (by simp[bU]) (hd.set ko) (λk hk=> ?_);rw[ahH bU (by omega)];by_cases hki:k=i;subst hki;simp;rw[if_neg hki,hl k hk];omega
theorem adp(heb:dY ops=true){j:Nat}(hj:j<=ops.size)(hc:xu ops j=true):∀(m t:Nat) (listed:Array Bool) (us:List Nat),us.length=m->us.Nodup->(∀i∈us,i<j)->listed.size=ops.size->Down ops listed->
 (∀k,k<ops.size->(listed.getD k true=false↔k∈us\/j<=k))->Region.linearise.go .any ops (m+(ops.size - j)) t listed []=Region.linearise.go .any ops m t listed []++range' j (ops.size - j)
 |0,t,listed,us,hm,_,_,bU,hd,hl=>by
  obtain rfl:us=[]:=List.length_eq_zero_iff.1 hm;rw[zero_add,ahI heb hc (ops.size - j) t j listed (by omega) (le_refl _) bU hd (λk hk=>by rw[hl k hk];simp)];rfl
 |m+1,t,listed,us,hm,iq,bo,bU,hd,hl=>by
  rw[show m+1+(ops.size - j)=(m+(ops.size - j))+1 from by omega];simp only[Region.linearise.go]
  change (match(Region.ready .any ops listed)[t%(Region.ready .any ops listed).length]? with
   |some i=>Region.linearise.go .any ops (m+(ops.size - j)) (t / (Region.ready .any ops listed).length) (listed.setIfInBounds i true) [i]|none=>[].reverse)=(match(Region.ready .any ops listed)[t%(Region.ready .any ops listed).length]? with
   |some i=>Region.linearise.go .any ops m (t / (Region.ready .any ops listed).length) (listed.setIfInBounds i true) [i]|none=>[].reverse)++_
  obtain⟨mn,hmn,aud⟩:∃i∈us,∀k∈us,i<=k:=by
   cases us with
   |nil=>simp at hm|cons x xs=>
    clear iq bo hl hm
    induction xs generalizing x with
    |nil=>exact⟨x,by simp,by simp⟩
    |cons y ys ih=>
     have⟨i,h1,h2⟩:=ih y;rcases Nat.le_total x i with h3|h3
     exact⟨x,by simp,λk hk=>by
      rcases mem_cons.1 hk with rfl|hk;exact le_refl _;exact le_trans h3 (h2 k hk)⟩
     exact⟨i,mem_cons_of_mem _ h1,λk hk=>by
      rcases mem_cons.1 hk with rfl|hk;exact h3;exact h2 k hk⟩
  have hr0:mn∈Region.ready .any ops listed:=by
   have h1:=bo mn hmn;refine xD bU heb (by omega) ((hl mn (by omega)).2 (.inl hmn)) (λk hk=> ?_);cases h:listed.getD k true with
   |true=>rfl|false=>
    rcases(hl k (by omega)).1 h with h2|h2;have:=aud k h2;omega;omega
  cases hi:(Region.ready .any ops listed)[t%(Region.ready .any ops listed).length]? with
  |none=>
   exfalso;cases hr:Region.ready .any ops listed with
   |nil=>rw[hr]at hr0;simp at hr0|cons x xs=>
    rw[hr]at hi;have bo:t%(x::xs).length<(x::xs).length:=Nat.mod_lt _ (by simp);simp at hi;simp at bo;omega
  |some i=>
   simp only[];have ko:=List.mem_of_getElem? hi;have⟨h1,h2,_⟩:=gg ko
   have ma:i∈us:=by
    rcases(hl i h1).1 h2 with h3|h3;exact h3;have h4:=bo mn hmn;have:=oZ hd ko (xE hc h1 h3 (show mn<i by omega));rw[(hl mn (by omega)).2 (.inl hmn)]at this;cases this
   rw[linearise_go_acc _ _ (m+(ops.size - j)),linearise_go_acc _ _ m,append_assoc];congr 1;refine adp heb hj hc m _ _ (us.erase i) (by rw[List.length_erase_of_mem ma];omega) (iq.erase i) (λk hk=>bo k (List.mem_of_mem_erase hk)) (by simp[bU]) (hd.set ko) (λk hk=> ?_);rw[ahH bU h1];by_cases hki:k=i;subst hki;have:=bo k ma;simp only[if_true,Bool.true_eq_false,false_iff,not_or];exact⟨λh=>(List.Nodup.not_mem_erase iq) h,by omega⟩;rw[if_neg hki,hl k hk,List.Nodup.mem_erase_iff iq];simp[hki]
theorem xF(heb:dY ops=true){j:Nat}(hj:j<=ops.size)(hc:xu ops j=true)(t:Nat):
 Region.linearise .any ops t=Region.linearise.go .any ops j t (Array.replicate ops.size false) []++range' j (ops.size - j):=by
 have:=adp heb hj hc j t (Array.replicate ops.size false) (List.range j) List.length_range List.nodup_range (λi hi=>mem_range.1 hi) (by simp)
  (λi o _ hi=>by rw[getD_eq_getD_getElem?,Array.getElem?_replicate]at hi;split at hi<;>simp at hi) (λk hk=>by
    simp only[getD_eq_getD_getElem?,Array.getElem?_replicate,hk,if_true,getD_some,true_iff,mem_range];omega)
 rw[show j+(ops.size - j)=ops.size from by omega]at this;exact this
theorem abN{j0:Nat}(ajZ:xu ops j0=true)(hS:SOk P S Z)(nT:dZ Z X)(heb:dY ops=true){T':List AV}{H':aS}{Q:Act->World->Prop}(hQ:∀aL a' w',mJ X aL T' H' a' w'->Q a' w'):
 ∀(fuel:Nat) (listed:Array Bool) (es:List El) (T:List AV) (H:aS) (ρ:Nat->Value) (a:Act) (w:World),es.length=fuel->listed.size=ops.size->es.Pairwise (qY ops)->
 (∀e∈es,e.i<j0)->(∀i,i<ops.size->(listed.getD i true=false↔(∃e∈es,e.i=i)\/j0<=i))->(∀i o,ops[i]? =some o->listed.getD i false=true->∀e∈o.after,Region.binds .any e=true->listed.getD e.on false=true)->mJ X ρ T H a w->oT P S ops T H es T' H'->wpC P ops Q fuel listed a w:=by
 intro fuel
 induction fuel with
 |zero=>
  intro listed es T H ρ a w bB bU hp alT hl hdc af8 hc;obtain rfl:es=[]:=List.length_eq_zero_iff.1 bB;obtain⟨rfl,rfl⟩:=hc;exact hQ _ _ _ af8
 |succ fuel ih=>
  intro listed es T H ρ a w bB bU hp alT hl hdc af8 hc
  have first:∃e∈es,e.i∈Region.ready .any ops listed:=by
   cases es with
   |nil=>simp at bB|cons e es=>
    have ho:=hc.1.op;have bo:e.i<ops.size:=(Array.getElem?_eq_some_iff.1 ho).1;refine⟨e,by simp,xD bU heb bo ((hl e.i bo).2 (.inl ⟨e,by simp,rfl⟩)) (λk hk=> ?_)⟩;have hej:=alT e (by simp);cases h:listed.getD k true with
    |true=>rfl|false=>
     rcases(hl k (by omega)).1 h with⟨f,hf1,hf2⟩|h2;rcases mem_cons.1 hf1 with rfl|hf1;omega;have:=((pairwise_cons.1 hp).1 f hf1).1;omega;omega
  refine⟨λhr=> ?_,λi hi=> ?_⟩;have⟨e,_,he⟩:=first
  rw[hr]at he;simp at he;have⟨h1,h2,o,ho,h3⟩:=gg hi
  obtain⟨f,hf,rfl⟩:∃e∈es,e.i=i:=by
   rcases(hl i h1).1 h2 with h|h;exact h;have⟨e,he1,he2⟩:=first
   have⟨h4,h5,_⟩:=gg he2;have h6:=alT e he1;have:=oZ hdc hi (xE ajZ h1 h (show e.i<i by omega));rw[h5]at this;cases this
  obtain⟨pre,post,rfl⟩:=List.append_of_mem hf;have mK:∀e∈pre,qY ops e f:=λe he=>(List.pairwise_append.1 hp).2.2 e he f (by simp)
  have at3:∀e∈pre,adh ops e f:=by
   intro e he;rcases(mK e he).2 with h4|h4;exfalso;have h8:listed.getD e.i false=true:=jr (L:=λi=>listed.getD i false=true) hdc 9 ho h3 h4;have bo:e.i<ops.size:=by have:=(mK e he).1;omega
   have h9:=(hl e.i bo).2 (.inl ⟨e,by simp[he],rfl⟩);have cO:e.i<listed.size:=by omega
   simp only[Array.getD,cO,dif_pos]at h8 h9;rw[h8]at h9;cases h9;exact h4
  have⟨jU,hch⟩:=front pre hc at3;refine ahB hS nT jU af8 (λaL a' w' eG=> ?_)
  have keep:∀j,listed.getD j false=true->(listed.setIfInBounds f.i true).getD j false=true:=λj hj=>by
   simp only[getD_eq_getD_getElem?,Array.getElem?_setIfInBounds]at hj ⊢;split;split<;>simp_all;exact hj
  have at4:∀i o,ops[i]? =some o->(listed.setIfInBounds f.i true).getD i false=true->∀e∈o.after,Region.binds .any e=true->(listed.setIfInBounds f.i true).getD e.on false=true:=by
   intro i o' dH fq e he hb;by_cases hif:i=f.i;subst hif;rw[ho]at dH;cases dH;exact keep _ (h3 e he hb);refine keep _ (hdc i o' dH ?_ e he hb);simp only[getD_eq_getD_getElem?,Array.getElem?_setIfInBounds,if_neg (Ne.symm hif)]at fq ⊢;exact fq
  refine ih _ (pre++post) _ _ aL a' w' ?_ (by simp[bU]) ?_ (λe he=>alT e (by
   rcases mem_append.1 he with he|he;exact mem_append.2 (.inl he);exact mem_append.2 (.inr (mem_cons_of_mem _ he)))) ?_ at4 eG hch
  simp only[length_append,length_cons]at bB ⊢;omega;exact hp.sublist (List.Sublist.append (List.Sublist.refl _) (List.sublist_cons_self _ _));intro j hj
  have alD:∀e∈pre++post,e.i≠f.i:=by
   intro e he;rcases mem_append.1 he with he|he;have:=(mK e he).1;omega;have:=(pairwise_cons.1 (List.pairwise_append.1 hp).2.1).1 e he;have:=this.1;omega
  have cO:j<listed.size:=by omega
  have at5:(listed.setIfInBounds f.i true).getD j true=if j=f.i then true else listed.getD j true:=by
   simp only[getD_eq_getD_getElem?,Array.getElem?_setIfInBounds];by_cases hjf:f.i=j;subst hjf;simp[cO];simp[hjf,Ne.symm hjf]
  rw[at5];by_cases hjf:j=f.i;subst hjf;have:=alT f hf;simp only[if_true,Bool.true_eq_false,false_iff,not_or,not_exists,not_and];exact⟨alD,by omega⟩;rw[if_neg hjf,hl j hj];constructor;rintro(⟨e,he,rfl⟩|h);refine .inl ⟨e, ?_,rfl⟩;simp only[mem_append,mem_cons]at he ⊢;rcases he with he|rfl|he;exact .inl he;exact(hjf rfl).elim;exact .inr he;exact .inr h;rintro(⟨e,he,rfl⟩|h);refine .inl ⟨e, ?_,rfl⟩;simp only[mem_append,mem_cons]at he ⊢;rcases he with he|he;exact .inl he;exact .inr (.inr he);exact .inr h
theorem agd{j0:Nat}(hj0:j0<=ops.size)(ajZ:xu ops j0=true)(hS:SOk P S Z)(nT:dZ Z X){cont:St->List Touch->Tree}(hso:iF ops=true)(heb:dY ops=true)(h:(mf P S ops cont 0 (ops.toList.take j0) s []).Holds K C)(hcl:∀s' rF,(cont s' rF).Holds K C->jd ops rF=true)
 {Q:Act->World->Prop} (hQ:∀aL s' rF a' w',(cont s' rF).Holds K C->cg X aL s' a' w'->Q a' w') (hr:cg X ρ s a w):wpC P ops Q j0 (Array.replicate ops.size false) a w:=by
 have⟨es,s',rF,T',g1,g2,g3,g4,g5,g6⟩:=gK (ops.toList.take j0) 0 s [] s.tmps (λj o hj=>by
  rw[getElem?_take]at hj;split at hj;simpa using hj;cases hj) h rfl (λt=>.inl rfl)
 have hcf:=gS _ (hcl _ _ g1);rw[g6,append_nil,List.pairwise_reverse,List.pairwise_map,List.pairwise_filter]at hcf;have zk:=xx g2
 have ac1:es.Pairwise (λe f=>e.i<f.i):=by
  have:(es.map El.i).Pairwise (· < ·):=by rw[g5];exact List.pairwise_lt_range'
  rwa[List.pairwise_map]at this
 have abL:es.Pairwise (qY ops):=by
  refine(hcf.and ac1).imp_of_mem (λ{e f} he hf ⟨hc,bo⟩=>⟨bo, ?_⟩);cases hna:gJ ops f.i e.i with
  |true=>exact .inl rfl|false=>
   refine .inr ?_;have⟨s1,s2⟩:=vt hso (zk e he) (zk f hf) bo hna
   have hh:(∀id∈e.wr,id ∉ f.rd/\id ∉ f.wr)/\∀id∈f.wr,id ∉ e.rd:=by
    cases hqe:e.q with
    |none=>
     have e1:e.wr=[]:=by simp[El.wr,hqe]
     have e2:=kX g2 e he hqe;exact⟨λid dq=>by rw[e1]at dq;simp at dq,λid _=>by rw[e2];simp⟩
    |some qe=>
     cases hqf:f.q with
     |none=>
      have e1:f.wr=[]:=by simp[El.wr,hqf]
      have e2:=kX g2 f hf hqf;exact⟨λid _=>by rw[e1,e2];simp,λid dq=>by rw[e1]at dq;simp at dq⟩
     |some qf=>
      rcases hc (by rw[hqe];rfl) (by rw[hqf];rfl)with h1|h1;exact Touch.xw (a:=e.nK) (b:=f.nK) h1;exact(by rw[show f.nK.i=f.i from rfl,show e.nK.i=e.i from rfl,hna]at h1;cases h1)
   exact⟨s1,s2,hh.1,hh.2⟩
 have bB:es.length=j0:=by
  have:=congrArg List.length g5;simp only[length_map,List.length_range',length_take,length_toList]at this;omega
 refine abN ajZ hS nT heb (λaL a' w' eG=>hQ aL s' rF a' w' g1 ⟨eG.sat,g3▸eG.size,λt=>(g4 t).den (eG.den t),eG.defers,eG.ao,eG.jF,eG.kept⟩) j0 _ es s.tmps s.look ρ a w bB (by simp) abL (λe he=> ?_) ?_ (λi o _ hi=>by rw[getD_eq_getD_getElem?,Array.getElem?_replicate]at hi;split at hi<;>simp at hi) hr.toF g2;have:e.i∈es.map El.i:=List.mem_map_of_mem he;rw[g5,List.mem_range'_1,length_take]at this;omega;intro i hi;simp only[getD_eq_getD_getElem?,Array.getElem?_replicate,hi,if_true,getD_some,true_iff];rcases lt_or_ge i j0 with h1|h1;have:i∈es.map El.i:=by rw[g5,List.mem_range'_1,length_take,length_toList];omega
 obtain⟨e,he,rfl⟩:=mem_map.1 this;exact .inl ⟨e,he,rfl⟩;exact .inr h1
end
section
variable{ρ aL:Nat->Value}{H H':aS}{G O O':Nat->Prop}{w w':World}{P:Program}{Z:bh}{X:Ctx}{s:St}{a:Act}
theorem xG{id:Nat}{c:aU}{o:ak}:(ade id c o).alive=o.alive:=by cases o<;>rfl
theorem alU{id:Nat}{c:aU}{o:ak}{c':aU}{e':TypeId}(h:ade id c o=.vec c' e'):o=.vec c' e':=by
 cases o<;>simp[ade]at h ⊢;exact h
theorem cg.age(h:cg X ρ s a w)(id:Nat):cg X ρ (xr s id) a w:=by
 unfold xr;split;rename_i c e ho;have hs:=h.sat;have bo:id<s.H.length:=(List.getElem?_eq_some_iff.1 ho).1;let s':St:=⟨s.tmps.map (oO id c),(s.H.map (ade id c)).set id .aw⟩
 have look:∀j,s'.look j=if j=id then some .aw else(s.look j).map (ade id c):=by
  intro j;show((s.H.map (ade id c)).set id .aw)[j]? =_;rw[getElem?_set];by_cases hj:id=j;subst hj;simp[bo];rw[if_neg hj,if_neg (Ne.symm hj),getElem?_map];rfl
 have rO:∀b,Own ρ s'.look b->Own ρ (aB s.look id .aw) b:=by
  rintro b ⟨j,o,hj,h1,h2⟩;rw[look]at hj;by_cases e1:j=id;rw[if_pos e1]at hj;cases hj;cases h1;rw[if_neg e1]at hj;obtain⟨o0,h3,rfl⟩:=map_eq_some_iff.1 hj;exact⟨j,o0,by simp[aB,e1,h3],by rw[xG]at h1;exact h1,h2⟩
 have aq:∀b,Own ρ s'.look b->Own ρ s.look b:=λb hb=>fj (rO b hb)
 have st:Step ρ s.look (aV ρ s.look X.G) w ρ s'.look (aV ρ s'.look X.G) w:=by
  refine⟨λ_ _ _=>rfl,λj o hj=> ?_,λb hb=>.inl (hb.imp (aq b) (λx=>x)),λ_ _ _=>rfl,le_refl _⟩;by_cases e1:j=id;exact⟨.aw,by rw[look,if_pos e1],λc' e' he=>by cases he⟩;refine⟨ade id c o,by rw[look,if_neg e1,hj];rfl,λc' e' he=> ?_⟩;exact⟨c',e',alU he,rfl,rfl⟩
 have gone:aW (aV ρ s'.look X.G) w (.ro c) (ρ id):=(rX hs ho).asx λb hb=>hb.imp (rO b) (λx=>x)
 have eqv:∀{j:Nat} {v:Value},aN ρ s.look (aV ρ s.look X.G) w (.vec j) v->j=id->v=ρ id:=by
  intro j v hv e1;subst e1;unfold aN at hv;have⟨_,o,h1,h2⟩:=hv;have h3:s.look j=some (.vec c e):=ho;rw[h3]at h1;cases h1;exact h2 c e rfl
 have agf:∀x cs,aQ ρ s.look (aV ρ s.look X.G) w x cs->aQ ρ s'.look (aV ρ s'.look X.G) w (oN id c x) cs:=by
  intro x cs hx;have ni:=aQ.step st x cs hx;cases x<;>try exact ni
  rename_i j;simp only[oN,cond_eq_ite];split;rename_i hj;have hj:j=id:=by simpa using hj
  unfold aQ at hx ⊢;obtain⟨u,rfl,hu⟩:=hx;exact⟨u,rfl,by rw[eqv hu hj];exact gone⟩;exact ni
 have np:∀(xs:List AV) cs,az ρ s.look (aV ρ s.look X.G) w xs cs->az ρ s'.look (aV ρ s'.look X.G) w (xs.map (oN id c)) cs:=by
  intro xs
  induction xs with
  |nil=>intro cs hx;exact aC.2 (aC.1 hx)
  |cons x xs ih=>
   intro cs hx;obtain⟨c1,c2,rfl,h1,h2⟩:=ag.1 hx;exact ag.2 ⟨c1,c2,rfl,agf _ _ h1,ih _ h2⟩
 have aue:∀x v,af ρ s.look (aV ρ s.look X.G) w x v->af ρ s'.look (aV ρ s'.look X.G) w (oO id c x) v:=by
  intro x v hx;have ni:=af.step st x v hx;cases x with
  |agg ay=>
   unfold af at hx;obtain⟨cs,rfl,h1⟩:=hx;show af _ _ _ _ (.agg _) _;unfold af;exact⟨cs,rfl,np _ _ h1⟩
  |vec j=>
   simp only[oO,cond_eq_ite];split;rename_i hj;have hj:j=id:=by simpa using hj
   unfold af at hx;rw[eqv hx hj];exact aE gone;exact ni
  |_=>exact ni
 refine⟨⟨λj o hj=> ?_,λi j oi oj b h1 h2 h3 h4 h5 h6=> ?_,λb hb=>hs.apart b (aq b hb),hs.low⟩,by rw[<-h.size];exact length_map _,λt=> ?_,h.defers,h.ao.trans st,h.jF,h.kept⟩;have hj:s'.look j=some o:=hj;rw[look]at hj;by_cases e1:j=id;rw[if_pos e1]at hj;cases hj;trivial;rw[if_neg e1]at hj;obtain⟨o0,h3,rfl⟩:=map_eq_some_iff.1 hj;have dT:=hs.obj j o0 h3;cases o0 with
 |aq ay e1=>
  have⟨b,cells,fr,g1,g2,g3,g4⟩:=dT;exact⟨b,cells,fr,g1,g2,g3,np _ _ g4⟩
 |_=>exact dT.step st (λ_ _ _=>rfl)
 have key:∀i oi,s'.look i=some oi->oi.alive=true->∃x,s.look i=some x/\x.alive=true:=by
  intro i oi hi ha;rw[look]at hi;by_cases e1:i=id;rw[if_pos e1]at hi;cases hi;cases ha;rw[if_neg e1]at hi;obtain⟨o0,h3,rfl⟩:=map_eq_some_iff.1 hi;exact⟨o0,h3,by rw[xG]at ha;exact ha⟩
 have⟨x,hx,hxa⟩:=key i oi h1 h3;have⟨y,hy,hya⟩:=key j oj h2 h4;exact hs.inj i j x y b hx hy hxa hya h5 h6
 have e1:(s.tmps.map (oO id c)).getD t (.s .aY)=oO id c (s.tmps.getD t (.s .aY)):=by
  rw[List.getD_eq_getElem?_getD,List.getD_eq_getElem?_getD,getElem?_map];cases s.tmps[t]? <;>rfl
 show af _ _ _ _ ((s.tmps.map (oO id c)).getD t (.s .aY)) _;rw[e1];exact aue _ _ (h.den t);exact h
theorem cg.awN(ids:List Nat):∀{s:St},cg X ρ s a w->cg X ρ (ids.foldl xr s) a w:=by
 induction ids with
 |nil=>intro s h;exact h
 |cons id ids ih=>intro s h;exact ih (h.age id)
theorem cg.iE(h:cg X ρ s a w)(o:Oper):cg X ρ (iE s o) a w:=by
 unfold Sx.iE;split;exact h.awN _;split;exact h.awN _;exact h;exact h
end
section
variable{ρ aL:Nat->Value}{H H':aS}{G O O':Nat->Prop}{w w':World}{P:Program}{S:fG}{Z:bh}{X:Ctx}{s:St}{a:Act}{K:List ak->AV->Prop}{C:bP->Prop}{ops:Array Oper}{E E':List (Nat×Obj)}
theorem kq.tmp{n:Nat}{rest:List Value}{Ds:List Nat}{a t:Act}(h:kq n rest Ds a t){o:Oper}{i:Nat}(cO:r5 n rest ops)(ho:ops[i]? =some o):Region.wanted o (yielded ops t.tmps)=Region.wanted o (yielded ops a.tmps):=(h.same cO ho).2
theorem nq(hS:SOk P S Z)(nT:dZ Z X){f0:FuncId}{R:Ending->World->Prop}{enter:St->Nat->Oper->Option Tree}{cont:St->Tree}{n:Nat}{rest:List Value}{Ds:List Nat}{b:Frame}{k:List Item}{fs:List Frame}
 (iq:iG ops=true) (cO:r5 n rest ops)
 (alV:∀s,(cont s).Holds K C->∀ρ a t w,cg X ρ s a w->kq n rest Ds a t->cN P f0 R b t k fs w)
 (fW:∀s i o tr,enter s i o=some tr->tr.Holds K C->∀ρ a t w,ops[i]? =some o->Region.wanted o (yielded ops a.tmps)=true->cg X ρ s a w->kq n rest Ds a t->
   cN P f0 R b t (.inRegion ops (range' i (ops.size - i))::k) fs w):
 ∀(l:List Oper) (i:Nat) (s:St),(∀j,l[j]? =ops[i+j]?)->i+l.length=ops.size->(lU P S ops enter cont i l s).Holds K C->∀(ρ:Nat->Value) (a t:Act) (w:World),cg X ρ s a w->kq n rest Ds a t->
  cN P f0 R b t (.inRegion ops (range' i l.length)::k) fs w
 |[],i,s,hl,bU,h,ρ,a,t,w,hr,ht=>cN.step (λ_=>stepR_region_end) (alV s h ρ a t w hr ht)|o::l,i,s,hl,bU,h,ρ,a,t,w,hr,ht=>by
  have ho:ops[i]? =some o:=by simpa using(hl 0).symm
  have hl':∀j,l[j]? =ops[i+1+j]? :=λj=>by
   have:=hl (j+1);rw[show i+(j+1)=i+1+j from by omega]at this;simpa using this
  have aju:i+1+l.length=ops.size:=by simp only[length_cons]at bU;omega
  have lK:rest=[]\/∀d,o.dst=some d->d<n:=(cO.op ho).imp id (·.2.1);simp only[length_cons,List.range'_succ];have oV:∀(s:St) (a:Act),cg X ρ s a w->kq n rest Ds a t->Region.wanted o (yielded ops a.tmps)=true->
   (match enter s i o with
     |some t=>t|none=>match(vN P (S (iE s o).H.length) (jc (iE s o).tmps) o).eval (iE s o).look with
      |some r=>bif aan (iE s o).H.length r.up then Tree.aam r.ab (lU P S ops enter cont (i+1) l ((iE s o).put o.dst r))else .stuck ""|none=>.stuck (o.pos++ " " ++(vN P (S (iE s o).H.length) (jc (iE s o).tmps) o).why (iE s o).look)).Holds K C->
   cN P f0 R b t (.inRegion ops (i::range' (i+1) l.length)::k) fs w:=by
   intro s a hr ht hw h;split at h;rename_i tr hc;have:=fW s i o tr hc h ρ a t w ho hw hr ht;rwa[show ops.size - i=l.length+1 from by omega,List.range'_succ]at this;have hr:=hr.iE o;generalize iE s o=s at *;split at h;rename_i q hq;rw[cond_eq_ite]at h;split at h;rename_i hup;have⟨hn,h2⟩:=oQ _ _ h;have hy:=hr.op hS nT hq hn (alN hup)
   have hy':Yields P o t.eval w (λv w'=>∃aL,cg X aL (s.put o.dst q) (a.put o.dst v) w'):=by
    unfold Yields at *;rw[(ht.same cO ho).1];exact hy
   intro cs;have⟨v,w',⟨aL,eG⟩,ni⟩:=ahE ho (by rw[(ht.same cO ho).2];exact hw) (oX iq ho) hy' b k (fs++cs) (rest:=range' (i+1) l.length);have⟨e,w2,fr,g1,g2,g3⟩:=nq hS nT iq cO alV fW l (i+1) _ hl' aju h2 aL _ _ w' eG (ht.put lK v) cs;exact⟨e,w2,fr,g1,Comes.of_steps ni g2,g3⟩;exact h.elim;exact h.elim
  have oW:∀(s:St) (a:Act),cg X ρ s a w->kq n rest Ds a t->Region.wanted o (yielded ops a.tmps)=false->(lU P S ops enter cont (i+1) l {s with tmps:=cV s.tmps o.dst (.bq [])}).Holds K C->
   cN P f0 R b t (.inRegion ops (i::range' (i+1) l.length)::k) fs w:=by
   intro s a hr ht hw h;refine cN.step (λcs=>abM ho (by rw[(ht.same cO ho).2];exact hw) b k (fs++cs)) ?_;exact nq hS nT iq cO alV fW l (i+1) _ hl' aju h ρ _ _ w (hr.skip o.dst) (ht.put lK undef)
  unfold lU at h;simp only[]at h;split at h;rename_i hg;exact oV s a hr ht (by simp[Region.wanted,hg]) h;rename_i g want hg;split at h;exact h.elim;rename_i d hd;split at h;rename_i b' hb
  have hy:yielded ops a.tmps g=some b':=by
   simp only[yielded,hd,Option.bind_some,oR hr hb]
  rw[cond_eq_ite]at h;split at h;rename_i hbw;exact oV s a hr ht (by simp only[Region.wanted,hg,hy];simpa using hbw) h;rename_i hbw;exact oW s a hr ht (by simp only[Region.wanted,hg,hy];simpa using hbw) h;rename_i b' hb;have eG:cg X ρ {s with tmps:=s.tmps.set d (.s (.aI b'))} a w:=hr.refine hb oS
  have bo:d<s.tmps.length:=by
   rcases lt_or_ge d s.tmps.length with h3|h3;exact h3;rw[List.getD,getElem?_eq_none h3]at hb;simp at hb
  have hy:yielded ops a.tmps g=some b':=by
   simp only[yielded,hd,Option.bind_some];rw[oR eG (d:=d) (b:=b') (by simp[List.getD,bo])]
  have⟨h1,h2⟩:=h;cases b';have h2:=h2 rfl;cases want;exact oV _ a eG ht (by simp only[Region.wanted,hg,hy];rfl) h2;exact oW _ a eG ht (by simp only[Region.wanted,hg,hy];rfl) h2;have h1:=h1 rfl;cases want;exact oW _ a eG ht (by simp only[Region.wanted,hg,hy];rfl) h1;exact oV _ a eG ht (by simp only[Region.wanted,hg,hy];rfl) h1;rename_i n0 eq hb
  have bo:d<s.tmps.length:=by
   rcases lt_or_ge d s.tmps.length with h3|h3;exact h3;rw[List.getD,getElem?_eq_none h3]at hb;simp at hb
  have hd0:=hr.den d;rw[hb]at hd0
  obtain⟨bb,hbv,hb0⟩:∃bb,a.tmps.getD d undef=.bool bb/\(bb=eq->n0=0):=by
   have h2:=ax (by simp) hd0;generalize a.tmps.getD d undef=u at h2;cases h2;exact⟨_,rfl,by assumption⟩
  have eG:cg X ρ {s with tmps:=s.tmps.set d (.s (.aI bb))} a w:=hr.abI hb (by rw[hbv];exact aE (.aI bb))
  have hy:yielded ops a.tmps g=some bb:=by
   simp only[yielded,hd,Option.bind_some];rw[oR eG (d:=d) (b:=bb) (by simp[List.getD,bo])]
  have⟨h1,h2⟩:=h;cases bb;have h2:=h2 (by cases eq<;>first|exact hb0 rfl|trivial);cases want;exact oV _ a eG ht (by simp only[Region.wanted,hg,hy];rfl) h2;exact oW _ a eG ht (by simp only[Region.wanted,hg,hy];rfl) h2;have h1:=h1 (by cases eq<;>first|exact hb0 rfl|trivial);cases want;exact oW _ a eG ht (by simp only[Region.wanted,hg,hy];rfl) h1;exact oV _ a eG ht (by simp only[Region.wanted,hg,hy];rfl) h1;rename_i hb
  have hy:yielded ops a.tmps g=none:=by
   simp only[yielded,hd,Option.bind_some,ajV hr hb,undef]
  exact oW s a hr ht (by simp only[Region.wanted,hg,hy];simp) h;exact h.elim
theorem Wf.top{f0:FuncId}{c:bP}{vs:List Value}{b:Frame}{t:Act}{fs:List Frame}(hl:c.tmps.length=vs.length)(hw:Wf f0 c.stk vs E b t fs):∃rest Ds,kq c.n rest Ds ⟨vs.toArray,[]⟩ t/\(c.stk.plain=true->rest=[])/\
 ∀a' t',kq c.n rest Ds a' t'->a'.defers=[]->Wf f0 c.stk a'.tmps.toList E b t' fs:=by
 obtain⟨hn,v0,rv,v2,Ds,E1,E2,rfl,rfl,hd,h3,h4⟩:=hw;have⟨l0,l1,l2⟩:=pP hl rfl hd h3 h4;refine⟨rv++(Ds.map ej++v2),Ds,⟨⟨v0,by simp,by rw[h3.act],l0⟩,by rw[h3.act];rfl⟩,λhp=> ?_,λa' t' ht hdf=> ?_⟩;simp only[uf.plain,and_eq_true,not_eq_true']at hp;have⟨⟨p1,p2⟩,p3⟩:=hp;have e1:rv=[]:=List.eq_nil_of_length_eq_zero (by rw[l1,p1];rfl);have e2:Ds=[]:=List.eq_nil_of_length_eq_zero (hd.trans (Nat.eq_of_beq_eq_true p2));have e3:c.stk.below=[]:=List.isEmpty_iff.1 p3;rw[e3]at h4;rw[e1,e2,h4.1];rfl;have⟨q8,k1,k2,k3⟩:=ht.sl;refine⟨hn,q8,rv,v2,Ds,E1,E2,k1,rfl,hd,⟨h3.fr, ?_,h3.ghost⟩,h4⟩;have⟨tt,td⟩:=t';have:=ht.df;rw[hdf]at this;simp only[nil_append]at this;simp only at k2 this;rw[k2,this]
theorem Act.eta{a:Act}(h:a.defers=[]):(⟨a.tmps.toList.toArray,[]⟩:Act)=a:=by
 have⟨x,y⟩:=a;simp only at h;subst h;simp
theorem kq.bool{n:Nat}{rest:List Value}{Ds:List Nat}{a t:Act}(h:kq n rest Ds a t){j:Nat}(hj:rest=[]\/j<n):t.eval (.tmp j)=a.tmps.getD j undef:=by
 rw[h.eval (hj.imp id λg=>λi e=>by cases e;exact g)];rfl
theorem adq{p q:Bool}{rest:List Value}{R:Prop}(h:(p||q)=true)(h1:p=true->rest=[])(h2:q=true->R):rest=[]\/R:=by
 rcases Bool.or_eq_true_iff.1 h with h|h;exact .inl (h1 h);exact .inr (h2 h)
theorem agh{a b:Nat}(h:a.blt b=true):a<b:=by simpa[Nat.blt,Nat.lt_iff_add_one_le]using h
theorem abO{f0:FuncId}{c:bP}{id:Nat}{y:tB×Lp×List AV}{b:Frame}{t:Act}{fs:List Frame}{k:List Item}(er:c.stk.round=true)(dq:c.tmps.getD c.n (.s .aY)=.tag id)
 (hf:kW id c.stk.below (c.tmps.drop (c.n+c.stk.extra))=some (y.1,y.2.1,.ready,y.2.2))
 (oV:Safe P f0 X K {c with todo:=k,stk:={c.stk with below:=jE id .busy c.stk.below (c.tmps.drop (c.n+c.stk.extra))}})
 (gL:∀b,X.G b->G b) (hZ:∀b,G b->X.G b\/X.w.heap.size<=b) (hr:cg (X.at G E) ρ ⟨c.tmps,c.H⟩ a w) (hw:Wf f0 c.stk a.tmps.toList E b t fs):
 cN P f0 (kp X K) b t (.beginRound::k) fs w:=by
 obtain⟨hn,v0,rv,v2,Ds,E1,E2,e1,rfl,hd,h3,h4⟩:=hw;have⟨l0,l1,l2⟩:=pP hr.dp.len e1 hd h3 h4;have hb:=h3.fr;rw[er]at hb;obtain⟨r,rfl,l,zA,hrr⟩:=hb;subst zA hrr;have hdp:=hr.dp.drop (c.n+c.stk.extra);rw[l2]at hdp
 have tA:(E2.map (·.1)).Nodup:=by
  rw[map_append]at hn;exact(nodup_append.1 hn).2.1
 have⟨l',D,q8,g1,g2,g3,g4,g5,g6⟩:=pO hf h4 tA hdp.get
 have kU:a.tmps.toList.getD c.n undef=ct l:=by
  rw[e1,List.getD,getElem?_append_right (by omega),show c.n - v0.length=0 from by omega];rfl
 have lL:=hr.dp.get c.n;rw[dq,kU]at lL;unfold af aN at lL;have hll:l'=l:=xz (g1.symm.trans lL.1.symm);subst hll;have iB:=(hr.kept _ (show _∈(E1++E2)from mem_append_right _ g3)).2.2;have azv:=run_beginRound (P:=P) iB rfl
 have hl1:l' ∉ E1.map (·.1):=by
  intro hm;rw[map_append]at hn;exact(nodup_append.1 hn).2.2 l' hm l' (List.mem_map_of_mem (f:=Prod.fst) g3) rfl
 have zB:cg (X.at G (E1++upE l' (Obj.loop (mI.busy.gv y.2.1 (y.1.f.getD f0) q8.toArray D)) E2)) ρ ⟨c.tmps,c.H⟩ a (w.putObj l' (Obj.loop (mI.busy.gv y.2.1 (y.1.f.getD f0) q8.toArray D))):=
  hr.apL (show(l',Obj.loop (mI.ready.gv y.2.1 (y.1.f.getD f0) q8.toArray D))∈(E1++E2)from mem_append_right _ g3) (λz hz=>by
   rcases mem_append.1 hz with h6|h6;exact .inl ⟨List.mem_append_left _ h6,λe=>hl1 (e▸List.mem_map_of_mem (f:=Prod.fst) h6)⟩;rcases ahF z h6 with h7|h7;exact .inl ⟨mem_append_right _ h7.1,h7.2⟩;exact .inr h7)
 have key:=oV G _ ρ a _ gL hZ zB _ t fs ⟨by rw[map_append,adl,<-map_append];exact hn,v0,[ct l'],v2,Ds,E1,_,e1,rfl,hd,h3,g6 .busy⟩;exact cN.step (λcs=>stepR_beginRound (l:=l') rfl azv) key
theorem gh{f:FuncId}{fn:Func}{stop inl:Nat→Bool}(hS:SOk P S Z)(nT:dZ Z X)(hm:P.follows .mixedOrders=true)(hf:P.funcs[f]? =some fn):∀(n:Nat) (fst:Bool) (c:bP),(exec P S fn stop inl n fst c).Holds K (Safe P f X K)→Safe P f X K c
 |0,_,c,h=>h
 |n+1,fst,c,h=>by
  intro G E ρ a w gL hZ hr b t fs hw;have oV:∀c',(exec P S fn stop inl n false c').Holds K (Safe P f X K)→Safe P f X K c':=fun c' h'=>gh hS nT hm hf n false c' h';obtain⟨rest,Ds,q9,uh,hwf⟩:=hw.top hr.dp.len;rw[Act.eta hr.defers]at q9;have hto:∀k,(exec P S fn stop inl n fst {c with todo:=k}).Holds K (Safe P f X K)→cN P f (kp X K) b t k fs w:=fun k hk=>gh hS nT hm hf n fst _ hk G E ρ a w gL hZ hr b t fs hw
  have hbr:c.stk.round=false→b.roundOf=none:=fun h0=>by
   obtain⟨_,_,_,_,_,_,_,_,_,_,h3,_⟩:=hw;have:=h3.fr;rw[h0]at this;obtain⟨r,rfl,_,rfl⟩:=this;rfl
  have asz:∀k,(k=[]∨∃k',k=.code .ret::k')→c.stk.round=false→
   (match c.stk.fn P fn with
     |some g=>(match gD P ⟨c.tmps.take c.n,c.H⟩ g.results.toList with
      |some vs=>ahy c (oneOf vs) (fun c=>exec P S fn stop inl n false c)
      |none=>.stuck "")
     |none=>.stuck "").Holds K (Safe P f X K)→cN P f (kp X K) b t k fs w:=by
   intro k hk h0 h;split at h;rename_i g hg;split at h;rename_i vs hv;have key:=agc (todo:=k) hf hg h0 hv h oV gL hZ hr hw;refine fD.steps (fun cs=>.one ?_) key;rcases hk with rfl|⟨k',rfl⟩;exact stepR_end (hbr h0);exact stepR_ret (hbr h0);exact h.elim;exact h.elim
  have awO:∀(ff:Bool) (id:Nat) (rs:Array Oper) (i:Nat) (k:List Item),i≤rs.size→
   (bif iG rs&&(c.stk.plain||lV c.n rs)then
     lU P S rs (fun s j o=>
      bif stop (alK c.stk id j)&& !(ff&&j.beq i)then some (.at {c with tmps:=s.tmps,H:=s.H,todo:=.inRegion rs (range' j (rs.size - j))::k,stk:={c.stk with rid:=id}})else
      match rY o (jc s.tmps)with
      |some (g,args)=>(match g with
      |.s (.rH f)=>bif inl f then some (oP P {c with tmps:=s.tmps,H:=s.H} f args ⟨c.stk.f,c.n,c.stk.round,c.stk.marks,none,.inRegion rs (range' j (rs.size - j))::k,(id,j)⟩ (fun c=>exec P S fn stop inl n false c))else none
      |.fn f dv=>bif inl f then some (oP P {c with tmps:=s.tmps,H:=s.H} f (args++dv) ⟨c.stk.f,c.n,c.stk.round,c.stk.marks,none,.inRegion rs (range' j (rs.size - j))::k,(id,j)⟩ (fun c=>exec P S fn stop inl n false c))else none
      |.tag y=>some (abF {c with tmps:=s.tmps,H:=s.H} y args ⟨c.stk.f,c.n,c.stk.round,c.stk.marks,none,.inRegion rs (range' j (rs.size - j))::k,(id,j)⟩ (fun c=>exec P S fn stop inl n false c))
      |_=>none)
      |none=>bif ahw o then some (.at {c with tmps:=s.tmps,H:=s.H,todo:=.inRegion rs (range' j (rs.size - j))::k,stk:={c.stk with rid:=id}})else none) (fun s=>exec P S fn stop inl n ff {c with tmps:=s.tmps,H:=s.H,todo:=k,stk:={c.stk with rid:=0}}) i (rs.toList.drop i) ⟨c.tmps,c.H⟩
     else .stuck "").Holds K (Safe P f X K)→
   cN P f (kp X K) b t (.inRegion rs (range' i (rs.size - i))::k) fs w:=by
   intro ff id rs i k hi h;rw[cond_eq_ite]at h;split at h;rename_i hc;simp only[and_eq_true]at hc;have cO:r5 c.n rest rs:=adq hc.2 uh (fun x=>x);have bB:(rs.toList.drop i).length=rs.size - i:=by simp
   have hcn:∀(s:St),s.tmps.length=c.tmps.length→(bP.n {c with tmps:=s.tmps,H:=s.H})=c.n:=fun s hs=>by unfold bP.n;simp only[hs]
   have key:=nq (X:=X.at G E) (b:=b) (fs:=fs) (k:=k) (f0:=f) (R:=kp X K) (n:=c.n) (rest:=rest) (Ds:=Ds) hS (nT.at G E) hc.1 cO (fun s hs aL a' t' w' eG ht'=> ?_) (fun s j o tr zC htr aL a' t' w' ho awP eG ht'=> ?_)
    (rs.toList.drop i) i ⟨c.tmps,c.H⟩ (fun j=>by rw[List.getElem?_drop,Array.getElem?_toList]) (by rw[bB];omega) h ρ a t w hr q9
   rw[bB]at key;exact key;exact gh hS nT hm hf n ff _ hs G E aL a' w' gL hZ eG b t' fs (hwf a' t' ht' eG.defers);have hw':=hwf a' t' ht' eG.defers;have iq:=oX hc.1 ho;rw[cond_eq_ite]at zC;split at zC;cases zC;exact htr G E aL a' w' gL hZ eG b t' fs hw';by_cases awQ:rY o (jc s.tmps)=none;rw[awQ]at zC;simp only[cond_eq_ite]at zC;split at zC;cases zC;exact htr G E aL a' w' gL hZ eG b t' fs hw';cases zC;obtain⟨⟨g,args⟩,gC⟩:=Option.ne_none_iff_exists'.1 awQ;rw[gC]at zC;simp only[]at zC;obtain⟨vf,us,hvf,hus,hcf,hcy⟩:=apM (P:=P) gC (e:=a'.eval) (fun x _=>eG.ev x);have alW:Region.wanted o (yielded rs t'.tmps)=true:=by rw[(ht'.same cO ho).2];exact awP
   have hj:j<rs.size:=(Array.getElem?_eq_some_iff.1 ho).1
   have tV:range' j (rs.size - j)=j::range' (j+1) (rs.size - (j+1)):=by
    rw[show rs.size - j=rs.size - (j+1)+1 from by omega,List.range'_succ]
   have asA:s.tmps.length=a'.tmps.toList.length:=eG.dp.len
   have azw:c.tmps.length=s.tmps.length:=by
    obtain⟨v0,k1,_,k3⟩:=ht'.sl;obtain⟨q8,k1',_,k3'⟩:=q9.sl;rw[asA,k1,hr.dp.len,k1',length_append,length_append,k3,k3']
   have hn':=hcn s azw.symm;obtain⟨hnE,v0,rv,v2,Ds',E1,E2,e1,e2,hd,h3,h4⟩:=hw';obtain⟨q0,q1,q2⟩:=pP (c:={c with tmps:=s.tmps,H:=s.H}) asA e1 hd h3 h4;have ahG:∀key,WfS f (⟨c.stk.f,c.n,c.stk.round,c.stk.marks,none,.inRegion rs (range' j (rs.size - j))::k,key⟩::c.stk.below) a'.tmps.toList E
    (b.atR t' (.inRegion rs (range' j (rs.size - j))::k)::fs):=fun key=>
    ⟨v0,rv,v2,Ds',E1,E2,b,t',fs,[],[],_,by simpa using e1,by simpa using e2,rfl,q0.trans hn',hd,h3,h4,rfl,rfl,rfl⟩
   have push:∀(g':FuncId) (cs:List AV) (vs:List Value),vf=.func (.func g') #[] vs.toArray→bL aL s.look (aV aL s.look G) w' cs vs→
    (oP P {c with tmps:=s.tmps,H:=s.H} g' (args++cs) ⟨c.stk.f,c.n,c.stk.round,c.stk.marks,none,.inRegion rs (range' j (rs.size - j))::k,(id,j)⟩ (fun c=>exec P S fn stop inl n false c)).Holds K (Safe P f X K)→
    cN P f (kp X K) b t' (.inRegion rs (range' j (rs.size - j))::k) fs w':=by
    intro g' cs vs hv qW htr;obtain⟨auf,key⟩:=vu (c:={c with tmps:=s.tmps,H:=s.H}) (us:=us++vs) htr oV gL hZ eG (jD hus qW) hnE (ahG _);refine fD.steps (fun cs=>.one ?_) key;rw[tV];refine alQ ho alW iq ?_ b k (fs++cs);rw[(ht'.same cO ho).1];exact hcf g' vs hv auf
   split at zC;rename_i g';rw[cond_eq_ite]at zC;split at zC;cases zC;exact push g' [] [] (abD (ax (by simp) hvf)) (a8.2 rfl) (by rw[append_nil];exact htr);cases zC;rename_i g' dv;rw[cond_eq_ite]at zC;split at zC;cases zC;unfold af at hvf;obtain⟨vs,hv,rW⟩:=hvf;exact push g' dv vs hv rW htr;cases zC;rename_i y;cases zC;have apN:a'.tmps.toList.drop (bP.n {c with tmps:=s.tmps,H:=s.H}+c.stk.extra)=v2:=q2;obtain⟨l,r,hv,iB,awR,key⟩:=adn (c:={c with tmps:=s.tmps,H:=s.H}) (us:=us) htr oV gL hZ eG hus hnE (ahG _) e2 apN h4 hvf;refine fD.steps (fun cs=>.one ?_) key;rw[tV];refine alR ho alW iq ?_ b k (fs++cs);rw[(ht'.same cO ho).1];exact hcy l hv r iB awR;cases zC;exact h.elim
  unfold exec at h;simp only[]at h;split at h;rename_i nZ;rw[nZ];rw[cond_eq_ite]at h;split at h;rename_i er;exact ra er h oV gL hZ hr hw (fun l w' c0 cs h1 h2 h3=>stepR_round_end h1 h2 h3);rename_i er;exact asz [] (.inl rfl) (by simpa using er) h;rename_i k nZ;rw[nZ];rw[cond_eq_ite]at h;split at h;rename_i er;exact ra er h oV gL hZ hr hw (fun l w' c0 cs h1 h2 h3=>stepR_round_ret h1 h2 h3);rename_i er;exact asz _ (.inr ⟨k,rfl⟩) (by simpa using er) h;rename_i k nZ;rw[nZ];exact cN.step (fun _=>stepR_skip) (hto _ h);rename_i k l nZ;rw[nZ];exact cN.step (fun _=>stepR_label) (hto _ h);rename_i k nZ;rw[nZ];exact cN.step (fun _=>stepR_inBlock) (hto _ h);rename_i k nZ;rw[nZ];exact cN.step (fun _=>step_lone_go (by simp[stepG,stepG.exec,Frame.atR])) (hto _ h);rename_i x y k nZ;rw[nZ];exact cN.step (fun _=>stepR_seq) (hto _ h);rename_i id body k nZ;rw[nZ];exact cN.step (fun _=>stepR_block) (hto _ h);rename_i body k nZ;rw[nZ];exact cN.step (fun _=>step_lone_go (by simp[stepG,stepG.exec,Frame.atR])) (hto _ h);rename_i id k nZ;rw[nZ];split at h;rename_i k' hk';exact cN.step (fun _=>stepR_exit hk') (hto _ h);rename_i hk';rw[cond_eq_ite]at h;split at h;rename_i er;exact ra er h oV gL hZ hr hw (fun l w' c0 cs h1 h2 h3=>stepR_round_exit h1 h2 hk' h3);exact h.elim;rename_i j x y k nZ;rw[nZ];rw[cond_eq_ite]at h;split at h;rename_i aug;have cO:rest=[]∨j<c.n:=adq aug uh agh;split at h;rename_i bb hb
  have hev:t.eval (.tmp j)=.bool bb:=by
   rw[q9.bool cO];have h1:=oR hr hb;rw[getD_eq_getD_getElem?,h1];rfl
  refine cN.step (fun _=>stepR_cond hev) ?_;have:=hto _ h;cases bb<;>exact this;rename_i bb hb;have eG:cg (X.at G E) ρ ⟨c.tmps.set j (.s (.aI bb)),c.H⟩ a w:=hr.refine hb oS
  have bo:j<c.tmps.length:=by
   rcases lt_or_ge j c.tmps.length with h3|h3;exact h3;rw[List.getD,getElem?_eq_none h3]at hb;simp at hb
  have hev:t.eval (.tmp j)=.bool bb:=by
   rw[q9.bool cO];have h1:=oR eG (d:=j) (b:=bb) (by simp[List.getD,bo]);rw[getD_eq_getD_getElem?,h1];rfl
  refine cN.step (fun _=>stepR_cond hev) ?_;obtain⟨h1,h2⟩:=h;cases bb;exact gh hS nT hm hf n _ _ (h2 rfl) G E ρ a w gL hZ eG b t fs hw;exact gh hS nT hm hf n _ _ (h1 rfl) G E ρ a w gL hZ eG b t fs hw;rename_i n0 eq hb
  have bo:j<c.tmps.length:=by
   rcases lt_or_ge j c.tmps.length with h3|h3;exact h3;rw[List.getD,getElem?_eq_none h3]at hb;simp at hb
  have hd0:=hr.den j;rw[show(St.tmps ⟨c.tmps,c.H⟩).getD j (.s .aY)=_ from hb]at hd0
  obtain⟨bb,hbv,hb0⟩:∃bb,a.tmps.getD j undef=.bool bb∧(bb=eq→n0=0):=by
   have h2:=ax (by simp) hd0;generalize a.tmps.getD j undef=u at h2;cases h2;exact⟨_,rfl,by assumption⟩
  have eG:cg (X.at G E) ρ ⟨c.tmps.set j (.s (.aI bb)),c.H⟩ a w:=hr.abI hb (by rw[hbv];exact aE (.aI bb));have hev:t.eval (.tmp j)=.bool bb:=by rw[q9.bool cO,hbv]
  refine cN.step (fun _=>stepR_cond hev) ?_;obtain⟨h1,h2⟩:=h;cases bb;exact gh hS nT hm hf n _ _ (h2 (by cases eq<;>first|exact hb0 rfl|trivial)) G E ρ a w gL hZ eG b t fs hw;exact gh hS nT hm hf n _ _ (h1 (by cases eq<;>first|exact hb0 rfl|trivial)) G E ρ a w gL hZ eG b t fs hw;exact h.elim;exact h.elim;rename_i id rs draw k nZ;rw[nZ];rw[cond_eq_ite]at h;split at h;have:=h G E ρ a w gL hZ hr b t fs hw;rwa[nZ]at this;cases draw;simp only[cond_false]at h;have key:=awO false id rs 0 k (zero_le _) h;refine cN.step (fun _=>stepR_region) ?_;rw[List.range_eq_range'];simpa using key;simp only[cond_true]at h;rw[cond_eq_ite]at h;split at h;rename_i hso;simp only[and_eq_true]at hso;obtain⟨⟨⟨awS,auh⟩,iq⟩,hsl⟩:=hso;have cO:r5 c.n rest rs:=adq hsl uh (fun x=>x);rw[cond_eq_ite]at h;split at h;rename_i hcc;simp only[and_eq_true]at hcc;obtain⟨bo,ajZ⟩:=hcc;have bo:=agh bo
  have aui:=agd (j0:=cutAt rs) (Nat.le_of_lt bo) ajZ (X:=X.at G E) (Q:=fun a' w'=>∃aL s',(exec P S fn stop inl n false {c with tmps:=s'.tmps,H:=s'.H,todo:=.inRegion rs (range' (cutAt rs) (rs.size - cutAt rs))::k,stk:={c.stk with rid:=id}}).Holds K (Safe P f X K)∧cg (X.at G E) aL s' a' w') hS (nT.at G E) awS auh h (fun s' rF hh=>by
   rw[cond_eq_ite]at hh;split at hh;rename_i hc;exact hc;exact hh.elim) (fun aL s' rF a' w' hh eG=>by
   rw[cond_eq_ite]at hh;split at hh;exact⟨aL,s',hh,eG⟩;exact hh.elim) hr.drew
  have agi:=fun tt=>ajX (cutAt rs) tt _ a _ aui;refine cN.step (fun _=>stepR_region_draw) ?_
  have azx:Region.schedule (P.follows .mixedOrders) rs (w.tape w.drawn (.order b.fn id))=Region.linearise.go .any rs (cutAt rs) (w.tape w.drawn (.order b.fn id)) (Array.replicate rs.size false) []++range' (cutAt rs) (rs.size - cutAt rs):=by
   simp only[Region.schedule,hm,Bool.true_or,if_true];exact xF auh (Nat.le_of_lt bo) ajZ _
  rw[azx];have alX:=hY cO (fun e a w hq=>hq.1) _ a t _ q9 (agi (w.tape w.drawn (.order b.fn id)));intro cs;obtain⟨a1,w1,⟨_,a',⟨_,aL,s',hh,eG⟩,ht'⟩,kY⟩:=fX iq (fun e a w hq=>hq.1) _ t _ alX b k (fs++cs);have key:=gh hS nT hm hf n false _ hh G E aL a' w1 gL hZ eG b a1 fs (hwf a' a1 ht' eG.defers) cs;obtain⟨e,w2,fr,g1,g2,g3⟩:=key;exact⟨e,w2,fr,g1,Comes.of_steps kY g2,g3⟩
  have aui:=abK (X:=X.at G E) (Q:=fun a' w'=>∃aL s',(exec P S fn stop inl n false {c with tmps:=s'.tmps,H:=s'.H,todo:=k}).Holds K (Safe P f X K)∧cg (X.at G E) aL s' a' w') hS (nT.at G E) awS auh h (fun s' rF hh=>by
   rw[cond_eq_ite]at hh;split at hh;rename_i hc;exact hc;exact hh.elim) (fun aL s' rF a' w' hh eG=>by
   rw[cond_eq_ite]at hh;split at hh;exact⟨aL,s',hh,eG⟩;exact hh.elim) hr.drew
  have agi:∀tt,wpOps P rs (fun e a' w'=>e=.normal∧∃aL s',(exec P S fn stop inl n false {c with tmps:=s'.tmps,H:=s'.H,todo:=k}).Holds K (Safe P f X K)∧cg (X.at G E) aL s' a' w') (Region.schedule (P.follows .mixedOrders) rs tt) a {w with drawn:=w.drawn+1}:=fun tt=>by
   simp only[Region.schedule,hm,Bool.true_or,if_true];exact wpAny_sound rs.size tt _ a _ aui
  refine cN.step (fun _=>stepR_region_draw) ?_;have alX:=hY cO (fun e a w hq=>hq.1) _ a t _ q9 (agi (w.tape w.drawn (.order b.fn id)));intro cs;obtain⟨a1,w1,⟨_,a',⟨_,aL,s',hh,eG⟩,ht'⟩,kY⟩:=hM iq (fun e a w hq=>hq.1) _ t _ alX b k (fs++cs);have key:=gh hS nT hm hf n false _ hh G E aL a' w1 gL hZ eG b a1 fs (hwf a' a1 ht' eG.defers) cs;obtain⟨e,w2,fr,g1,g2,g3⟩:=key;exact⟨e,w2,fr,g1,Comes.of_steps kY g2,g3⟩;exact h.elim;rename_i rs todo k nZ;rw[nZ];rw[cond_eq_ite]at h;split at h;rename_i he;simp only[and_eq_true]at he;have hle:todo.length≤rs.size:=le_of_ble_eq_true he.1;have he:todo=range' (rs.size - todo.length) todo.length:=by simpa using he.2
  have key:=awO fst c.stk.rid rs (rs.size - todo.length) k (by omega) h;rw[show rs.size - (rs.size - todo.length)=todo.length from by omega,←he]at key;exact key;exact h.elim;rename_i k nZ;rw[nZ];rw[cond_eq_ite]at h;split at h;rename_i er;split at h;rename_i id dq;split at h;rename_i d L sl hf';exact abO (y:=(d,L,sl)) er dq hf' (gh hS nT hm hf n _ _ h) gL hZ hr hw;exact h.elim;exact h.elim;exact h.elim;rename_i j ps asg body k nZ;rw[nZ];rw[cond_eq_ite]at h;split at h;rename_i aug;have cO:rest=[]∨j<c.n:=adq aug uh agh;split at h;rename_i g hg;have hd0:=hr.den j;rw[show(St.tmps ⟨c.tmps,c.H⟩).getD j (.s .aY)=_ from hg]at hd0;have hv:=abD (ax (by simp) hd0);exact vw (g:=.tmp j) (cvs:=[]) rfl h oV gL hZ hr hw (by rw[q9.bool cO,hv]) (a8.2 rfl);rename_i g dv hg;have hd0:=hr.den j;rw[show(St.tmps ⟨c.tmps,c.H⟩).getD j (.s .aY)=_ from hg]at hd0;unfold af at hd0;obtain⟨vs,hv,rW⟩:=hd0;exact vw (g:=.tmp j) (cvs:=vs) rfl h oV gL hZ hr hw (by rw[q9.bool cO,hv]) rW;exact h.elim;exact h.elim;rename_i body k nZ;rw[nZ];rw[cond_eq_ite]at h;split at h;exact cN.step (fun _=>stepR_loop) (gh hS nT hm hf n _ _ h G E ρ a w gL hZ hr b t fs hw);exact cN.step (fun _=>stepR_loop) (h G E ρ a w gL hZ hr b t fs hw);rename_i body k nZ;rw[nZ];rw[cond_eq_ite]at h;split at h;exact cN.step (fun _=>stepR_inLoop) (gh hS nT hm hf n _ _ h G E ρ a w gL hZ hr b t fs hw);exact cN.step (fun _=>stepR_inLoop) (h G E ρ a w gL hZ hr b t fs hw);exact h G E ρ a w gL hZ hr b t fs hw
theorem Wf.base(f:FuncId){a:Act}(h:a.defers=[]):Wf f {} a.tmps.toList [] {(default:Frame)with fn:=f,kind:=.normal,roundOf:=none} a []:=
 ⟨List.nodup_nil,a.tmps.toList,[],[],[],[],[],by simp,rfl,rfl,⟨⟨none,rfl,rfl,rfl⟩,(Act.eta h).symm,rfl⟩,rfl,rfl,rfl⟩
theorem Safe.goes{f:FuncId}{c:bP}(h:Safe P f X K c)(hc:c.stk={})(hE:X.E=[])(hr:cg X ρ ⟨c.tmps,c.H⟩ a w):cN P f (kp X K) {(default:Frame)with fn:=f,kind:=.normal,roundOf:=none} a c.todo [] w:=by
 have e:X.at X.G []=X:=by
  have⟨x1,x2,x3,x4,x5⟩:=X;simp only at hE;subst hE;rfl
 exact h X.G [] ρ a w (λ_ h=>h) (λ_ h=>.inl h) (by rw[e];exact hr) _ a [] (by rw[hc];exact Wf.base f hr.defers)
end
def allM{α β:Type}(f:α->Option β):List α->Option (List β)
 |[]=>some []|a::aP=>match f a,allM f aP with
  |some b,some bs=>some (b::bs)|_,_=>none
def zl:SV->SV
 |.aR k n=>.int k n|.aI b=>.bool b|x=>x
def rn(g:Nat->Option Nat):Nat->AV->Option AV
 |0,_=>none|d+1,a=>
  match a with
  |.s x=>some (.s (zl x))|.ptr id off=>(g id).map λj=>.ptr j off|.kN id off n i=>(g id).map λj=>.kN j off n i|.ke c m j=>some (.ke c m j)|.vec id=>(g id).map λj=>.vec j|.gP id i j=>(g id).map λl=>.gP l i j|.part id lo n=>(g id).map λl=>.part l lo n|.sub id off n=>(g id).map λl=>.sub l off n|.lJ id i j n=>(g id).map λl=>.lJ l i j n|.emp=>some .emp|.agg ay=>(allM (rn g d) ay).map .agg|.ah k n ws=>some (.ah k n ws)|.bq vs=>(allM (rn g d) vs).map .bq|.fn f dv=>(allM (rn g d) dv).map (.fn f)|.z6 f dv=>(allM (rn g d) dv).map (.z6 f)|.fv id=>(g id).map λj=>.fv j|.tag id=>(g id).map λj=>.tag j
def xH(g:Nat->Option Nat):ak->Option ak
 |.aq ay e=>(allM (rn g 20) ay).map λs=>.aq s e|.vec c e=>some (.vec c e)|.map ck m=>some (.map ck m)|.ig ck m gid=>match g gid with
  |some j=>some (.ig ck m j)|none=>some (.map ck m)
 |.iter mid gid ck left cur=>match g mid,g gid with
  |some i,some j=>some (.iter i j ck left cur)|_,_=>none
 |.aw=>some .aw
structure Emb (g:Nat->Option Nat) (ρ:Nat->Value) (H:aS) (O:Nat->Prop) (aL:Nat->Value) (H':aS) (O':Nat->Prop):Prop where
 id:∀i j,g i=some j->aL j=ρ i/\∀o,H i=some o->∃o',H' j=some o'/\∀c e,o'=.vec c e->o=.vec c e
 gq:∀b,O' b->O b
section
variable{g:Nat->Option Nat}{ρ aL:Nat->Value}{H H':aS}{G O O':Nat->Prop}{w w':World}{P:Program}{S:fG}{Z:bh}{X:Ctx}{s:St}{a:Act}{K:List ak->AV->Prop}{C:bP->Prop}
theorem allM_cons{α β:Type}{f:α->Option β}{a:α}{aP:List α}{l:List β}(h:allM f (a::aP)=some l):∃b bs,f a=some b/\allM f aP=some bs/\l=b::bs:=by
 unfold allM at h;split at h;rename_i b bs h1 h2;simp only[Option.some.injEq]at h;exact⟨b,bs,h1,h2,h.symm⟩;cases h
theorem ia{α β:Type}{f:α->Option β}:∀{aP:List α} {l:List β},allM f aP=some l->l.length=aP.length
 |[],l,h=>by simp only[allM,Option.some.injEq]at h;subst h;rfl
 |a::aP,l,h=>by
  obtain⟨b,bs,_,h2,rfl⟩:=allM_cons h;simp[ia h2]
theorem gE{α β:Type}{f:α->Option β}:∀{aP:List α} {l:List β},allM f aP=some l->∀(i:Nat) (a:α),aP[i]? =some a->∃b,f a=some b/\l[i]? =some b
 |[],l,h,i,a,hi=>by simp at hi
 |a::aP,l,h,i,x,hi=>by
  obtain⟨b,bs,h1,h2,rfl⟩:=allM_cons h;cases i with
  |zero=>simp only[List.getElem?_cons_zero,Option.some.injEq]at hi;subst hi;exact⟨b,h1,rfl⟩|succ i=>simpa using gE h2 i x (by simpa using hi)
theorem aW.less(gq:∀b,O' b->O b){x:SV}{v:Value}(h:aW O w x v):aW O' w x v:=
 h.step (λb hb=>.inl (gq b hb)) (λ_ _ _=>rfl) (le_refl _)
theorem aW.zl{x:SV}{v:Value}(h:aW O w x v):aW O w (zl x) v:=by
 cases h<;>first
  |exact aW.int _ _|exact aW.bool _|(refine aW.ro _ _ _ _ _ _ ?_ ?_ ?_ ?_ ?_<;>assumption)
  |(constructor<;>assumption)
  |constructor
theorem aj0(gq:∀b,O' b->O b){x:SV}{v:Value}(h:af ρ H O w (.s x) v):af aL H' O' w (.s (Sx.zl x)) v:=by
 by_cases hx:x=.aY;subst hx;unfold af;trivial;have h1:=ax hx h;exact aE (h1.less gq).zl
theorem xI(E:Emb g ρ H O aL H' O'):∀(d:Nat),
 (∀a a' v,rn g d a=some a'->af ρ H O w a v->af aL H' O' w a' v)/\(∀a a' cs,rn g d a=some a'->aQ ρ H O w a cs->aQ aL H' O' w a' cs):=by
 have isSome:∀{i j:Nat},g i=some j->(H i).isSome=true->(H' j).isSome=true:=by
  intro i j hg hi;have⟨o,ho⟩:=isSome_iff_exists.1 hi;have⟨o',dH,_⟩:=(E.id i j hg).2 o ho;rw[dH];rfl
 have awT:∀{i j:Nat} {v:Value},g i=some j->aN ρ H O w (.vec i) v->aN aL H' O' w (.vec j) v:=by
  intro i j v hg h;unfold aN at *;have⟨h0,o,ho,h1⟩:=h;have⟨hr,h2⟩:=E.id i j hg;have⟨o',dH,h3⟩:=h2 o ho;exact⟨h0,o',dH,λc e hc=>by rw[hr];exact h1 c e (h3 c e hc)⟩
 have asB:∀{i j:Nat} {v:Value} {m n:Nat},g i=some j->aN ρ H O w (.gP i m n) v->aN aL H' O' w (.gP j m n) v:=by
  intro i j v m n hg h;unfold aN at *;have⟨h0,o,ho,h1⟩:=h;have⟨hr,h2⟩:=E.id i j hg;have⟨o',dH,h3⟩:=h2 o ho;exact⟨h0,o',dH,λc e hc=>by rw[hr];exact h1 c e (h3 c e hc)⟩
 have asC:∀{i j:Nat} {v:Value} {m n:Nat},g i=some j->aN ρ H O w (.part i m n) v->aN aL H' O' w (.part j m n) v:=by
  intro i j v m n hg h;unfold aN at *;have⟨h0,o,ho,h1⟩:=h;have⟨hr,h2⟩:=E.id i j hg;have⟨o',dH,h3⟩:=h2 o ho;exact⟨h0,o',dH,λc e hc=>by rw[hr];exact h1 c e (h3 c e hc)⟩
 have awU:∀{i j:Nat} {v:Value} {m n:Nat},g i=some j->aN ρ H O w (.sub i m n) v->aN aL H' O' w (.sub j m n) v:=by
  intro i j v m n hg h;unfold aN at *;have⟨h0,b,a,cap,h1,h2,h4,h3⟩:=h;exact⟨h0,b,a,cap,by rw[(E.id i j hg).1,h1],h2,h4,isSome hg h3⟩
 have asD:∀{i j:Nat} {v:Value} {m n l:Nat},g i=some j->aN ρ H O w (.lJ i m n l) v->aN aL H' O' w (.lJ j m n l) v:=by
  intro i j v m n l hg h;unfold aN at *;have⟨h0,o,ho,h1⟩:=h;have⟨hr,h2⟩:=E.id i j hg;have⟨o',dH,h3⟩:=h2 o ho;exact⟨h0,o',dH,λc e hc=>by rw[hr];exact h1 c e (h3 c e hc)⟩
 have awV:∀{i j:Nat} {v:Value} {off:Nat},g i=some j->aN ρ H O w (.ptr i off) v->aN aL H' O' w (.ptr j off) v:=by
  intro i j v off hg h;unfold aN at *;have⟨b,h1,h2,h3⟩:=h;exact⟨b,by rw[(E.id i j hg).1,h1],h2,isSome hg h3⟩
 have awW:∀{i j:Nat} {v:Value},g i=some j->aN ρ H O w (.fv i) v->aN aL H' O' w (.fv j) v:=by
  intro i j v hg h;unfold aN at *;have⟨b,h1,h2,h3⟩:=h;exact⟨b,by rw[(E.id i j hg).1,h1],h2,isSome hg h3⟩
 have awX:∀{i j:Nat} {v:Value},g i=some j->aN ρ H O w (.tag i) v->aN aL H' O' w (.tag j) v:=by
  intro i j v hg h;unfold aN at *;have⟨h1,h2,h3⟩:=h;exact⟨by rw[(E.id i j hg).1,h1],h2,isSome hg h3⟩
 have asE:∀{i j:Nat} {v:Value} {off n l:Nat},g i=some j->aN ρ H O w (.kN i off n l) v->aN aL H' O' w (.kN j off n l) v:=by
  intro i j v off n l hg h;unfold aN at *;have⟨h0,b,h1,h2,h3⟩:=h;exact⟨h0,b,by rw[(E.id i j hg).1,h1],h2,isSome hg h3⟩
 have asF:∀{c:aU} {m j:Nat} {v:Value},aN ρ H O w (.ke c m j) v->aN aL H' O' w (.ke c m j) v:=by
  intro c m j v h;unfold aN at *;have⟨b,o,us,h1,h2,h3,h4⟩:=h;exact⟨b,o,us,h1,λh5=>h2 (E.gq b h5),h3,λi hi=>⟨(h4 i hi).1,(h4 i hi).2.less E.gq⟩⟩
 intro d
 induction d with
 |zero=>exact⟨λa a' v h=>by simp[rn]at h,λa a' cs h=>by simp[rn]at h⟩
 |succ d ih=>
  have lst:∀(aP dM:List AV) (vs:List Value),allM (rn g d) aP=some dM->bL ρ H O w aP vs->bL aL H' O' w dM vs:=by
   intro aP
   induction aP with
   |nil=>intro dM vs h hd;simp only[allM,Option.some.injEq]at h;subst h;rw[a8.1 hd];exact a8.2 rfl
   |cons a aP ihl=>
    intro dM vs h hd;obtain⟨b,bs,h1,h2,rfl⟩:=allM_cons h;obtain⟨v,rest,rfl,h3,h4⟩:=aD.1 hd;exact aD.2 ⟨v,rest,rfl,ih.1 a b v h1 h3,ihl bs rest h2 h4⟩
  have sgs:∀(aP dM:List AV) (cs:List Value),allM (rn g d) aP=some dM->az ρ H O w aP cs->az aL H' O' w dM cs:=by
   intro aP
   induction aP with
   |nil=>intro dM vs h hd;simp only[allM,Option.some.injEq]at h;subst h;rw[aC.1 hd];exact aC.2 rfl
   |cons a aP ihl=>
    intro dM vs h hd;obtain⟨b,bs,h1,h2,rfl⟩:=allM_cons h;obtain⟨c1,c2,rfl,h3,h4⟩:=ag.1 hd;exact ag.2 ⟨c1,c2,rfl,ih.2 a b c1 h1 h3,ihl bs c2 h2 h4⟩
  refine⟨λa a' v h hd=> ?_,λa a' cs h hd=> ?_⟩;cases a<;>simp only[rn,map_eq_some_iff,Option.some.injEq,reduceCtorEq]at h
  case s x=>subst h;exact aj0 E.gq hd
  case ptr id off=>obtain⟨j,hg,rfl⟩:=h;unfold af at *;exact awV hg hd
  case kN id off n i=>obtain⟨j,hg,rfl⟩:=h;unfold af at *;exact asE hg hd
  case ke c m j=>subst h;unfold af at *;exact asF hd
  case vec id=>obtain⟨j,hg,rfl⟩:=h;unfold af at *;exact awT hg hd
  case gP id i j=>obtain⟨l,hg,rfl⟩:=h;unfold af at *;exact asB hg hd
  case part id lo n=>obtain⟨l,hg,rfl⟩:=h;unfold af at *;exact asC hg hd
  case sub id off n=>obtain⟨l,hg,rfl⟩:=h;unfold af at *;exact awU hg hd
  case lJ id i j n=>obtain⟨l,hg,rfl⟩:=h;unfold af at *;exact asD hg hd
  case emp=>subst h;unfold af at *;exact hd
  case agg ay=>obtain⟨l,hl,rfl⟩:=h;unfold af at *;have⟨cs,h1,h2⟩:=hd;exact⟨cs,h1,sgs _ _ _ hl h2⟩
  case ah k n ws=>subst h;unfold af at *;exact hd
  case bq vs=>obtain⟨l,hl,rfl⟩:=h;unfold af at *;have⟨us,h1,h2⟩:=hd;exact⟨us,h1,lst _ _ _ hl h2⟩
  case fn f dv=>obtain⟨l,hl,rfl⟩:=h;unfold af at *;have⟨us,h1,h2⟩:=hd;exact⟨us,h1,lst _ _ _ hl h2⟩
  case z6 f dv=>obtain⟨l,hl,rfl⟩:=h;unfold af at *;have⟨us,h1,h2⟩:=hd;exact⟨us,h1,lst _ _ _ hl h2⟩
  case fv id=>obtain⟨j,hg,rfl⟩:=h;unfold af at *;exact awW hg hd
  case tag id=>obtain⟨j,hg,rfl⟩:=h;unfold af at *;exact awX hg hd
  cases a<;>simp only[rn,map_eq_some_iff,Option.some.injEq,reduceCtorEq]at h
  case s x=>subst h;unfold aQ at *;have⟨u,h1,h2⟩:=hd;exact⟨u,h1,(h2.less E.gq).zl⟩
  case ptr id off=>obtain⟨j,hg,rfl⟩:=h;unfold aQ at *;have⟨u,h1,h2⟩:=hd;exact⟨u,h1,awV hg h2⟩
  case kN id off n i=>obtain⟨j,hg,rfl⟩:=h;unfold aQ at *;have⟨u,h1,h2⟩:=hd;exact⟨u,h1,asE hg h2⟩
  case ke c m j=>subst h;unfold aQ at *;have⟨u,h1,h2⟩:=hd;exact⟨u,h1,asF h2⟩
  case vec id=>obtain⟨j,hg,rfl⟩:=h;unfold aQ at *;have⟨u,h1,h2⟩:=hd;exact⟨u,h1,awT hg h2⟩
  case gP id i j=>obtain⟨l,hg,rfl⟩:=h;unfold aQ at *;have⟨u,h1,h2⟩:=hd;exact⟨u,h1,asB hg h2⟩
  case part id lo n=>obtain⟨l,hg,rfl⟩:=h;unfold aQ at *;have⟨u,h1,h2⟩:=hd;exact⟨u,h1,asC hg h2⟩
  case sub id off n=>obtain⟨l,hg,rfl⟩:=h;unfold aQ at *;have⟨u,h1,h2⟩:=hd;exact⟨u,h1,awU hg h2⟩
  case lJ id i j n=>obtain⟨l,hg,rfl⟩:=h;unfold aQ at *;have⟨u,h1,h2⟩:=hd;exact⟨u,h1,asD hg h2⟩
  case emp=>subst h;unfold aQ at *;exact hd
  case agg ay=>unfold aQ at hd;exact hd.elim
  case ah k n ws=>subst h;unfold aQ at *;exact hd
  case bq vs=>unfold aQ at hd;exact hd.elim
  case fn f dv=>obtain⟨l,hl,rfl⟩:=h;unfold aQ at *;have⟨u,h1,us,h2,h3⟩:=hd;exact⟨u,h1,us,h2,lst _ _ _ hl h3⟩
  case z6 f dv=>obtain⟨l,hl,rfl⟩:=h;unfold aQ at *;have⟨u,h1,us,h2,h3⟩:=hd;exact⟨u,h1,us,h2,lst _ _ _ hl h3⟩
  case fv id=>obtain⟨j,hg,rfl⟩:=h;unfold aQ at *;have⟨u,h1,h2⟩:=hd;exact⟨u,h1,awW hg h2⟩
  case tag id=>obtain⟨j,hg,rfl⟩:=h;unfold aQ at *;have⟨u,h1,h2⟩:=hd;exact⟨u,h1,awX hg h2⟩
theorem wk(E:Emb g ρ H O aL H' O'){d:Nat}:∀{aP dM:List AV} {vs:List Value},allM (rn g d) aP=some dM->bL ρ H O w aP vs->bL aL H' O' w dM vs
 |[],dM,vs,h,hd=>by simp only[allM,Option.some.injEq]at h;subst h;rw[a8.1 hd];exact a8.2 rfl
 |a::aP,dM,vs,h,hd=>by
  obtain⟨b,bs,h1,h2,rfl⟩:=allM_cons h;obtain⟨v,rest,rfl,h3,h4⟩:=aD.1 hd;exact aD.2 ⟨v,rest,rfl,(xI E d).1 a b v h1 h3,wk E h2 h4⟩
theorem xJ(E:Emb g ρ H O aL H' O'){d:Nat}:∀{aP dM:List AV} {cs:List Value},allM (rn g d) aP=some dM->az ρ H O w aP cs->az aL H' O' w dM cs
 |[],dM,vs,h,hd=>by simp only[allM,Option.some.injEq]at h;subst h;rw[aC.1 hd];exact aC.2 rfl
 |a::aP,dM,vs,h,hd=>by
  obtain⟨b,bs,h1,h2,rfl⟩:=allM_cons h;obtain⟨c1,c2,rfl,h3,h4⟩:=ag.1 hd;exact ag.2 ⟨c1,c2,rfl,(xI E d).2 a b c1 h1 h3,xJ E h2 h4⟩
theorem abP(E:Emb g ρ H O aL H' O'){o o':ak}{aa:Value}(h:xH g o=some o')(hs:iv ρ H O w aa o):iv aL H' O' w aa o':=by
 cases o with
 |aw=>simp only[xH,Option.some.injEq]at h;subst h;trivial|map ck m=>simp only[xH,Option.some.injEq]at h;subst h;exact hs|ig ck m gid=>
  have⟨b,es,clock,h0,h1,h2,h3,h4⟩:=hs;simp only[xH]at h;split at h;rename_i j hj;simp only[Option.some.injEq]at h;subst h;have⟨e1,e2⟩:=E.id _ _ hj;have⟨o,ho⟩:=isSome_iff_exists.1 h4;have⟨o',dH,_⟩:=e2 o ho;exact⟨b,es,clock,h0,h1,h2,by rw[e1];exact h3,by rw[dH];rfl⟩;simp only[Option.some.injEq]at h;subst h;exact⟨b,es,clock,h0,h1,h2⟩
 |iter mid gid ck left cur=>
  have⟨b,mb,es,clock,seen,h0,h1,h2,h3,h4,h5,h6⟩:=hs;simp only[xH]at h;split at h;rename_i i j hi hj;simp only[Option.some.injEq]at h;subst h;have⟨e1,e2⟩:=E.id _ _ hj;have⟨o,ho⟩:=isSome_iff_exists.1 h4;have⟨o',dH,_⟩:=e2 o ho;have⟨e3,e4⟩:=E.id _ _ hi;have⟨p,hp⟩:=isSome_iff_exists.1 h6;have⟨p',hp',_⟩:=e4 p hp;exact⟨b,mb,es,clock,seen,h0,h1,h2,by rw[e1];exact h3,by rw[dH];rfl,by rw[e3];exact h5,by rw[hp'];rfl⟩;cases h
 |aq ay e=>
  simp only[xH,map_eq_some_iff]at h;obtain⟨l,hl,rfl⟩:=h;have⟨b,cells,fr,h0,h1,h2,h3⟩:=hs;exact⟨b,cells,fr,h0,h1,h2,xJ E hl h3⟩
 |vec c e=>
  simp only[xH,Option.some.injEq]at h;subst h;have⟨r,cap,h0,h1,h2,h3⟩:=hs;refine⟨r,cap,h0,h1,h2,h3.imp id ?_⟩;rintro⟨b,f,cells,fr,us,h4,h5,h6,h7,h8⟩;exact⟨b,f,cells,fr,us,h4,h5,h6,h7,λi j hi hj=>⟨(h8 i j hi hj).1,(h8 i j hi hj).2.less E.gq⟩⟩
theorem cT{o o':ak}(h:xH g o=some o'):o'.alive=o.alive/\∀c e,o'=.vec c e->o=.vec c e:=by
 cases o with
 |aw=>simp only[xH,Option.some.injEq]at h;subst h;exact⟨rfl,λc e hc=>by cases hc⟩
 |map ck m=>simp only[xH,Option.some.injEq]at h;subst h;exact⟨rfl,λc e hc=>by cases hc⟩
 |ig ck m gid=>
  simp only[xH]at h;split at h<;>simp only[Option.some.injEq]at h<;>subst h<;>exact⟨rfl,λc e hc=>by cases hc⟩
 |iter mid gid ck left cur=>
  simp only[xH]at h;split at h;simp only[Option.some.injEq]at h;subst h;exact⟨rfl,λc e hc=>by cases hc⟩;cases h
 |aq ay e=>
  simp only[xH,map_eq_some_iff]at h;obtain⟨l,hl,rfl⟩:=h;exact⟨rfl,λc e hc=>by cases hc⟩
 |vec c e=>simp only[xH,Option.some.injEq]at h;subst h;exact⟨rfl,λc e hc=>hc⟩
def alY:List Nat->Nat->Nat->Option Nat
 |[],_,_=>none|x::xs,k,id=>bif x.beq id then some k else alY xs (k+1) id
def idx(σ:List Nat)(id:Nat):Option Nat:=alY σ 0 id
def r8(σ:List Nat)(L:List ak):Option (List ak):=allM (λid=>match L[id]? with|some o=>xH (idx σ) o|none=>none) σ
def ui:List Nat->Bool
 |[]=>true|x::xs=> !(xs.any (x.beq ·))&&ui xs
theorem aaq:∀{σ:List Nat} {k id j:Nat},alY σ k id=some j->k<=j/\σ[j - k]? =some id
 |[],k,id,j,h=>by simp[alY]at h
 |x::xs,k,id,j,h=>by
  simp only[alY,cond_eq_ite]at h;split at h;rename_i hx;obtain rfl:x=id:=Nat.eq_of_beq_eq_true hx;obtain rfl:k=j:=by simpa using h
  exact⟨le_refl _,by simp⟩;have⟨h1,h2⟩:=aaq h;refine⟨by omega, ?_⟩;rw[show j - k=(j - (k+1))+1 from by omega];simpa using h2
theorem adr{σ:List Nat}{id j:Nat}(h:idx σ id=some j):σ[j]? =some id:=by simpa using(aaq h).2
theorem lW:∀{σ:List Nat},ui σ=true->σ.Nodup
 |[],_=>.nil|x::xs,h=>by
  simp only[ui,and_eq_true,not_eq_true',List.any_eq_false]at h;refine List.nodup_cons.2 ⟨λhm=> ?_,lW h.2⟩;have:=h.1 x hm;simp at this
theorem pQ{σ:List Nat}{L L':List ak}(h:r8 σ L=some L'){j:Nat}{o':ak}(hj:L'[j]? =some o'):∃(id:Nat) (o:ak),σ[j]? =some id/\L[id]? =some o/\xH (idx σ) o=some o':=by
 have bB:=ia h;have bo:j<σ.length:=by rw[<-bB];exact(List.getElem?_eq_some_iff.1 hj).1
 have⟨b,h1,h2⟩:=gE h j σ[j] (getElem?_eq_getElem bo);rw[hj]at h2;simp only[Option.some.injEq]at h2;subst h2;split at h1;rename_i o ho;exact⟨σ[j],o,getElem?_eq_getElem bo,ho,h1⟩;cases h1
theorem ads{σ:List Nat}{L L':List ak}(h:r8 σ L=some L'){j id:Nat}(hj:σ[j]? =some id):∃o o',L[id]? =some o/\xH (idx σ) o=some o'/\L'[j]? =some o':=by
 have⟨b,h1,h2⟩:=gE h j id hj;split at h1;rename_i o ho;exact⟨o,b,ho,h1,h2⟩;cases h1
def pull(σ:List Nat)(ρ:Nat->Value):Nat->Value:=λj=>ρ (σ.getD j 0)
theorem r9{σ:List Nat}{L L':List ak}(hv:r8 σ L=some L'){b:Nat}(h:Own (pull σ ρ) (λj=>L'[j]?) b):∃(j id:Nat) (o:ak),σ[j]? =some id/\L[id]? =some o/\o.alive=true/\eW (ρ id)=some b:=by
 have⟨j,o',dH,ha,hb⟩:=h;have⟨id,o,h1,h2,h3⟩:=pQ hv dH;have:pull σ ρ j=ρ id:=by simp[pull,List.getD,h1]
 rw[this]at hb;exact⟨j,id,o,h1,h2,by rw[<-(cT h3).1];exact ha,hb⟩
theorem uj{σ:List Nat}{L L':List ak}{G':Nat->Prop}(hs:Sat ρ (λi=>L[i]?) G w)(hn:σ.Nodup)(hv:r8 σ L=some L')(hG:∀b,G' b->aV ρ (λi=>L[i]?) G b)(hap:∀b,Own (pull σ ρ) (λj=>L'[j]?) b->¬G' b):
 Sat (pull σ ρ) (λj=>L'[j]?) G' w/\Emb (idx σ) ρ (λi=>L[i]?) (aV ρ (λi=>L[i]?) G) (pull σ ρ) (λj=>L'[j]?) (aV (pull σ ρ) (λj=>L'[j]?) G'):=by
 have o8:∀{j id:Nat},σ[j]? =some id->pull σ ρ j=ρ id:=λh1=>by simp[pull,List.getD,h1]
 have E:Emb (idx σ) ρ (λi=>L[i]?) (aV ρ (λi=>L[i]?) G) (pull σ ρ) (λj=>L'[j]?) (aV (pull σ ρ) (λj=>L'[j]?) G'):=by
  refine⟨λi j ma=> ?_,λb hb=> ?_⟩;have h1:=adr ma;refine⟨o8 h1,λo ho=> ?_⟩;have⟨o1,o',h2,h3,h4⟩:=ads hv h1;rw[show L[i]? =some o from ho]at h2;simp only[Option.some.injEq]at h2;subst h2;exact⟨o',h4,(cT h3).2⟩;rcases hb with hb|hb;have⟨j,id,o,h1,h2,h3,h4⟩:=r9 hv hb;exact .inl ⟨id,o,h2,h3,h4⟩;exact hG b hb
 refine⟨⟨λj o' dH=> ?_,λi j oi oj b hi hj ai aj bi bj=> ?_,hap,λb hb=>abj hs (hG b hb)⟩,E⟩;have⟨id,o,h1,h2,h3⟩:=pQ hv dH;rw[o8 h1];exact abP E h3 (hs.obj id o h2);have⟨id,o,h1,h2,h3⟩:=pQ hv hi;have⟨id',o',h1',h2',h3'⟩:=pQ hv hj;rw[o8 h1]at bi;rw[o8 h1']at bj;have:=hs.inj id id' o o' b h2 h2' (by rw[<-(cT h3).1];exact ai) (by rw[<-(cT h3').1];exact aj) bi bj;subst this;have fq:=List.getElem?_eq_some_iff.1 h1;have kj:=List.getElem?_eq_some_iff.1 h1';have⟨hi1,hi2⟩:=fq;have⟨hj1,wj⟩:=kj;exact(List.getElem_inj hn).1 (hi2.trans wj.symm)
theorem aar{σ:List Nat}{L L':List ak}{ρ0:Nat->Value}{H0:aS}{O0:Nat->Prop}{w0:World}{m:Nat}(hs:Sat ρ (λi=>L[i]?) G w)(hn:σ.Nodup)(hv:r8 σ L=some L')(aj1:∀i,i<m->σ[i]? =some i)(h0:∀id,m<=id->H0 id=none)
 (st:Step ρ0 H0 O0 w0 ρ (λi=>L[i]?) (aV ρ (λi=>L[i]?) G) w):Step ρ0 H0 O0 w0 (pull σ ρ) (λj=>L'[j]?) (aV (pull σ ρ) (λj=>L'[j]?) G) w:=by
 have E:=(uj (G':=G) hs hn hv (λb hb=>.inr hb) (λb hb=>by
  have⟨j,id,o,h1,h2,h3,h4⟩:=r9 hv hb;exact hs.apart b ⟨id,o,h2,h3,h4⟩)).2
 have bo:∀{id:Nat} {o:ak},H0 id=some o->id<m:=λ{id o} h=>by
  rcases lt_or_ge id m with h1|h1;exact h1;rw[h0 id h1]at h;cases h
 refine⟨λid o ho=> ?_,λid o ho=> ?_,λb hb=>st.gq b (E.gq b hb),st.heap,st.size⟩;rw[show pull σ ρ id=ρ id from by simp[pull,List.getD,aj1 id (bo ho)]];exact st.wR id o ho;have⟨o1,h1,h2⟩:=st.keep id o ho;have⟨o2,o',h3,h4,h5⟩:=ads hv (aj1 id (bo ho));rw[show L[id]? =some o1 from h1]at h3;simp only[Option.some.injEq]at h3;subst h3;exact⟨o',h5,λc e hc=>h2 c e ((cT h4).2 c e hc)⟩
theorem Good.view{σ:List Nat}{L L':List ak}{m d:Nat}{r r':AV}{v:Value}(h:Good ρ H G w (λi=>L[i]?) r v w')(hn:σ.Nodup)(hv:r8 σ L=some L')(aj1:∀i,i<m->σ[i]? =some i)(h0:∀id,m<=id->H id=none)(hr:rn (idx σ) d r=some r'):
 Good ρ H G w (λi=>L'[i]?) r' v w':=by
 have⟨aL,h1,h2,h3,h4⟩:=h
 have⟨h5,h6⟩:=uj (G':=G) h1 hn hv (λb hb=>.inr hb) (λb hb=>by
  have⟨j,id,o,h1',h2,h3,h4⟩:=r9 hv hb;exact h1.apart b ⟨id,o,h2,h3,h4⟩)
 exact⟨pull σ aL,h5,(xI h6 d).1 r r' v hr h2,aar h1 hn hv aj1 h0 h3,h4⟩
theorem cg.view{σ:List Nat}{tmps vz:List AV}{L L':List ak}{m d:Nat}(h:cg X ρ ⟨tmps,L⟩ a w)(hn:σ.Nodup)(hv:r8 σ L=some L')(aj1:∀i,i<m->σ[i]? =some i)(h0:∀id,m<=id->X.H id=none)(ht:allM (rn (idx σ) d) tmps=some vz):
 cg X (pull σ ρ) ⟨vz,L'⟩ a w:=by
 have hs:Sat ρ (λi=>L[i]?) X.G w:=h.sat
 have⟨h5,h6⟩:=uj (G':=X.G) hs hn hv (λb hb=>.inr hb) (λb hb=>by
  have⟨j,id,o,h1',h2,h3,h4⟩:=r9 hv hb;exact hs.apart b ⟨id,o,h2,h3,h4⟩)
 refine⟨h5,by rw[<-h.size];exact ia ht,λt=> ?_,h.defers,aar hs hn hv aj1 h0 h.ao,h.jF,h.kept⟩;have hd:=h.den t;simp only[]at hd ⊢;rcases lt_or_ge t tmps.length with bo|hge;have⟨b,h1,h2⟩:=gE ht t tmps[t] (getElem?_eq_getElem bo);have e1:tmps.getD t (.s .aY)=tmps[t]:=by simp[List.getD,bo]
 have e2:vz.getD t (.s .aY)=b:=by simp[List.getD,h2]
 rw[e1]at hd;rw[e2];exact(xI h6 d).1 _ _ _ h1 hd
 have e2:vz.getD t (.s .aY)=.s .aY:=by
  have:=ia ht;simp[List.getD,getElem?_eq_none (show vz.length<=t by omega)]
 rw[e2];unfold af;trivial
def eR(ks:List Nat):Nat->List AV->List AV
 |_,[]=>[]|i,a::aP=>(bif ks.any (i.beq ·)then a else .s .aY)::eR ks (i+1) aP
theorem nL(ks:List Nat):∀(i:Nat) (aP:List AV),(eR ks i aP).length=aP.length
 |_,[]=>rfl|i,a::aP=>by simp[eR,nL ks (i+1) aP]
theorem sc(ks:List Nat):∀(i:Nat) (aP:List AV) (t:Nat),(eR ks i aP).getD t (.s .aY)=aP.getD t (.s .aY)\/(eR ks i aP).getD t (.s .aY)=.s .aY
 |_,[],t=>.inl rfl|i,a::aP,0=>by
  simp only[eR,List.getD_cons_zero];cases ks.any (i.beq ·);exact .inr rfl;exact .inl rfl
 |i,a::aP,t+1=>by
  simp only[eR,List.getD_cons_succ];exact sc ks (i+1) aP t
theorem cg.eR{tmps:List AV}{L:List ak}(ks:List Nat)(h:cg X ρ ⟨tmps,L⟩ a w):cg X ρ ⟨eR ks 0 tmps,L⟩ a w:=by
 refine⟨h.sat,by rw[<-h.size];exact nL ks 0 tmps,λt=> ?_,h.defers,h.ao,h.jF,h.kept⟩;rcases sc ks 0 tmps t with h1|h1;simp only[];rw[h1];exact h.den t;simp only[];rw[h1];unfold af;trivial
def pR(c:aU)(e:TypeId)(t:Nat)(tmps:List AV)(L:List ak):List AV×List ak:=
 match tmps.getD t (.s .aY)with
 |.emp=>bif c.n.beq 0 then(tmps.set t (.vec L.length),L++[.vec c e])else(tmps,L)|_=>(tmps,L)
theorem Step.alloc{v:Value}{c:aU}{e:TypeId}{L:List ak}(hb:eW v=none):
 Step ρ (λi=>L[i]?) (aV ρ (λi=>L[i]?) G) w (λj=>if j=L.length then v else ρ j) (λi=>(L++[.vec c e])[i]?) (aV (λj=>if j=L.length then v else ρ j) (λi=>(L++[.vec c e])[i]?) G) w:=by
 have bo:∀{id:Nat} {o:ak},L[id]? =some o->id<L.length:=λh=>(List.getElem?_eq_some_iff.1 h).1;refine⟨λid o ho=> ?_,λid o ho=> ?_,λb vP=>.inl ?_,λ_ _ _=>rfl,le_refl _⟩;have:=bo ho;rw[if_neg (by omega)];have h1:=bo ho;exact⟨o,by show(L++[.vec c e])[id]? =_;rw[getElem?_append_left h1];exact ho,λc' e' hc=>⟨c',e',hc,rfl,rfl⟩⟩;rcases vP with⟨id,o,ho,ha,hbl⟩|hg;by_cases dq:id=L.length;simp only[dq,if_true]at hbl;rw[hb]at hbl;cases hbl;simp only[dq,if_false]at hbl
 have dH:L[id]? =some o:=by
  have h2:=(List.getElem?_eq_some_iff.1 ho).1;simp only[length_append,length_cons,length_nil]at h2;have h3:id<L.length:=by omega
  have h4:(L++[.vec c e])[id]? =L[id]? :=getElem?_append_left h3;rw[<-h4];exact ho
 exact .inl ⟨id,o,dH,ha,hbl⟩;exact .inr hg
theorem cg.pR{c:aU}{e:TypeId}{t:Nat}{tmps:List AV}{L:List ak}(h:cg X ρ ⟨tmps,L⟩ a w):∃aL,cg X aL ⟨(pR c e t tmps L).1,(pR c e t tmps L).2⟩ a w:=by
 unfold Sx.pR;split;rename_i he;rw[cond_eq_ite];split;rename_i hc;have hc:c.n=0:=Nat.eq_of_beq_eq_true hc;have hd:=h.den t;simp only[]at hd;rw[he]at hd;unfold af at hd;have⟨r,hv⟩:=hd;have mj:eW (.slice r 0 0)=none:=by cases r<;>simp[eW]
 let aL:Nat->Value:=λj=>if j=L.length then .slice r 0 0 else ρ j
 have st:Step ρ (λi=>L[i]?) (aV ρ (λi=>L[i]?) X.G) w aL (λi=>(L++[.vec c e])[i]?) (aV aL (λi=>(L++[.vec c e])[i]?) X.G) w:=Step.alloc mj;have hs:Sat ρ (λi=>L[i]?) X.G w:=h.sat
 have old:∀{id:Nat} {o:ak},(L++[.vec c e])[id]? =some o->(id=L.length/\o=.vec c e)\/(id≠L.length/\L[id]? =some o):=by
  intro id o ho;have h2:=(List.getElem?_eq_some_iff.1 ho).1;simp only[length_append,length_cons,length_nil]at h2;by_cases dq:id=L.length;subst dq;simp at ho;exact .inl ⟨rfl,ho.symm⟩;refine .inr ⟨dq, ?_⟩;rwa[getElem?_append_left (by omega)]at ho
 have ei:∀b,Own aL (λi=>(L++[.vec c e])[i]?) b->Own ρ (λi=>L[i]?) b:=by
  rintro b ⟨id,o,ho,ha,hb⟩;rcases old ho with⟨h1,h2⟩|⟨h1,h2⟩;simp only[aL,h1,if_true]at hb;rw[mj]at hb;cases hb;simp only[aL,h1,if_false]at hb;exact⟨id,o,h2,ha,hb⟩
 refine⟨aL,⟨⟨λid o ho=> ?_,λi j oi oj b hi hj ai aj bi bj=> ?_,λb hb=>hs.apart b (ei b hb),hs.low⟩,by simpa using h.size,λu=> ?_,h.defers, ?_,h.jF,h.kept⟩⟩;rcases old ho with⟨h1,h2⟩|⟨h1,h2⟩;subst h2;simp only[aL,h1,if_true];exact⟨r,0,by rw[hc],by omega,zero_le _,.inl rfl⟩;simp only[aL,h1,if_false];exact(hs.obj id o h2).step st (λ_ _ _=>rfl);rcases old hi with⟨h1,h2⟩|⟨h1,h2⟩;simp only[aL,h1,if_true]at bi;rw[mj]at bi;cases bi;rcases old hj with⟨h3,h4⟩|⟨h3,h4⟩;simp only[aL,h3,if_true]at bj;rw[mj]at bj;cases bj;simp only[aL,h1,if_false]at bi;simp only[aL,h3,if_false]at bj;exact hs.inj i j oi oj b h2 h4 ai aj bi bj;simp only[];rw[cX];split;rename_i hu;obtain⟨rfl,_⟩:=hu;rw[hv];unfold af aN;refine⟨rfl,.vec c e,by simp[St.look],λc' e' _=> ?_⟩;exact(if_pos rfl).symm;exact af.step st _ _ (h.den u);exact h.ao.trans st;exact⟨ρ,h⟩;exact⟨ρ,h⟩
def ahJ:Nat->AV->List Nat
 |0,_=>[]|d+1,a=>match a with
  |.ptr id _|.kN id _ _ _|.vec id|.gP id _ _|.part id _ _|.fv id|.tag id|.sub id _ _|.lJ id _ _ _=>[id]|.agg aP|.bq aP|.fn _ aP|.z6 _ aP=>aP.flatMap (ahJ d)|_=>[]
def alZ:Option ak->List Nat
 |some (.aq ay _)=>ay.flatMap (ahJ 20)|some (.iter mid gid _ _ _)=>[mid,gid]|_=>[]
def reach(L:List ak):Nat->List Nat->List Nat->List Nat
 |0,_,acc=>acc|_,[],acc=>acc|n+1,id::todo,acc=>bif acc.any (id.beq ·)then reach L n todo acc else reach L n (todo++alZ L[id]?) (acc++[id])
def auj(m:Nat)(σ:List Nat):Bool:=(List.range m).all λi=>match σ[i]? with|some j=>i.beq j|none=>false
structure Norm where
 qI:List (Nat×aU×TypeId)
 keep:List Nat
 m:Nat
 cells:List (Nat×Nat×Bool×aU×TypeId)
def gF:List (Nat×aU×TypeId)->List AV->List ak->List AV×List ak
 |[],tmps,L=>(tmps,L)|(t,c,e)::ns,tmps,L=>let p:=pR c e t tmps L;gF ns p.1 p.2
def sd(id j:Nat)(c:aU)(e:TypeId)(L:List ak):List ak:=
 match L[id]? with
 |some (.aq ay e0)=>(match ay[j]? with
  |some .emp=>bif c.n.beq 0 then L.set id (.aq (ay.set j (.vec L.length)) e0)++[.vec c e]else L|_=>L)
 |_=>L
def xL(id j:Nat)(c:aU)(L:List ak):List ak:=
 match L[id]? with
 |some (.aq ay e0)=>(match ay[j]? with
  |some .emp=>bif c.n.beq 0 then L.set id (.aq (ay.set j (.s (.ro c))) e0)else L|_=>L)
 |_=>L
def se(id j:Nat)(L:List ak):List ak:=
 match L[id]? with
 |some (.aq ay e0)=>(match ay[j]? with
  |some (.vec v)=>(match L[v]? with
   |some (.vec c _)=>(L.set v .aw).set id (.aq (ay.set j (.s (.ro c))) e0)|_=>L)
  |_=>L)
 |_=>L
def gG:List (Nat×Nat×Bool×aU×TypeId)->List ak->List ak
 |[],L=>L|(id,j,ro,c,e)::ns,L=>gG ns (bif ro then se id j (xL id j c L)else sd id j c e L)
def roots(L:List ak)(m:Nat)(tmps:List AV):List Nat:=
 reach L 4000 ((List.range m).flatMap (λi=>alZ L[i]?)++tmps.flatMap (ahJ 20)) (List.range m)
def gi(m:Nat)(tmps:List AV)(L:List ak):Option (List AV×List ak):=
 let σ:=roots L m tmps
 bif ui σ&&auj m σ then
  match r8 σ L,allM (rn (idx σ) 20) tmps with
  |some L',some vz=>some (vz,L')|_,_=>none
 else none
def Norm.run(N:Norm)(c:bP):Option bP:=
 match gi N.m (eR N.keep 0 c.tmps) c.H with
 |some (t1,L1)=>
  let p:=gF N.qI t1 L1
  (match gi N.m p.1 (gG N.cells p.2)with
  |some (t2,L2)=>some ⟨t2,L2,c.todo,c.stk⟩|none=>none)
 |none=>none
theorem xM:∀(ay:List AV) (j:Nat) {cells:List Value},ay[j]? =some .emp->az ρ H O w ay cells->
 ∃r,∀(aL:Nat->Value) (H':aS) (O':Nat->Prop) (x:AV),(∀a cs,aQ ρ H O w a cs->aQ aL H' O' w a cs)->aQ aL H' O' w x [.slice r 0 0]->az aL H' O' w (ay.set j x) cells
 |[],j,cells,h,hd=>by simp at h
 |a::aP,0,cells,h,hd=>by
  simp only[List.getElem?_cons_zero,Option.some.injEq]at h;subst h;obtain⟨c1,c2,rfl,h1,h2⟩:=ag.1 hd;unfold aQ at h1;obtain⟨u,rfl,r,rfl⟩:=h1;refine⟨r,λaL H' O' x hs hx=> ?_⟩;simp only[List.set_cons_zero];refine ag.2 ⟨_,c2,rfl,hx, ?_⟩;clear hd
  induction aP generalizing c2 with
  |nil=>rw[aC.1 h2];exact aC.2 rfl|cons b bs ih=>
   obtain⟨d1,d2,rfl,h3,h4⟩:=ag.1 h2;exact ag.2 ⟨d1,d2,rfl,hs _ _ h3,ih d2 h4⟩
 |a::aP,j+1,cells,h,hd=>by
  obtain⟨c1,c2,rfl,h1,h2⟩:=ag.1 hd;have⟨r,h3⟩:=xM aP j (by simpa using h) h2;refine⟨r,λaL H' O' x hs hx=> ?_⟩;simp only[List.set_cons_succ];exact ag.2 ⟨c1,c2,rfl,hs _ _ h1,h3 aL H' O' x hs hx⟩
theorem cg.sd{id j:Nat}{c:aU}{e:TypeId}{tmps:List AV}{L:List ak}(h:cg X ρ ⟨tmps,L⟩ a w):∃aL,cg X aL ⟨tmps,sd id j c e L⟩ a w:=by
 unfold Sx.sd;split;rename_i ay e0 dq;split;rename_i hj;rw[cond_eq_ite];split;rename_i hc;have hc:c.n=0:=Nat.eq_of_beq_eq_true hc;have hs:Sat ρ (λi=>L[i]?) X.G w:=h.sat;have⟨b,cells,fr,h0,h1,h2,h3⟩:=hs.obj id _ dq;have⟨r,oD⟩:=xM ay j hj h3;have mj:eW (.slice r 0 0)=none:=by cases r<;>simp[eW]
 have bo:id<L.length:=(List.getElem?_eq_some_iff.1 dq).1;let aL:Nat->Value:=λk=>if k=L.length then .slice r 0 0 else ρ k
 let L':=L.set id (.aq (ay.set j (.vec L.length)) e0)++[.vec c e]
 have old:∀{k:Nat} {o:ak},L'[k]? =some o->(k=L.length/\o=.vec c e)\/(k=id/\k≠L.length/\o=.aq (ay.set j (.vec L.length)) e0)\/(k≠L.length/\k≠id/\L[k]? =some o):=by
  intro k o ho;have h2:=(List.getElem?_eq_some_iff.1 ho).1;simp only[L',length_append,length_set,length_cons,length_nil]at h2;by_cases hk:k=L.length;subst hk;simp only[L']at ho;rw[getElem?_append_right (by simp)]at ho;simp at ho;exact .inl ⟨rfl,ho.symm⟩;simp only[L']at ho;rw[getElem?_append_left (by simp;omega),getElem?_set]at ho;split at ho;rename_i hki;exact .inr (.inl ⟨hki.symm,hk,by simpa using ho.symm⟩);rename_i hki;exact .inr (.inr ⟨hk,Ne.symm hki,ho⟩)
 have new:∀{k:Nat} {o:ak},L[k]? =some o->∃o',L'[k]? =some o'/\(∀c' e',o'=.vec c' e'->o=.vec c' e'):=by
  intro k o ho;have hk:k<L.length:=(List.getElem?_eq_some_iff.1 ho).1;by_cases hki:k=id;subst hki;refine⟨.aq (ay.set j (.vec L.length)) e0, ?_,λc' e' hc=>by cases hc⟩;simp only[L'];rw[getElem?_append_left (by simpa using hk),List.getElem?_set_self hk];refine⟨o, ?_,λc' e' hc=>hc⟩;simp only[L'];rw[getElem?_append_left (by simpa using hk),List.getElem?_set_ne (Ne.symm hki)];exact ho
 have ei:∀b,Own aL (λi=>L'[i]?) b->Own ρ (λi=>L[i]?) b:=by
  rintro b ⟨k,o,ho,ha,hb⟩;rcases old ho with⟨h1,h2⟩|⟨h1,h2,h3⟩|⟨h1,h2,h3⟩;simp only[aL,h1,if_true]at hb;rw[mj]at hb;cases hb;simp only[aL,h2,if_false]at hb;exact⟨id,_,dq,rfl,h1▸hb⟩;simp only[aL,h1,if_false]at hb;exact⟨k,o,h3,ha,hb⟩
 have st:Step ρ (λi=>L[i]?) (aV ρ (λi=>L[i]?) X.G) w aL (λi=>L'[i]?) (aV aL (λi=>L'[i]?) X.G) w:=by
  refine⟨λk o ho=> ?_,λk o ho=> ?_,λb hb=>.inl ?_,λ_ _ _=>rfl,le_refl _⟩;have hk:k<L.length:=(List.getElem?_eq_some_iff.1 ho).1;simp only[aL];rw[if_neg (by omega)];have⟨o',h4,h5⟩:=new ho;exact⟨o',h4,λc' e' hc=>⟨c',e',h5 c' e' hc,rfl,rfl⟩⟩;rcases hb with hb|hb;exact .inl (ei b hb);exact .inr hb
 have rb:aN aL (λi=>L'[i]?) (aV aL (λi=>L'[i]?) X.G) w (.vec L.length) (.slice r 0 0):=by
  unfold aN;refine⟨rfl,.vec c e, ?_,λc' e' _=>(if_pos rfl).symm⟩;simp only[L'];rw[getElem?_append_right (by simp)];simp
 refine⟨aL,⟨⟨λk o ho=> ?_,λi l oi ol b hi hl ai al bi bl=> ?_,λb hb=>hs.apart b (ei b hb),hs.low⟩,h.size,λu=>af.step st _ _ (h.den u),h.defers,h.ao.trans st,h.jF,h.kept⟩⟩;rcases old ho with⟨g1,g2⟩|⟨g1,g2,g3⟩|⟨g1,g2,g3⟩;subst g2;simp only[aL,g1,if_true];exact⟨r,0,by rw[hc],by omega,zero_le _,.inl rfl⟩;subst g3;simp only[aL,g2,if_false];rw[g1,h0];exact⟨b,cells,fr,rfl,h1,h2,oD aL _ _ _ (λa cs hd=>aQ.step st a cs hd) (by unfold aQ;exact⟨_,rfl,rb⟩)⟩;simp only[aL,g1,if_false];exact(hs.obj k o g3).step st (λ_ _ _=>rfl)
 have low:∀{k:Nat} {o:ak},L'[k]? =some o->o.alive=true->eW (aL k)=some b->∃o2,L[k]? =some o2/\o2.alive=true/\eW (ρ k)=some b:=by
  intro k o ho ha hb;rcases old ho with⟨g1,g2⟩|⟨g1,g2,g3⟩|⟨g1,g2,g3⟩;simp only[aL,g1,if_true]at hb;rw[mj]at hb;cases hb;simp only[aL,g2,if_false]at hb;exact⟨_,g1▸dq,rfl,hb⟩;simp only[aL,g1,if_false]at hb;exact⟨o,g3,ha,hb⟩
 have⟨o1,q1,q2,q3⟩:=low hi ai bi;have⟨o2,q4,q5,q6⟩:=low hl al bl;exact hs.inj i l o1 o2 b q1 q4 q2 q5 q3 q6;exact⟨ρ,h⟩;exact⟨ρ,h⟩;exact⟨ρ,h⟩
theorem sf{c:aU}(hc:c.n=0)(r:Option Addr):aW O w (.ro c) (.slice r 0 0):=by
 have:=aW.ro (O:=O) (w:=w) c r 0 (λ_ _=>undef) 0 0 (by omega) (zero_le _) (λh=>by omega) (λi j hi hj=>by omega) (λi j hi hj=>by omega);rwa[hc]at this
theorem cg.xL{id j:Nat}{c:aU}{tmps:List AV}{L:List ak}(h:cg X ρ ⟨tmps,L⟩ a w):cg X ρ ⟨tmps,xL id j c L⟩ a w:=by
 unfold Sx.xL;split;rename_i ay e0 dq;split;rename_i hj;rw[cond_eq_ite];split;rename_i hc;have hc:c.n=0:=Nat.eq_of_beq_eq_true hc;have hs:Sat ρ (λi=>L[i]?) X.G w:=h.sat;have⟨b,cells,fr,h0,h1,h2,h3⟩:=hs.obj id _ dq;have⟨r,oD⟩:=xM ay j hj h3;have bo:id<L.length:=(List.getElem?_eq_some_iff.1 dq).1;let L':=L.set id (.aq (ay.set j (.s (.ro c))) e0)
 have old:∀{k:Nat} {o:ak},L'[k]? =some o->(k=id/\o=.aq (ay.set j (.s (.ro c))) e0)\/(k≠id/\L[k]? =some o):=by
  intro k o ho;simp only[L']at ho;rw[getElem?_set]at ho;split at ho;rename_i hki;exact .inl ⟨hki.symm,by simpa using ho.symm⟩;rename_i hki;exact .inr ⟨Ne.symm hki,ho⟩
 have ei:∀b,Own ρ (λi=>L'[i]?) b->Own ρ (λi=>L[i]?) b:=by
  rintro b ⟨k,o,ho,ha,hb⟩;rcases old ho with⟨h1,h2⟩|⟨h1,h2⟩;exact⟨id,_,dq,rfl,h1▸hb⟩;exact⟨k,o,h2,ha,hb⟩
 have st:Step ρ (λi=>L[i]?) (aV ρ (λi=>L[i]?) X.G) w ρ (λi=>L'[i]?) (aV ρ (λi=>L'[i]?) X.G) w:=by
  refine⟨λ_ _ _=>rfl,λk o ho=> ?_,λb hb=>.inl ?_,λ_ _ _=>rfl,le_refl _⟩;by_cases hk:k=id;subst hk;refine⟨.aq (ay.set j (.s (.ro c))) e0, ?_,λc' e' hc=> ?_⟩;show(L.set k _)[k]? =_;rw[List.getElem?_set_self bo];cases hc;refine⟨o, ?_,λc' e' hc=>⟨c',e',hc,rfl,rfl⟩⟩;show(L.set id _)[k]? =_;rw[List.getElem?_set_ne (Ne.symm hk)];exact ho;rcases hb with hb|hb;exact .inl (ei b hb);exact .inr hb
 refine⟨⟨λk o ho=> ?_,λi l oi ol b hi hl ai al bi bl=> ?_,λb hb=>hs.apart b (ei b hb),hs.low⟩,h.size,λu=>af.step st _ _ (h.den u),h.defers,h.ao.trans st,h.jF,h.kept⟩;rcases old ho with⟨g1,g2⟩|⟨g1,g2⟩;subst g2;rw[g1,h0];exact⟨b,cells,fr,rfl,h1,h2,oD ρ _ _ _ (λa cs hd=>aQ.step st a cs hd) (by unfold aQ;exact⟨_,rfl,sf hc r⟩)⟩;exact(hs.obj k o g2).step st (λ_ _ _=>rfl)
 have low:∀{k:Nat} {o:ak},L'[k]? =some o->o.alive=true->∃o2,L[k]? =some o2/\o2.alive=true:=by
  intro k o ho ha;rcases old ho with⟨g1,g2⟩|⟨g1,g2⟩;exact⟨_,g1▸dq,rfl⟩;exact⟨o,g2,ha⟩
 have⟨o1,q1,q2⟩:=low hi ai;have⟨o2,q4,q5⟩:=low hl al;exact hs.inj i l o1 o2 b q1 q4 q2 q5 bi bl;exact h;exact h;exact h
theorem adt:∀(ay:List AV) (j:Nat) {cells:List Value} {a:AV},ay[j]? =some a→az ρ H O w ay cells→
 ∃cs,aQ ρ H O w a cs∧∀(aL:Nat→Value) (H':aS) (O':Nat→Prop) (x:AV),(∀a cs,aQ ρ H O w a cs→aQ aL H' O' w a cs)→aQ aL H' O' w x cs→az aL H' O' w (ay.set j x) cells
 |[],j,cells,a,h,hd=>by simp at h
 |b::aP,0,cells,a,h,hd=>by
  simp only[List.getElem?_cons_zero,Option.some.injEq]at h;subst h;obtain⟨c1,c2,rfl,h1,h2⟩:=ag.1 hd;refine⟨c1,h1,fun aL H' O' x hs hx=> ?_⟩;simp only[List.set_cons_zero];refine ag.2 ⟨_,c2,rfl,hx, ?_⟩;clear hd
  induction aP generalizing c2 with
  |nil=>rw[aC.1 h2];exact aC.2 rfl
  |cons b bs ih=>
   obtain⟨d1,d2,rfl,h3,h4⟩:=ag.1 h2;exact ag.2 ⟨d1,d2,rfl,hs _ _ h3,ih d2 h4⟩
 |b::aP,j+1,cells,a,h,hd=>by
  obtain⟨c1,c2,rfl,h1,h2⟩:=ag.1 hd;obtain⟨cs,h3,h4⟩:=adt aP j (by simpa using h) h2;refine⟨cs,h3,fun aL H' O' x hs hx=> ?_⟩;simp only[List.set_cons_succ];exact ag.2 ⟨c1,c2,rfl,hs _ _ h1,h4 aL H' O' x hs hx⟩
theorem aj2(hs:Sat ρ H G w){id:Nat}{c:aU}{e:TypeId}(ho:H id=some (.vec c e)):aW (aV ρ (aB H id .aw) G) w (.ro c) (ρ id):=by
 have dT:=hs.obj id _ ho;have⟨a,cap,hr,h2,h3,h4⟩:=dT;have alI:∀b,aV ρ (aB H id .aw) G b->aV ρ H G b:=λb hb=>hb.imp fj (λx=>x);rw[hr];by_cases hc:cap=0;have h0:c.n=0:=by omega
 have:=aW.ro (O:=aV ρ (aB H id .aw) G) (w:=w) c a cap (λ_ _=>undef) 0 0 h2 h3 (λh=>by omega) (λi j hi hj=>by omega) (λi j hi hj=>by omega);exact this;obtain⟨b,o,cells,fr,us,rfl,g1,g2,g3,g4⟩:=h4.resolve_left hc;have mj:eW (ρ id)=some b:=by rw[hr];simp only[eW];rw[if_neg hc]
 refine aW.ro c _ cap us b o h2 h3 (λ_=>⟨rfl,λhb=> ?_,(Array.getElem?_eq_some_iff.1 g1).1⟩) (λi j hi hj=> ?_) (λi j hi hj=> ?_);rcases hb with⟨j,x,hx,ha,hb⟩|hb;by_cases hj:j=id;subst hj;simp only[aB,if_true,Option.some.injEq]at hx;subst hx;cases ha;simp only[aB,hj,if_false]at hx;exact hj (hs.inj j id x _ b hx ho ha rfl hb mj);exact hs.apart b ⟨id,_,ho,rfl,mj⟩ hb;rw[de g1];exact(g4 i j hi hj).1;exact(g4 i j hi hj).2.less alI
theorem ahK{L:List ak}{v:Nat}{o x:ak}(h:L[v]? =some o):(λi=>(L.set v x)[i]?)=aB (λi=>L[i]?) v x:=by
 funext i;simp only[aB,getElem?_set];by_cases hi:v=i;subst hi;rw[if_pos rfl,if_pos rfl,if_pos (List.getElem?_eq_some_iff.1 h).1];rw[if_neg hi,if_neg (Ne.symm hi)]
theorem cg.se{id j:Nat}{tmps:List AV}{L:List ak}(h:cg X ρ ⟨tmps,L⟩ a w):cg X ρ ⟨tmps,se id j L⟩ a w:=by
 unfold Sx.se;split;rename_i ay e0 dq;split;rename_i v hj;split;rename_i c e hv;have cP:v≠id:=λe1=>by rw[e1,dq]at hv;cases hv
 have hs:Sat ρ (λi=>L[i]?) X.G w:=h.sat;have⟨b,cells,fr,h0,h1,h2,h3⟩:=hs.obj id _ dq;have⟨cs,hc,oD⟩:=adt ay j hj h3
 have qW:cs=[ρ v]:=by
  unfold aQ at hc;obtain⟨u,rfl,hd⟩:=hc;unfold aN at hd;have⟨_,o,ho,hu⟩:=hd;rw[show o=.vec c e from by simpa[hv]using ho.symm]at hu;rw[hu _ _ rfl]
 have azy:(L.set v .aw)[id]? =some (.aq ay e0):=by rw[List.getElem?_set_ne cP];exact dq
 have hro:=aj2 hs hv;have s1:=hs.kill hv;have st1:=fi (ρ:=ρ) (G:=X.G) (w:=w) (H:=λi=>L[i]?) hv;show cg X ρ ⟨tmps,(L.set v .aw).set id (.aq (ay.set j (.s (.ro c))) e0)⟩ a w
 have e1:(St.look ⟨tmps,(L.set v .aw).set id (.aq (ay.set j (.s (.ro c))) e0)⟩)=aB (aB (λi=>L[i]?) v .aw) id (.aq (ay.set j (.s (.ro c))) e0):=by
  show(λi=>((L.set v .aw).set id _)[i]?)=_;rw[ahK azy,ahK hv]
 generalize hH1:aB (λi=>L[i]?) v .aw=H1 at *;have asG:H1 id=some (.aq ay e0):=by rw[<-hH1];simp only[aB];rw[if_neg (Ne.symm cP)];exact dq
 have ei:∀b,Own ρ (aB H1 id (.aq (ay.set j (.s (.ro c))) e0)) b->Own ρ H1 b:=by
  rintro b ⟨k,o,ho,ha,hb⟩;simp only[aB]at ho;split at ho;rename_i hk;exact⟨id,_,asG,rfl,hk▸hb⟩;exact⟨k,o,ho,ha,hb⟩
 have st2:Step ρ H1 (aV ρ H1 X.G) w ρ (aB H1 id (.aq (ay.set j (.s (.ro c))) e0)) (aV ρ (aB H1 id (.aq (ay.set j (.s (.ro c))) e0)) X.G) w:=by
  refine⟨λ_ _ _=>rfl,λk o ho=> ?_,λb hb=>.inl (hb.imp (ei b) (λx=>x)),λ_ _ _=>rfl,le_refl _⟩;by_cases hk:k=id;exact⟨.aq (ay.set j (.s (.ro c))) e0,by simp[aB,hk],λc' e' hc=>by cases hc⟩;exact⟨o,by simp only[aB];rw[if_neg hk];exact ho,λc' e' hc=>⟨c',e',hc,rfl,rfl⟩⟩
 have st:=st1.trans st2;refine⟨?_,h.size,λu=> ?_,h.defers, ?_,h.jF,h.kept⟩;rw[e1];refine⟨λk o ho=> ?_,λi l oi ol b hi hl ai al bi bl=> ?_,λb hb=>s1.apart b (ei b hb),hs.low⟩
 replace ho:aB H1 id (.aq (ay.set j (.s (.ro c))) e0) k=some o:=ho
 unfold aB at ho;split at ho;rename_i hk;cases ho;rw[hk,h0];refine⟨b,cells,fr,rfl,h1,h2,oD ρ _ _ _ (λa cs hd=>aQ.step st a cs hd) ?_⟩;rw[qW];unfold aQ;exact⟨_,rfl,hro.less (λb hb=>hb.imp (ei b) (λx=>x))⟩;exact(s1.obj k o ho).step st2 (λ_ _ _=>rfl)
 have low:∀{k:Nat} {o:ak},aB H1 id (.aq (ay.set j (.s (.ro c))) e0) k=some o->o.alive=true->∃o2,H1 k=some o2/\o2.alive=true:=by
  intro k o ho ha;simp only[aB]at ho;split at ho;rename_i hk;exact⟨_,hk▸asG,rfl⟩;exact⟨o,ho,ha⟩
 have⟨o1,q1,q2⟩:=low hi ai;have⟨o2,q4,q5⟩:=low hl al;exact s1.inj i l o1 o2 b q1 q4 q2 q5 bi bl;rw[e1];exact af.step st _ _ (h.den u);rw[e1];exact h.ao.trans st;exact h;exact h;exact h
theorem cg.gG:∀(ns:List (Nat×Nat×Bool×aU×TypeId)) {ρ:Nat->Value} {tmps:List AV} {L:List ak},cg X ρ ⟨tmps,L⟩ a w->∃aL,cg X aL ⟨tmps,gG ns L⟩ a w
 |[],ρ,tmps,L,h=>⟨ρ,h⟩|(id,j,ro,c,e)::ns,ρ,tmps,L,h=>by
  cases ro;have⟨aL,h'⟩:=h.sd (c:=c) (e:=e) (id:=id) (j:=j);exact cg.gG ns h';exact cg.gG ns ((h.xL (c:=c) (id:=id) (j:=j)).se (id:=id) (j:=j))
theorem cg.gF:∀(ns:List (Nat×aU×TypeId)) {ρ:Nat->Value} {tmps:List AV} {L:List ak},cg X ρ ⟨tmps,L⟩ a w->∃aL,cg X aL ⟨(gF ns tmps L).1,(gF ns tmps L).2⟩ a w
 |[],ρ,tmps,L,h=>⟨ρ,h⟩|(t,c,e)::ns,ρ,tmps,L,h=>by
  have⟨aL,h'⟩:=h.pR (c:=c) (e:=e) (t:=t);exact cg.gF ns h'
theorem aj3{m:Nat}{σ:List Nat}(h:auj m σ=true):∀i,i<m->σ[i]? =some i:=by
 intro i hi;simp only[auj,all_eq_true,mem_range]at h;have:=h i hi;split at this;rename_i j hj;rw[hj,Nat.eq_of_beq_eq_true this];cases this
theorem cg.gi{m:Nat}{tmps t1:List AV}{L L1:List ak}(h0:∀id,m<=id->X.H id=none)(h:gi m tmps L=some (t1,L1))(hr:cg X ρ ⟨tmps,L⟩ a w):∃aL,cg X aL ⟨t1,L1⟩ a w:=by
 unfold Sx.gi at h;simp only[cond_eq_ite]at h;split at h;rename_i hb;simp only[and_eq_true]at hb;split at h;rename_i L' vz hL ht;simp only[Option.some.injEq,Prod.mk.injEq]at h;obtain⟨rfl,rfl⟩:=h;exact⟨_,hr.view (lW hb.1) hL (aj3 hb.2) h0 ht⟩;cases h;cases h
theorem Norm.safe{N:Norm}{f:FuncId}{c c':bP}(h0:∀id,N.m<=id->X.H id=none)(h:N.run c=some c')(hs:Safe P f X K c'):Safe P f X K c:=by
 intro G E ρ a w gL hZ hr b a' fs hw;unfold Norm.run at h;split at h;rename_i t1 L1 h1;simp only[]at h;split at h;rename_i t2 L2 h2;simp only[Option.some.injEq]at h;subst h;have⟨jG,r1⟩:=cg.gi (X:=X.at G E) h0 h1 (cg.eR N.keep hr);have⟨gw,r2⟩:=cg.gF N.qI r1;have⟨ρ3,r3⟩:=cg.gG N.cells r2;have⟨ρ4,r4⟩:=cg.gi (X:=X.at G E) h0 h2 r3;exact hs G E _ a w gL hZ r4 b a' fs hw;cases h;cases h
end
end Go.Sx
