/- Lemmas: SxArr, SxZeros, SxOverlaps, SxEq, SxOp, SxCfg, SxRun, SxSeq, SxDrawn, SxFrames, SxFrames2, SxFrames3, SxResult, SxFrames4, SxSplit, SxThaw, SxExecOk, SxView. -/
import Derived.Laws.IdiomStrings
import Derived.Lib.Overlaps
import Derived.Orders
import Derived.RangeFuncIn
import Derived.RangeFuncRecord
import Derived.RangeFuncNested
import Derived.Test.YthhcofcdkdknoaaGreatDoorPA
open Go.IntKind (i64 u64 u8)
open Array (getD_eq_getD_getElem? length_toList toList_inj)
open Bool (and_eq_true cond_eq_ite not_eq_true')
open Int (toNat_natCast)
open List (all_cons all_eq_true append_assoc append_nil cons_append getElem?_append_left getElem?_append_right getElem?_eq_getElem getElem?_eq_none getElem?_map getElem?_set getElem?_take length_append length_cons length_drop length_map length_nil length_set length_take map_append map_cons map_nil mem_append mem_append_right mem_cons mem_cons_of_mem mem_map mem_range nil_append nodup_append pairwise_cons range' replicate)
open Nat (add_mul add_zero beq_eq le_of_ble_eq_true le_refl le_trans lt_or_ge zero_add zero_le)
open Option (bind_eq_some_iff getD_some isSome_iff_exists map_eq_some_iff map_some)
namespace Go.Sx
open Go
section
variable{ρ aN:Nat->Value}{H H':aT}{G O O':Nat->Prop}{w w':World}{P:Program}
theorem Good.block(hs:Sat ρ H G w){w1:World}(hw:w1.heap=w.heap)(ht:w1.tape=w.tape)(hos:w1.os=w.os)(qj:w1.output=w.output){obj:Obj}{r:AV}{v:Value}
 (hr:af ρ H (aW ρ H G) (w1.alloc obj) r v):Good ρ H G w H r v (w1.alloc obj):=by
 have bV:(w1.alloc obj).heap.size=w.heap.size+1:=by rw[fW,hw]
 have hold:∀i,i<w.heap.size->(w1.alloc obj).heap[i]? =w.heap[i]? :=λi hi=>by rw[alloc_old (by rw[hw];exact hi),hw]
 have st:Step ρ H (aW ρ H G) w ρ H (aW ρ H G) (w1.alloc obj):=
  ⟨λ_ _ _=>rfl,λ_ o ho=>⟨o,ho,λc' e' e=>⟨c',e',e,rfl,rfl⟩⟩,λb hb=>.inl hb,λb hb _=>hold b hb,by omega⟩
 exact⟨ρ,⟨λj x hx=>(hs.obj j x hx).step st (λb ha hb=>hold b (gS hs ⟨j,x,hx,ha,hb⟩)),hs.inj,hs.apart,λb hb=>by have:=hs.low b hb;omega⟩,hr,st,hos,ht,qj,λb hb _=>hold b hb⟩
theorem ajW{e:TypeId}{k:IntKind}(hk:kindOf P e=some k):P.underlying e=some (.int k):=by
 unfold kindOf at hk;split at hk<;>first|(cases hk;assumption)|cases hk
theorem jK(s:ByteArray):(bx s).length=s.size:=by simp[bx]
theorem adb{src dst:TypeId}{x:AV}{vx:Value}{q:bR}(h:(w6 P src dst x).eval H=some q)(hn:bK q.ab)(hs:Sat ρ H G w)(hd:af ρ H (aW ρ H G) w x vx)(base:Nat):
 ∃v w',(convert src dst vx).run P w=.ok v w'/\Good ρ H G w (c8 H q.up base q.new) (q.r base) v w':=by
 unfold w6 at h;split at h;rename_i e s qk lP;obtain rfl:=fJ hd;split at h;rename_i hk;have he:=ajW hk;simp only[plain,RM.eval,Option.some.injEq]at h;subst h;have hsm:s.size<=4294967296:=hn.1;refine⟨_,_,run_bytes_of_string w src dst e s qk lP he, ?_⟩;rw[mC];refine Good.block (w1:=w.drew) hs rfl rfl rfl rfl (aF ?_);have hc:(aV.ah .u8 (bx s)).n=s.size:=jK s;have key:=aX.ro (O:=aW ρ H G) (w:=w.drew.alloc (.cells (bytesRow s (grownCap w s.size 0 e)) e ((bytesRow s (grownCap w s.size 0 e)).size,(bytesRow s (grownCap w s.size 0 e)).size+1)))
  (aV.ah .u8 (bx s)) (some ⟨w.heap.size,0,none⟩) (grownCap w s.size 0 e) (λi _=>.int .u8 ((bx s).getD i 0)) w.heap.size 0 (by rw[hc];exact grownCap_ge w _ _ _)
  (grownCap_le_maxLen w _ _ _ (by simp only[maxLen];omega)) (λ_=>⟨rfl,λhh=>Nat.lt_irrefl _ (abp hs hh),by rw[fW];exact Nat.lt_succ_self _⟩) (λi j hi hj=> ?_) (λi j hi hj=>by simp only[aV.cell];exact .int _ _)
 rw[hc]at key;exact key;simp only[aV.size]at hj;obtain rfl:j=0:=by omega
 rw[hc]at hi;have hb:(w.drew.alloc (.cells (bytesRow s (grownCap w s.size 0 e)) e ((bytesRow s (grownCap w s.size 0 e)).size,(bytesRow s (grownCap w s.size 0 e)).size+1))).heap[w.heap.size]? =
  some (.cells (bytesRow s (grownCap w s.size 0 e)).toList.toArray e ((bytesRow s (grownCap w s.size 0 e)).size,(bytesRow s (grownCap w s.size 0 e)).size+1)):=kI (w:=w.drew)
 rw[dg hb];have fy:i<s.data.size:=hi;have hi2:i<s.data.toList.length:=by simpa using fy
 simp only[bytesRow,bx,aV.size,Nat.mul_one,add_zero,zero_add,Array.toList_append,Array.toList_map];rw[getElem?_append_left (by rw[length_map];exact hi2),getElem?_map,getElem?_eq_getElem hi2];simp[List.getD];rw[Array.getElem?_eq_getElem fy];rfl;cases h;cases h
theorem ade{t:TypeId}{x:AV}{vx:Value}{q:bR}(h:(w7 P t x).eval H=some q)(hn:bK q.ab)(hd:af ρ H O w x vx):fC P ρ H O w q (Instr.arrayAt t vx):=by
 unfold w7 at h;split at h;rename_i n e k zs ht;rw[cond_eq_ite]at h;split at h;rename_i h1;have h1:=le_of_ble_eq_true h1;have hx:=ay (by simp) hd;cases hx with
 |ro _ a cap us b o g1 g2 g3 g4 g5=>
  refine aP h (λcQ=> ?_) hn;have hnz:n<=zs.length:=cQ.1;obtain⟨rfl,h8,h9⟩:=g3 (by simp only[aV.n];omega);refine⟨.pointer (some ⟨b,o,none⟩), ?_, ?_⟩;have:¬zs.length<n:=by omega
  simp[Instr.arrayAt,run_underlying ht,aV.n,this];unfold af aO;refine⟨b,o,λj=>us j 0,rfl,h8,h9,λl hl=> ?_⟩;have hl':l<n:=hl;have e1:=g4 l 0 (by simp only[aV.n];omega) Nat.one_pos;have e2:=g5 l 0 (by simp only[aV.n];omega) Nat.one_pos;simp only[aV.size,Nat.mul_one,add_zero]at e1;refine⟨e1, ?_⟩
  have e3:(aV.au [.arr k n] [(zs.take n,())]).cell 0 l=.int k (zs.getD l 0):=by
   show(bif l.blt n then SV.int k (List.getD (zs.take n) l 0)else .aZ)=_;rw[nM hl'];simp[List.getD,getElem?_take,hl']
  rw[e3];exact e2
 cases h;cases h
theorem xt{x:AV}{k:IntKind->List Int->Prop->RM bR}{v:Value}{q:bR}(h:(wo x k).eval H=some q)(hs:Sat ρ H G w)(hd:af ρ H (aW ρ H G) w x v):
 ∃kk zs p,(k kk zs p).eval H=some q/\(p->(Builtin.lenOf v).run P w=.ok zs.length w/\∀m,m<=zs.length->(Builtin.firstCells 1 m v).run P w=.ok ((zs.take m).map (Value.int kk)).toArray w):=by
 unfold wo at h;split at h;rename_i s;obtain rfl:=fJ hd;refine⟨_,_,_,h,λ_=>⟨by simp[Builtin.lenOf],λm hm=> ?_⟩⟩;simp only[Builtin.firstCells,Sem.run_pure];congr 1;apply toList_inj.1;rw[Array.toList_map];simp[ByteArray.data_extract];rfl;rename_i id off n;simp only[RM.eval]at h;split at h;rename_i kk m ws e ho;unfold af aO at hd;obtain⟨_,b,a,cap,hb,rfl,ha,_⟩:=hd;refine⟨_,_,_,h,λhp=> ?_⟩;have⟨hl,hc⟩:=aai hs ho hb hp;refine⟨by rw[hl];simp[Builtin.lenOf],λl hm=> ?_⟩;rw[hl]at hm;rcases Nat.eq_zero_or_pos n with h0|h0;have:l=0:=by omega
 subst this;cases a with
 |none=>simp[Builtin.firstCells]|some a=>simp[Builtin.firstCells];rfl
 rw[ha (by omega)];simp only[Builtin.firstCells,Nat.mul_one]
 have e1:(((ws.drop off).take n).take l).map (Value.int kk)=(List.range l).map λi=>Value.int kk (((ws.drop off).take n).getD i 0):=by
  apply List.ext_getElem?;intro i;simp only[getElem?_map,List.getElem?_range'];by_cases hi:i<l;have:i<((ws.drop off).take n).length:=by omega
  rw[getElem?_take,if_pos hi,getElem?_eq_getElem this,getElem?_eq_getElem (by simpa using hi)];simp[List.getD,getElem?_eq_getElem this];rw[getElem?_take,if_neg hi,getElem?_eq_none (by simp;omega)];rfl
 rw[e1];refine run_loadCells w _ _ (λi=>Value.int kk (((ws.drop off).take n).getD i 0)) (λj hj=> ?_);rw[bd];exact hc j (by omega);cases h;cases h
theorem xu{k:IntKind}{m:Nat}(x:CL [.arr k m])(j:Nat):CL.cell [.arr k m] x j=bif j.blt m then .int k ((fH x).getD j 0)else .aZ:=rfl
theorem xv{cs:List CK}(xs:List (CL cs))(i j:Nat):(aV.au cs xs).cell i j=CL.cell cs (xs.getD i (CL.d cs)) j:=rfl
theorem vw{k:IntKind}{m:Nat}(ws:List Int):fH (qt ws:CL [.arr k m])=ws:=rfl
theorem gh{α:Type}{xs:List α}{i:Nat}{x d:α}(h:i<xs.length):(xs.set i x).getD i d=x:=by simp[List.getD,h]
theorem k9{α:Type}{xs:List α}{i i':Nat}{x d:α}(h:i'≠i):(xs.set i x).getD i' d=xs.getD i' d:=by simp[List.getD,List.getElem?_set_ne (Ne.symm h)]
theorem alH{α:Type}{l:List α}{i:Nat}{d:α}(h:i<l.length):l.getD i d=l[i]:=by simp[List.getD,h]
theorem ajX(hs:Sat ρ H G w){id i j b f n cap:Nat}{c c':aV}{e:TypeId}(ho:H id=some (.vec c e))(dL:ρ id=.slice (some ⟨b,f,none⟩) n cap)(hi:i<c.n){vs:List Value}(hj:j+vs.length<=c.size)(hp:0<c.size)
 (k1:c'.n=c.n) (k2:c'.size=c.size) (ua:∀v∈vs,v.oneCell'=true) (k4:∀l u,vs[l]? =some u->aX (aW ρ H G) w (c'.cell i (j+l)) u)
 (k5:∀i' j',i'<c.n->j'<c.size->¬(i'=i/\j<=j'/\j'<j+vs.length)->c'.cell i' j'=c.cell i' j') (z:Int):
 ∃w',(storeCells ⟨b,f+i*c.size+j,none⟩ vs 0).run P w=.ok () w'/\Good ρ H G w (aC H id (.vec c' e)) (.s (.int .i64 z)) (.int .i64 z) w':=by
 have⟨a,ajv,h5,h6,h7,h8⟩:=hs.obj id _ ho;rw[dL]at h5;cases h5;rcases h8 with rfl|⟨b',o',cells,fr,us,e1,g1,g2,g3,g4⟩;omega;cases e1
 have mq:eZ (ρ id)=some b:=by
  rw[dL];simp only[eZ];rw[if_neg (by omega)]
 have hmul:i*c.size+c.size<=cap*c.size:=by
  rw[<-Nat.succ_mul];exact Nat.mul_le_mul_right _ (by omega)
 have bC:f+i*c.size+j+vs.length<=cells.length:=by omega
 have st:=kX (G:=G) (w:=w) (o':=.vec c' e) ho rfl mq (λc1 e1 hc1=>by cases hc1;exact⟨c,e,rfl,k1,k2⟩)
  (.cells (cells.take (f+i*c.size+j)++vs++cells.drop (f+i*c.size+j+vs.length)).toArray e fr)
 refine⟨_,bY (f+i*c.size+j) _ 0 g1 g2.unm (by omega) ua, ?_⟩;simp only[add_zero];refine Good.write hs ho rfl rfl mq (λc1 e1 hc1=>by cases hc1;exact⟨c,e,rfl,k1,k2⟩) ?_ (aF (.int _ _));refine⟨some ⟨b,f,none⟩,cap,by rw[dL,k1],by omega,h7,.inr ⟨b,f,_,fr,λi' j'=>if i'=i/\j<=j'/\j'<j+vs.length then(vs.getD (j' - j) undef)else us i' j',rfl,ei g1,g2.over ua bC, ?_, ?_⟩⟩;simp only[length_append,length_take,length_drop];rw[k2];omega;intro i' j' fy ku;rw[k1]at fy;rw[k2]at ku;rw[k2,aby _ _ _ bC];dsimp only;by_cases cP:i'=i/\j<=j'/\j'<j+vs.length;obtain⟨rfl,h9,vW⟩:=cP;rw[if_pos ⟨by omega,by omega⟩,if_pos ⟨rfl,h9,vW⟩];have hx1:j' - j<vs.length:=by omega
 refine⟨by rw[show f+i'*c.size+j' - (f+i'*c.size+j)=j' - j from by omega];exact iE _ _ _ hx1, ?_⟩;have:=k4 (j' - j) _ (iE _ _ undef hx1);rw[show j+(j' - j)=j' from by omega]at this;exact this.step st.gu st.heap st.size;rw[if_neg cP]
 have qj:¬(f+i*c.size+j<=f+i'*c.size+j'/\f+i'*c.size+j'<f+i*c.size+j+vs.length):=by
  rintro⟨h9,vW⟩;have hd:f+i*c.size+(f+i'*c.size+j' - (f+i*c.size))=f+i'*c.size+j':=by omega
  have⟨h11,h12⟩:=alz (f:=f) (i:=i) (i':=i') (j:=f+i'*c.size+j' - (f+i*c.size)) (by omega) ku hd;subst h11;exact cP ⟨rfl,by omega,by omega⟩
 rw[if_neg qj,k5 i' j' fy ku cP];have⟨h9,vW⟩:=g4 i' j' fy ku;exact⟨h9,vW.step st.gu st.heap st.size⟩
theorem adf{α β:Type}(f:α->β)(xs ys:List α)(lo k:Nat):(over xs lo k ys).map f=(xs.map f).take lo++(ys.take k).map f++(xs.map f).drop (lo+k):=by
 simp[over,List.map_take,List.map_drop]
theorem ajY{t t' ty:TypeId}{x y:AV}{vx vy:Value}{q:bR}(h:(afP P t x y).eval H=some q)(hn:bK q.ab)(hs:Sat ρ H G w)
 (hx:af ρ H (aW ρ H G) w x vx) (hy:af ρ H (aW ρ H G) w y vy):
 ∃v w',(Builtin.copy_ #[t,t'] ty #[vx,vy]).run P w=.ok v w'∧∀base,Good ρ H G w (c8 H q.up base q.new) (q.r base) v w':=by
 unfold afP at h;split at h;rename_i e ht;split at h;rename_i sz bV;rw[cond_eq_ite]at h;split at h;rename_i h1;obtain rfl:sz=1:=by simpa using h1
 split at h;rename_i id off n;obtain⟨kk,zs,p,h2,qk⟩:=xt (P:=P) h hs hy;simp only[RM.eval]at h2;split at h2;rename_i k m ws e' ho;rw[cond_eq_ite]at h2;split at h2;rename_i hk;obtain rfl:=bu hk;simp only[RM.eval,Option.some.injEq]at h2;subst h2;obtain⟨hp,hnm,_⟩:=hn;obtain⟨bC,kY⟩:=qk hp;unfold af aO at hx;obtain⟨_,b,a,cap,hb,rfl,ha,_⟩:=hx;obtain⟨cells,fr,g1,g2,g3⟩:=pN hs ho hb;obtain⟨c1,c2,rfl,e3,e4⟩:=ag.1 g3;obtain⟨e5,rfl⟩:=dd.1 e3;obtain rfl:=aD.1 e4;rw[append_nil]at g1 g2 g3;have kf:=kY (min zs.length n) (Nat.min_le_left _ _);have hl2:((zs.take (min zs.length n)).map (Value.int kk)).length=min zs.length n:=by rw[length_map,length_take];omega
 have ua:∀v∈(zs.take (min zs.length n)).map (Value.int kk),v.oneCell'=true:=fun v hv=>by obtain⟨y,_,rfl⟩:=mem_map.1 hv;rfl
 have np:=bY (P:=P) off ((zs.take (min zs.length n)).map (Value.int kk)) 0 g1 g2 (by rw[hl2,length_map];omega) ua
 have awI:((ws.map (Value.int kk)).take (off+0)++(zs.take (min zs.length n)).map (Value.int kk)++(ws.map (Value.int kk)).drop (off+0+((zs.take (min zs.length n)).map (Value.int kk)).length))=(over ws off (min zs.length n) zs).map (Value.int kk):=by
  rw[adf,hl2,add_zero]
 rw[awI]at np;have hwl:(over ws off (min zs.length n) zs).length=m:=by rw[eV _ _ (by omega) (Nat.min_le_left _ _)];exact e5
 have zF:∀base,Good ρ H G w (c8 H [(id,.aq [.ah kk m (over ws off (min zs.length n) zs)] e')] base []) (.s (.int .i64 ((min zs.length n:Nat):Int))) (.int .i64 ((min zs.length n:Nat):Int)) (World.cF w b (.cells ((over ws off (min zs.length n) zs).map (Value.int kk)).toArray e' fr)):=fun base=>by
  simp only[gg];have mq:eZ (ρ id)=some b:=by rw[hb];rfl
  have hd':aA ρ H (aW ρ H G) w [.ah kk m (over ws off (min zs.length n) zs)] ((over ws off (min zs.length n) zs).map (Value.int kk)):=
   ag.2 ⟨_,[],(append_nil _).symm,dd.2 ⟨hwl,rfl⟩,aD.2 rfl⟩
  have st:=kX (G:=G) (w:=w) (o':=.aq [.ah kk m (over ws off (min zs.length n) zs)] e') ho rfl mq (by simp) (.cells ((over ws off (min zs.length n) zs).map (Value.int kk)).toArray e' fr);exact Good.write hs ho rfl rfl mq (by simp) ⟨b,_,fr,hb,ei g1,by rw[length_map,hwl,←e5,←length_map (Value.int kk)];exact g2,hd'.step st⟩ (aF (.int _ _))
 rcases Nat.eq_zero_or_pos n with h0|h0;subst h0;have e6:(over ws off (min zs.length 0) zs).map (Value.int kk)=ws.map (Value.int kk):=by rw[adf];simp
 have e7:World.cF w b (.cells ((over ws off (min zs.length 0) zs).map (Value.int kk)).toArray e' fr)=w:=by rw[e6];exact vn g1
 refine⟨_,w,mH ht bV bC kf (fun x hx=> ?_) (fun _=>rfl),fun base=>by have:=zF base;rw[e7]at this;exact this⟩;simp[storeCells];rw[ha (by omega)];exact⟨_,_,mH ht bV bC kf (fun x hx=>by cases hx;exact np) (fun hx=>by cases hx),zF⟩;cases h2;cases h2;rename_i id i j n;obtain⟨kk,zs,p,h2,qk⟩:=xt (P:=P) h hs hy;simp only[RM.eval]at h2;split at h2;rename_i k m xs e' ho;rw[cond_eq_ite]at h2;split at h2;rename_i hk;simp only[and_eq_true]at hk;obtain⟨hk,hm0⟩:=hk;have hm0:=le_of_ble_eq_true hm0;obtain rfl:=bu hk;simp only[RM.eval,Option.some.injEq]at h2;subst h2;obtain⟨hp,hxl,_⟩:=hn;obtain⟨bC,kY⟩:=qk hp;unfold af aO at hx;obtain⟨_,o,dI,hv⟩:=hx;rw[ho]at dI;cases dI;obtain⟨hi,hj,b,f,n',cap,a,ajv,dL,rfl,ha⟩:=hv _ _ rfl;have hi:i<xs.length:=hi;have hj:j+n≤m:=hj;have kf:=kY (min zs.length n) (Nat.min_le_left _ _);have hl2:((zs.take (min zs.length n)).map (Value.int kk)).length=min zs.length n:=by rw[length_map,length_take];omega
 have ua:∀v∈(zs.take (min zs.length n)).map (Value.int kk),v.oneCell'=true:=fun v hv=>by obtain⟨y,_,rfl⟩:=mem_map.1 hv;rfl
 generalize apN:min zs.length n=cnt at *;obtain⟨w',s1,s2⟩:=ajX (P:=P) (c':=.au [.arr kk m] (xs.set i (qt (over (fH (xs.getD i (CL.d [.arr kk m]))) j cnt zs)))) hs ho dL hi (vs:=(zs.take cnt).map (Value.int kk)) (by rw[hl2];show j+cnt≤m;omega) hm0
  length_set rfl ua (fun l u hu=>by
   obtain⟨bq,hu⟩:=List.getElem?_eq_some_iff.1 hu;rw[hl2]at bq;rw[xv,gh hi,xu,vw,nM (by omega),kJ _ _ _ (by omega) (by omega),if_pos ⟨by omega,by omega⟩,←hu];simp only[List.getElem_map,List.getElem_take,cond_true];rw[show j+l - j=l from by omega,alH (by omega)];exact .int _ _)
  (fun i' j' fy ku ui=>by
    have fy:i'<xs.length:=fy;have ku:j'<m:=ku;rw[hl2]at ui;rw[xv,xv];by_cases hii:i'=i;subst hii;rw[gh hi,xu,xu,vw,kJ _ _ _ (by omega) (by omega),if_neg (fun hc=>ui ⟨rfl,hc⟩)];rw[k9 hii]) ((cnt:Nat):Int)
 rcases Nat.eq_zero_or_pos n with h0|h0;have hc0:cnt=0:=by omega
 have e7:w'=w:=by
  subst hc0;simp[storeCells]at s1;exact s1.symm
 subst e7;refine⟨_,_,mH ht bV bC (by rw[apN];exact kf) (fun x hx=> ?_) (fun _=>rfl),fun base=>by simp only[gg,apN];exact s2⟩;subst hc0;simp[storeCells];rw[ha (by omega)];exact⟨_,_,mH ht bV bC (by rw[apN];exact kf) (fun x hx=>by cases hx;exact s1) (fun hx=>by cases hx),fun base=>by simp only[gg,apN];exact s2⟩;cases h2;cases h2;cases h;cases h;cases h;cases h
theorem alI{es mG:Array MapEntry}{c c':Nat}(h:acT es c=acT mG c'):es=mG/\c=c':=by
 simp only[acT,Value.tuple.injEq,Array.mk.injEq,List.cons.injEq,Value.int.injEq,true_and,and_true]at h;have⟨h1,h2⟩:=h;refine⟨?_,by omega⟩
 have alJ:∀a b:MapEntry,Value.tuple #[a.key,a.val,.int .i64 (a.born:Int)]=Value.tuple #[b.key,b.val,.int .i64 (b.born:Int)]->a=b:=λa b e=>by
  simp only[Value.tuple.injEq,Array.mk.injEq,List.cons.injEq,Value.int.injEq,true_and,and_true]at e;have⟨e1,e2,e3⟩:=e;cases a;cases b;simp only at e1 e2 e3;rw[e1,e2,Int.ofNat.inj e3]
 apply toList_inj.1;have h3:=congrArg Array.toList h2;simp only[Array.toList_map]at h3;exact List.map_inj_right (λa b=>alJ a b) |>.1 h3
theorem find_born{es:List MapEntry}(hb:(es.map (·.born)).Nodup){e:MapEntry}(he:e∈es):es.find? (λx=>x.born==e.born)=some e:=by
 induction es with
 |nil=>simp at he|cons x es ih=>
  simp only[map_cons,List.nodup_cons]at hb;rw[List.find?_cons];rcases mem_cons.1 he with rfl|he;simp
  have:(x.born==e.born)=false:=by
   rw[beq_eq_false_iff_ne];exact λh=>hb.1 (mem_map.2 ⟨e,he,h.symm⟩)
  rw[this];exact ih hb.2 he
theorem adg(hs:Sat ρ H G w){id mid gid b:Nat}{ck ck':CK}{left:List (Int×ck.V)}{cur:Option (Int×ck.V)}{m:List (Int×ck'.V)}(ho:H id=some (.iter mid gid ck left cur))(hm:H mid=some (.im ck' m gid))
 (hb:ρ id=.pointer (some ⟨b,0,none⟩)):∃mb es clock seen,w.heap[b]? =some (.mapIter (some mb) clock seen clock)/\w.heap[mb]? =some (.map es clock)/\xb ck left cur es clock seen/\jF ck' m es.toList clock/\
   ρ mid=.map (some mb)/\ρ gid=acT es clock/\(H gid).isSome=true:=by
 have⟨b',mb,es,clock,seen,h1,h2,h3,h4,h5,h6,h7⟩:=hs.obj id _ ho;rw[hb]at h1;cases h1;have⟨mb',mG,xr,g1,g2,g3,g4,_⟩:=hs.obj mid _ hm;rw[h6]at g1;cases g1;rw[h4]at g4;obtain⟨rfl,rfl⟩:=alI g4;exact⟨mb,es,clock,seen,h2,g2,h3,g3,h6,h4,h5⟩
theorem adh{ck:CK}(h:ck.plain=true)(v:ck.V):ck.av v≠.s .aZ:=by
 cases ck<;>simp only[CK.plain,Bool.false_eq_true]at h<;>simp[CK.av]
theorem ajZ{x:AV}{vx:Value}{q:bR}(h:(afS x).eval H=some q)(hn:bK q.ab)(hs:Sat ρ H G w)(hd:af ρ H (aW ρ H G) w x vx):
 fC P ρ H (aW ρ H G) w q (Instr.entry vx):=by
 unfold afS at h;split at h;rename_i id;simp only[RM.eval]at h;split at h;rename_i mid gid ck left cur ho;simp only[RM.eval]at h;split at h;rename_i ck' m awC hm;rw[cond_eq_ite]at h;split at h;rename_i hc;simp only[and_eq_true,beq_eq]at hc;obtain⟨rfl,hp⟩:=hc;split at h;rename_i p;unfold af aO at hd;obtain⟨b,hb,rfl,_⟩:=hd;have⟨mb,es,clock,seen,h1,h2,h3,_⟩:=adg hs ho hm hb;have⟨hf,e,he,k1,k2,k3⟩:=h3.cur p rfl;have e1:(getObj b).run P w=.ok (.mapIter (some mb) clock seen clock) w:=by simp[getObj,Sem.run,h1]
 have e2:(getObj mb).run P w=.ok (.map es clock) w:=by simp[getObj,Sem.run,h2]
 have e3:es.find? (λx=>x.born==e.born)=some e:=by rw[<-Array.find?_toList];exact find_born h3.xa he
 refine aP h (λ_=>⟨.tuple #[.int .i64 p.1,ck.val p.2], ?_, ?_⟩) hn;simp[Instr.entry,e1,e2,k1,e3,k2,k3];unfold af;refine⟨[.int .i64 p.1,ck.val p.2],rfl,aE.2 ⟨_,_,rfl,aF (.int _ _),aE.2 ⟨_,_,rfl,abD hf ?_,ba.2 rfl⟩⟩⟩;exact adh hp _;cases h;cases h;cases h;cases h;cases h
end
section
variable{ρ aN:Nat->Value}{H H':aT}{G O O':Nat->Prop}{w w':World}{P:Program}
theorem uk{t t' ty e:TypeId}{kn k:IntKind}{i:TypeInfo}{z:Value}{a:Option Addr}{n cap:Nat}{j:Nat}{olds:List Value}
 (ht:P.underlying t=some (.slice e)) (htn:P.underlying t'=some (.int kn)) (hi:P.info? e=some i) (hz:i.zero=some z)
 (hold:(Builtin.firstCells i.size n (.slice a n cap)).run P w.drew=.ok olds.toArray w.drew) (oL:¬n+j<=cap)
 (hsm:n+j<=4294967296) (hby:i.bytes<=256) (h1:1<=i.size) (h0:0<j):
 ∃oN,n+j<=oN/\oN<=maxLen/\(Builtin.append_ #[t,t'] ty #[.slice a n cap,.int k (j:Int)]).run P w=
  .ok (.slice (some ⟨w.heap.size,0,none⟩) (n+j) oN) (w.drew.alloc (.cells (olds++(Builtin.zeroCells z.cells j).toList++(Builtin.zeroCells z.cells (oN - (n+j))).toList).toArray e)):=by
 refine⟨grownCap w (n+j) cap e,grownCap_ge w _ _ _,grownCap_le_maxLen w _ _ _ (by simp only[maxLen];omega), ?_⟩
 have ac5:¬(281474976710656<Builtin.nextslicecap (n+j) cap*i.bytes):=by
  have h1:=nextslicecap_le (ab:=n+j) (old:=cap) (by omega);have h2:Builtin.nextslicecap (n+j) cap*i.bytes<=(2*(n+j)+192)*256:=Nat.mul_le_mul h1 hby;omega
 have ac7:¬(9223372036854775807<(n:Int)+(j:Int)):=by omega
 have hw:i64.wrap (j:Int)=(j:Int):=cu ⟨by omega,by omega⟩;have azw:¬((j:Int)<0):=by omega
 have azx:¬((281474976710656:Int)<(j:Int)*(i.bytes:Int)):=by
  have:j*i.bytes<=4294967296*256:=Nat.mul_le_mul (by omega) hby;have h3:((j*i.bytes:Nat):Int)<=((4294967296*256:Nat):Int):=Int.ofNat_le.2 this;rw[Int.natCast_mul]at h3;omega
 have apJ:∀X Y:Array Value,olds.toArray++(X++Y)=(olds++(X.toList++Y.toList)).toArray:=λX Y=>by
  apply toList_inj.1;simp
 have hq:¬((Question.appendCap (n+j) cap e).forced=true):=by simp[Question.forced]
 have cQ:¬(j*i.size=0):=by
  have:0<j*i.size:=Nat.mul_pos h0 (by omega);omega
 simp[Builtin.append_,run_underlying ht,run_underlying htn,sizeOf,typeInfo,hi,oL,ac7,ac5,hold,zeroValue,hz,newRow,hw,azw,azx,cQ,asInt,asIntOf];rw[if_neg hq,apJ];rfl
theorem adi{t t' ty:TypeId}{x y:AV}{vx vy:Value}{q:bR}(h:(w4 P t t' x y).eval H=some q)(hn:bK q.ab)(hs:Sat ρ H G w)
 (hx:af ρ H (aW ρ H G) w x vx) (hy:af ρ H (aW ρ H G) w y vy) {base:Nat} (hb:∀i,i<q.new.length->H (base+i)=none):
 ∃v w',(Builtin.append_ #[t,t'] ty #[vx,vy]).run P w=.ok v w'/\Good ρ H G w (c8 H q.up base q.new) (q.r base) v w':=by
 unfold w4 at h;split at h;rename_i e kt c k kd lit j ht ht' hy0;have hvy:=cq hy0 hy;split at h;rename_i i hi;rw[cond_eq_ite]at h;split at h;rename_i hc;simp only[and_eq_true]at hc;have⟨⟨⟨c1,c2⟩,c3⟩,c4⟩:=hc;have c1:=le_of_ble_eq_true c1;have c2:=le_of_ble_eq_true c2;have c3:c.size=i.size:=Nat.eq_of_beq_eq_true c3
 obtain⟨z,hz,hzf,hzs⟩:∃z,i.zero=some z/\gC (shapeOf P e) z.cells.toList=true/\z.cells.size=i.size:=by
  cases hz:i.zero with
  |none=>simp[hz]at c4|some z=>
   simp only[hz,Option.any_some,and_eq_true,beq_iff_eq]at c4;exact⟨z,rfl,c4.1,c4.2⟩
 simp only[RM.eval,Option.some.injEq]at h;subst h;have⟨hj0,oL,hsm,_⟩:=hn;have ke:H base=none:=by simpa using hb 0 (by simp)
 have hx':=ay (by simp) hx;cases hx' with
 |rot _ _ a n cap hro hk=>
  obtain⟨jn,rfl⟩:∃jn:Nat,j=(jn:Int):=⟨j.toNat,by omega⟩;cases hro with
  |ro _ _ _ us b o q1 q2 q3 q4 q5=>
  have zG:qX (aW ρ H G) w c (.slice a c.n cap):=⟨a,cap,us,rfl,q1,q2,λh0=>⟨b,o,(q3 h0).1,(q3 h0).2.2,λi j hi hj=>⟨q4 i j hi hj,q5 i j hi hj⟩⟩⟩;have⟨olds,xq⟩:=wu (P:=P) zG c3 c1;have⟨f1,f2⟩:=lY (O:=aW ρ H G) (w:=w) hzf jn;have hzl:z.cells.toList.length=i.size:=by rw[length_toList,hzs]
  have han:(dA c (dK (shapeOf P e) jn)).n=c.n+jn:=by rw[xo,mI]
  have apL:(dA c (dK (shapeOf P e) jn)).size=i.size:=by rw[oK c _ (by rw[f1,hzl,c3]),c3]
  have⟨oN,g1,g2,g3⟩:=uk (ty:=ty) (k:=kd) ht ht' hi hz (xq.first w.drew rfl) (j:=jn) (by omega) (by omega) c2 c1 (by omega);rw[hvy];refine⟨_,_,g3, ?_⟩;simp only[jJ,toNat_natCast];rw[<-han]
  have hnl:(Builtin.zeroCells z.cells jn).toList.length=(dK (shapeOf P e) jn).n*i.size:=by
   rw[length_toList,size_zeroCells,hzs,mI]
  have key:=uj (rest:=(Builtin.zeroCells z.cells (oN - (c.n+jn))).toList) (O:=aW ρ H G) (w:=w) c3 (by rw[f1,hzl]) c1 xq.length hnl xq.den (λi' j' fy ku=>by
   rw[mI]at fy;have⟨u,k1,k2⟩:=f2 i' j' fy (by omega);refine⟨u, ?_,k2⟩;rw[<-hzs,mh jn fy (by rw[hzs];exact ku)];exact k1) []
  simp only[nil_append,length_nil,zero_add]at key;rw[<-han]at key;refine mF (w1:=w.drew) hs rfl rfl rfl rfl ke (by rw[han];exact g1) g2 ?_ _ key (λu hu=> ?_);rw[apL];simp only[length_append,xq.length,length_toList,size_zeroCells,hzs];rw[<-add_mul,<-add_mul];exact Nat.mul_le_mul_right _ (by omega);rcases mem_append.1 hu with hu|hu;rcases mem_append.1 hu with hu|hu;exact xq.one u hu;exact jx hzf jn u hu;exact jx hzf _ u hu
 cases h;cases h;cases h
end
section
variable{ρ aN:Nat->Value}{H H':aT}{G O O':Nat->Prop}{w w':World}{P:Program}
theorem xw(hs:Sat ρ H G w){x:AV}{i:Nat}{c:aV}{e:TypeId}(hx:ownRow x=some i)(hi:H i=some (.vec c e))(bV:1<=c.size){v:Value}(hd:af ρ H (aW ρ H G) w x v):
 ∃(a:Option Addr) (n cap:Nat),v=.slice a n cap/\(n=0\/∃(b o:Nat) (cells:List Value) (fr:Nat×Nat),a=some ⟨b,o,none⟩/\eZ (ρ i)=some b/\w.heap[b]? =some (.cells cells.toArray e fr)/\abo fr cells/\o<=cells.length/\0<cells.length):=by
 have⟨a,cap,r1,r2,r3,r4⟩:=hs.obj i _ hi;unfold ownRow at hx;split at hx;rename_i id;cases hx;unfold af aO at hd;have⟨_,o,ho,hv⟩:=hd;rw[hi]at ho;cases ho;rw[hv c e rfl,r1];refine⟨a,c.n,cap,rfl, ?_⟩;by_cases h0:c.n=0;exact .inl h0;rcases r4 with h4|⟨b,o,cells,fr,us,rfl,q1,q2,q3,q4⟩;omega;have:1*1<=cap*c.size:=Nat.mul_le_mul (by omega) bV;exact .inr ⟨b,o,cells,fr,rfl,by simp only[eZ];rw[if_neg (by omega)],q1,q2,by omega,by omega⟩;rename_i id lo n;cases hx;unfold af aO at hd;have⟨_,o,ho,hv⟩:=hd;rw[hi]at ho;cases ho;obtain⟨hle,a2,qW,a',k1,k2,rfl,k4⟩:=hv c e rfl;rw[r1]at k1;simp only[Value.slice.injEq,true_and]at k1;obtain⟨rfl,rfl⟩:=k1;refine⟨a',n,cap - lo,rfl, ?_⟩;by_cases h0:n=0;exact .inl h0;rcases r4 with h4|⟨b,o,cells,fr,us,rfl,q1,q2,q3,q4⟩;omega;have:lo*c.size<=cap*c.size:=Nat.mul_le_mul_right _ (by omega);have h1:1*1<=cap*c.size:=Nat.mul_le_mul (by omega) bV;refine .inr ⟨b,o+lo*c.size,cells,fr, ?_,by rw[r1];simp only[eZ];rw[if_neg (by omega)],q1,q2,by omega,by omega⟩;rw[k4 (by omega),map_some,bd];cases hx
theorem abH{motive:Array Value->Sort 1}{a b:Option Addr}{la ca lb cb:Nat}{h1:(a:Option Addr)->(la cap:Nat)->(b:Option Addr)->(lb cb:Nat)->motive #[.slice a la cap,.slice b lb cb]}{h2:(x:Array Value)->motive x}:
 Extern.SlicesOverlaps.overlaps.match_4 motive #[.slice a la ca,.slice b lb cb] h1 h2=h1 a la ca b lb cb:=rfl
theorem nq{f:FuncId}{args:List AV}{vs:List Value}{q:bR}(h:(tP P f args).eval H=some q)(hn:bK q.ab)(hs:Sat ρ H G w)(hd:bM ρ H (aW ρ H G) w args vs):
 ∃v,(callFunc f vs.toArray).run P w=.ok (.value v) w/\q.up=[]/\q.new=[]/\∀base,af ρ H (aW ρ H G) w (q.r base) v:=by
 unfold tP at h;split at h;rename_i x y;split at h;rename_i i j hx hy;rw[cond_eq_ite]at h;split at h;cases h;rename_i lR;have lR:i≠j:=λe=>lR (by subst e;exact Nat.beq_refl i);simp only[RM.eval]at h;split at h;rename_i c e1 hi;simp only[RM.eval]at h;split at h;rename_i d e2 hj;rw[cond_eq_ite]at h;split at h;rename_i bV;simp only[and_eq_true]at bV;simp only[plain,RM.eval,Option.some.injEq]at h;subst h;have⟨⟨fn,t,e,tR,size,o1,o2,o3,o4,o5,o6,o7⟩,_⟩:=hn;obtain⟨vx,r1,rfl,dx,hd1⟩:=aE.1 hd;obtain⟨vy,r2,rfl,dy,hd2⟩:=aE.1 hd1;obtain rfl:=ba.1 hd2;obtain⟨a,n,cap,rfl,ha⟩:=xw hs hx hi (le_of_ble_eq_true bV.1) dx;obtain⟨a2,n2,qW,rfl,ha2⟩:=xw hs hy hj (le_of_ble_eq_true bV.2) dy
 have hz:∀w:World,(Go.sizeOf e).run P w=.ok size w:=λw=>by
  obtain⟨inf,hi,rfl⟩:=map_eq_some_iff.1 o7;simp[sizeOf,typeInfo,hi]
 refine⟨.bool false, ?_,rfl,rfl,λ_=>aF (.aK false)⟩;rw[run_callFunc_extern o1 o2 o3 o4 o5]
 have key:(Extern.SlicesOverlaps.overlaps #[t,t] #[tR] #[.slice a n cap,.slice a2 n2 qW]).run P w=.ok (.bool false) w:=by
  have zero:n=0\/n2=0->(Extern.SlicesOverlaps.overlaps #[t,t] #[tR] #[.slice a n cap,.slice a2 n2 qW]).run P w=.ok (.bool false) w:=by
   intro h0;delta Extern.SlicesOverlaps.overlaps;rw[abH];have h1:n=0\/n2=0\/size=0:=by rcases h0 with h0|h0<;>simp[h0]
   cases a with
   |none=>simp[run_underlying o6,hz]|some a=>
    cases a2 with
    |none=>simp[run_underlying o6,hz]|some b=>simp[run_underlying o6,hz,h1]
  rcases ha with h0|⟨b,o,cells,fr,rfl,hb,iF,hu,ho,aBy⟩;exact zero (.inl h0);rcases ha2 with h0|⟨b2,o2',at7,fr2,rfl,hb2,aua,hu2,ho2,aBr⟩;exact zero (.inr h0);have cQ:b≠b2:=λe=>lR (hs.inj i j _ _ b hi hj rfl rfl hb (e▸hb2))
  have frz:∀{b:Nat} {cells:List Value} {fr:Nat×Nat} {e:TypeId} (off:Nat),w.heap[b]? =some (.cells cells.toArray e fr)->abo fr cells->off<=cells.length->w.frozen? ⟨b,off,none⟩=false:=by
   intro b cells fr e off h1 h2 h3;have⟨lo,hi⟩:=fr;unfold World.frozen?;simp only[h1];have:=h2.1 off h3;simp only at this;cases hd:(decide (lo<=off)&&decide (off<hi))with
   |false=>rfl|true=>simp only[and_eq_true,decide_eq_true_eq]at hd;exact absurd hd this
  refine Lib.run_overlaps_apart w t tR e o6 size hz ⟨b,o,none⟩ ⟨b2,o2',none⟩ n cap n2 qW cQ e1 e2 cells.length at7.length ?_ ?_ (by omega) (frz o iF hu ho) (frz _ iF hu (le_refl _));simp only[World.shape?,iF];rfl;simp only[World.shape?,aua];rfl
 rw[key];rfl;cases h;cases h;cases h;cases h;cases h
end
section
variable{ρ:Nat->Value}{H:aT}{O:Nat->Prop}{w:World}{P:Program}
theorem af7(d:Nat){e:TypeId}{k:IntKind}{i:TypeInfo}(he:P.underlying e=some (.int k))(hs:i.size=1)
 (ws nU:List Int) (w:World) (n:Nat) (h1:ws.length=n) (h2:nU.length=n):∀(m s:Nat),s+m=n->
 (forIn (m:=Sem) (range' s m 1) ((none,()):Option Bool×Unit) λj _=>do
   if(!(<-Op.equalIn (d+1) e (<-part e (ws.map (Value.int k)).toArray (j*i.size)) (<-part e (nU.map (Value.int k)).toArray (j*i.size))))=true then
    pure (ForInStep.done (some false,()))else pure (ForInStep.yield (none,()))).run P w=.ok (if ws.drop s=nU.drop s then(none,())else(some false,())) w:=by
 intro m
 induction m with
 |zero=>
  intro s hs';have e1:ws.drop s=[]:=List.drop_eq_nil_of_le (by omega);have e2:nU.drop s=[]:=List.drop_eq_nil_of_le (by omega);simp[e1,e2]
 |succ m ih=>
  intro s hs';have hi1:s<ws.length:=by omega
  have hi2:s<nU.length:=by omega
  have p1:∀w,(part e (ws.map (Value.int k)).toArray (s*i.size)).run P w=.ok (.int k ws[s]) w:=by
   intro w;simp[part,isAgg,run_underlying he,hs,hi1]
  have p2:∀w,(part e (nU.map (Value.int k)).toArray (s*i.size)).run P w=.ok (.int k nU[s]) w:=by
   intro w;simp[part,isAgg,run_underlying he,hs,hi2]
  rw[List.range'_succ,List.forIn_cons];simp only[Sem.run_bind,p1,p2,Result.andThen_ok,run_equalIn_int _ _ _ _ _ _ _ he];rw[List.drop_eq_getElem_cons hi1,List.drop_eq_getElem_cons hi2];by_cases hq:ws[s]=nU[s];simp only[hq,beq_self_eq_true,Bool.not_true,Bool.false_eq_true,if_false,Sem.run_pure,Result.andThen_ok,List.cons.injEq,true_and];exact ih (s+1) (by omega);have:(ws[s]==nU[s])=false:=by simpa using hq
  have cQ:¬(ws[s]::ws.drop (s+1)=nU[s]::nU.drop (s+1)):=λe=>hq (List.cons.inj e).1;rw[if_neg cQ];simp only[this,Bool.not_false,if_true,Sem.run_pure,Result.andThen_ok]
theorem vz(d:Nat){t e:TypeId}{n:Nat}{k:IntKind}{i:TypeInfo}(ht:P.underlying t=some (.array n e))(he:P.underlying e=some (.int k))(hi:P.info? e=some i)(hs:i.size=1)
 (ws nU:List Int) (h1:ws.length=n) (h2:nU.length=n) (w:World):
 (Op.equalIn (d+2) t (.agg (ws.map (Value.int k)).toArray) (.agg (nU.map (Value.int k)).toArray)).run P w=.ok (decide (ws=nU)) w:=by
 have key:=af7 (P:=P) d he hs ws nU w n h1 h2 n 0 (by omega);unfold Op.equalIn;simp only[Sem.run_bind,run_underlying ht,Result.andThen_ok,sizeOf,typeInfo,run_program,hi,Sem.run_pure];rw[Std.Legacy.Range.forIn_eq_forIn_range'];simp only[Std.Legacy.Range.size,Nat.sub_zero,Nat.add_sub_cancel,Nat.div_one];rw[key];by_cases hq:ws=nU<;>simp[hq]
theorem adj(d:Nat){e:TypeId}{i:TypeInfo}(hs:i.size=1)(rF:∀w,(isAgg e).run P w=.ok false w)(cx cy:List Value)(w:World)(n:Nat)(h1:cx.length=n)(h2:cy.length=n):∀(m s:Nat) (bs:List Bool),s+m=n->bs.length=m->
 (∀j (hj:j<m) (hx:s+j<cx.length) (hy:s+j<cy.length) (hb:j<bs.length),(Op.equalIn (d+1) e cx[s+j] cy[s+j]).run P w=.ok bs[j] w)->
 (forIn (m:=Sem) (range' s m 1) ((none,()):Option Bool×Unit) λj _=>do
   if(!(<-Op.equalIn (d+1) e (<-part e cx.toArray (j*i.size)) (<-part e cy.toArray (j*i.size))))=true then
    pure (ForInStep.done (some false,()))else pure (ForInStep.yield (none,()))).run P w=.ok (if bs.all id then(none,())else(some false,())) w:=by
 intro m
 induction m with
 |zero=>
  intro s bs _ hb _;obtain rfl:bs=[]:=List.length_eq_zero_iff.1 hb;simp
 |succ m ih=>
  intro s bs hs' hb abA;have hi1:s<cx.length:=by omega
  have hi2:s<cy.length:=by omega
  match bs,hb,abA with
  |b::bs,hb,abA=>
  have p1:∀w,(part e cx.toArray (s*i.size)).run P w=.ok cx[s] w:=by
   intro w;simp[part,rF,hs,hi1]
  have p2:∀w,(part e cy.toArray (s*i.size)).run P w=.ok cy[s] w:=by
   intro w;simp[part,rF,hs,hi2]
  have h0:(Op.equalIn (d+1) e cx[s] cy[s]).run P w=.ok b w:=by
   have:=abA 0 (by omega) (by omega) (by omega) (by simp);simpa using this
  rw[List.range'_succ,List.forIn_cons];simp only[Sem.run_bind,p1,p2,Result.andThen_ok,h0];cases b with
  |true=>
   simp only[Bool.not_true,Bool.false_eq_true,if_false,Sem.run_pure,Result.andThen_ok]
   have:=ih (s+1) bs (by omega) (by simpa using hb) (λj hj hx hy vV=>by
    have:=abA (j+1) (by omega) (by omega) (by omega) (by simp;omega);simp only[show s+(j+1)=s+1+j from by omega]at this;simpa using this)
   simpa using this
  |false=>simp
theorem apO{x y:AV}{b:Bool}{vx vy:Value}(d:Nat){e:TypeId}(he:∃ms,P.underlying e=some (.interface ms))(h:alf P x y=some b)(hx:af ρ H O w x vx)(hy:af ρ H O w y vy):(Op.equalIn (d+2) e vx vy).run P w=.ok b w:=by
 have⟨ms,he⟩:=he
 have step:∀(t:TypeId) (a c:Value) (r:Bool),(P.info? t).any (·.comparable)=true->(Op.equalIn (d+1) t a c).run P w=.ok r w->(Op.equalIn (d+2) e (.iface t a) (.iface t c)).run P w=.ok r w:=by
  intro t a c r hc hr
  obtain⟨i,hi,hcc⟩:∃i,P.info? t=some i/\i.comparable=true:=by
   cases hi:P.info? t with
   |none=>simp[hi]at hc|some i=>exact⟨i,rfl,by simpa[hi]using hc⟩
  rw[show d+2=(d+1)+1 from rfl];unfold Op.equalIn;simp[run_underlying he,typeInfo,hi,hcc,hr]
 unfold alf at h;split at h;rename_i t k n t' k' n';rw[cond_eq_ite]at h;split at h;rename_i hc;simp only[and_eq_true,beq_eq]at hc;obtain⟨⟨⟨rfl,hk⟩,alK⟩,ht⟩:=hc;obtain rfl:=bu hk;simp only[Option.some.injEq]at h;subst h;have h1:=ay (by simp) hx;have h2:=ay (by simp) hy;cases h1;cases h2;unfold ald at ht;split at ht;rename_i k2 ht2;refine step t _ _ _ alK ?_;unfold Op.equalIn;simp[run_underlying ht2];cases ht;cases h;rename_i t s t' s';rw[cond_eq_ite]at h;split at h;rename_i hc;simp only[and_eq_true,beq_eq]at hc;obtain⟨⟨rfl,alK⟩,ht⟩:=hc;simp only[Option.some.injEq]at h;subst h;have h1:=ay (by simp) hx;have h2:=ay (by simp) hy;cases h1;cases h2;unfold ale at ht;split at ht;rename_i ht2;refine step t _ _ _ alK ?_;rw[run_equalIn_string _ _ _ _ _ ht2,afV];cases ht;cases h;rename_i t b1 t' b2;rw[cond_eq_ite]at h;split at h;rename_i hc;simp only[and_eq_true,beq_eq]at hc;obtain⟨⟨rfl,alK⟩,ht⟩:=hc;simp only[Option.some.injEq]at h;subst h;have h1:=ay (by simp) hx;have h2:=ay (by simp) hy;cases h1;cases h2;unfold ahn at ht;split at ht;rename_i ht2;exact step t _ _ _ alK (run_equalIn_bool' _ _ _ _ _ ht2);cases ht;cases h;cases h
theorem alL(d:Nat){e:TypeId}(he:∃ms,P.underlying e=some (.interface ms)):∀{xs ys:List AV} {b:Bool} {cx cy:List Value},eqI P xs ys=some b->aA ρ H O w xs cx->aA ρ H O w ys cy->
 ∃bs:List Bool,bs.length=xs.length/\cx.length=xs.length/\cy.length=ys.length/\bs.all id=b/\∀j (hx:j<cx.length) (hy:j<cy.length) (hb:j<bs.length),(Op.equalIn (d+2) e cx[j] cy[j]).run P w=.ok bs[j] w
 |[],[],b,cx,cy,h,hx,hy=>by
  simp only[eqI,Option.some.injEq]at h;subst h;rw[aD.1 hx,aD.1 hy];exact⟨[],rfl,rfl,rfl,rfl,λj hj=>by simp at hj⟩
 |[],_::_,b,cx,cy,h,hx,hy=>by simp[eqI]at h
 |_::_,[],b,cx,cy,h,hx,hy=>by simp[eqI]at h
 |x::xs,y::ys,b,cx,cy,h,hx,hy=>by
  simp only[eqI]at h;split at h;rename_i b1 b2 h1 h2;simp only[Option.some.injEq]at h;subst h;obtain⟨u1,c1,rfl,g1,g2⟩:=ag.1 hx;obtain⟨u2,c2,rfl,g3,g4⟩:=ag.1 hy;have sx:∃a,x=.s a/\∀c,a≠.ro c:=by unfold alf at h1;split at h1<;>first|exact⟨_,rfl,by simp⟩|cases h1
  have sy:∃a,y=.s a/\∀c,a≠.ro c:=by unfold alf at h1;split at h1<;>first|exact⟨_,rfl,by simp⟩|cases h1
  obtain⟨a,rfl,_⟩:=sx;obtain⟨a',rfl,_⟩:=sy;unfold aR at g1 g3;obtain⟨v1,rfl,d1⟩:=g1;obtain⟨v2,rfl,d2⟩:=g3;have k1:=apO (ρ:=ρ) (H:=H) (O:=O) (w:=w) d he h1 (aF d1) (aF d2);have⟨bs,e1,e2,e3,e4,e5⟩:=alL d he h2 g2 g4;refine⟨b1::bs,by simp[e1],by simp[e2],by simp[e3],by simp[e4],λj hx hy hb=> ?_⟩;cases j with
  |zero=>exact k1|succ j=>exact e5 j (by simpa using hx) (by simpa using hy) (by simpa using hb)
  cases h
theorem ahv(d:Nat){t e:TypeId}(ht:P.underlying t=some (.pointer e))(b:Option Addr):(Op.equalIn (d+1) t (.pointer none) (.pointer b)).run P w=.ok b.isNone w:=by
 unfold Op.equalIn;simp[run_underlying ht]
theorem apP(d:Nat){t e:TypeId}(ht:P.underlying t=some (.pointer e))(a:Addr):(Op.equalIn (d+1) t (.pointer (some a)) (.pointer none)).run P w=.ok false w:=by
 unfold Op.equalIn;simp[run_underlying ht]
def mk(P:Program)(t:TypeId)(cs:List Value):Value:=
 match iy P t with
 |some true=>.agg cs.toArray|_=>cs.headD undef
theorem abI{d d':Nat}(ih:∀{t:TypeId} {xs ys:List AV} {b:Bool} {cx cy:List Value},eqC P d t xs ys=some b->aA ρ H O w xs cx->aA ρ H O w ys cy->(Op.equalIn d' t (mk P t cx) (mk P t cy)).run P w=.ok b w)
 {xs ys:List AV} {cx cy:List Value} (hx:aA ρ H O w xs cx) (hy:aA ρ H O w ys cy):∀(fs:List Field) {b:Bool},ajw P (eqC P d) fs xs ys=some b->(Op.eqFields d' cx.toArray cy.toArray fs).run P w=.ok b w
 |[],b,h=>by
  simp only[ajw,Option.some.injEq]at h;subst h;rfl
 |f::fs,b,h=>by
  simp only[ajw,cond_eq_ite]at h;simp only[Op.eqFields,Sem.run_ite];split at h;rename_i hn;rw[if_neg (by simpa using hn)];exact abI ih hx hy fs h;rename_i hn;rw[if_pos (by simpa using hn)];split at h;rename_i sz zv bV rF;split at h
  case isFalse=>cases h
  rename_i ua;split at h;rename_i a b' h1 h2;have⟨sa,h3,h4⟩:=bind_eq_some_iff.1 h1;have⟨sb,h5,h6⟩:=bind_eq_some_iff.1 h2;have⟨g1,g2⟩:=fT _ _ h3 hx;have⟨g3,g4⟩:=fU _ _ h4 g2;have⟨k1,k2⟩:=fT _ _ h5 hy;have⟨k3,k4⟩:=fU _ _ h6 k2;split at h;rename_i p q h7 h8;simp only[Option.some.injEq]at h;subst h;have hp:=ih h7 g4 k4
  have asE:∀(cs:List Value),f.offset<=cs.length->sz<=(cs.drop f.offset).length->(part f.type cs.toArray f.offset).run P w=.ok (mk P f.type ((cs.drop f.offset).take sz)) w:=by
   intro cs q1 q2;cases zv;have azy:sz=1:=by simpa using ua
   subst azy;simp only[length_drop]at q2;have bq:f.offset<cs.length:=by omega
   have e1:mk P f.type ((cs.drop f.offset).take 1)=cs[f.offset]:=by
    simp only[mk,rF];rw[List.drop_eq_getElem_cons bq];rfl
   rw[e1];simp[part,hM rF,bq];simp only[mk,rF];simp[part,hM rF,run_sizeOf bV,List.extract_eq_take_drop]
  simp only[Sem.run_bind,asE cx g1 g3,asE cy k1 k3,Result.andThen_ok,hp,Sem.run_ite];cases p;simp;simpa using abI ih hx hy fs h8;cases h;cases h;cases h
theorem alM:∀(d:Nat) {t:TypeId} {xs ys:List AV} {b:Bool} {cx cy:List Value},eqC P d t xs ys=some b->aA ρ H O w xs cx->aA ρ H O w ys cy->∀{d':Nat},d<=d'->(Op.equalIn d' t (mk P t cx) (mk P t cy)).run P w=.ok b w
 |0,t,xs,ys,b,cx,cy,h,_,_,_,_=>by simp[eqC]at h
 |d+1,t,xs,ys,b,cx,cy,h,hx,hy,0,hd=>by omega
 |d+1,t,xs,ys,b,cx,cy,h,hx,hy,d'+1,hd=>by
  simp only[eqC]at h
  have one:∀{x:AV} {cs:List Value},aA ρ H O w [x] cs->(∀k n ws,x≠.ah k n ws)->∃u,cs=[u]/\af ρ H O w x u:=by
   intro x cs h hx;obtain⟨c1,c2,rfl,h1,h2⟩:=ag.1 h;rw[aD.1 h2];obtain⟨u,rfl,_,h3⟩:=fV h1 (gT hx) hx;exact⟨u,rfl,h3⟩
  split at h;rename_i k0 ht;have ha:iy P t=some false:=by simp[iy,ht]
  split at h;rename_i x y;split at h;rename_i k l a k' l' b' h1 h2;rw[cond_eq_ite]at h;split at h;rename_i hk;obtain rfl:=bu hk;simp only[Option.some.injEq]at h;subst h;obtain⟨u,rfl,hu⟩:=one hx (by rintro k n ws rfl;simp[AV.cD]at h1);obtain⟨v,rfl,hv⟩:=one hy (by rintro k n ws rfl;simp[AV.cD]at h2);obtain rfl:=cq h1 hu;obtain rfl:=cq h2 hv;simp only[mk,ha,List.headD_cons];exact run_equalIn_int _ _ _ _ _ _ _ ht;cases h;cases h;cases h;rename_i ht;have ha:iy P t=some false:=by simp[iy,ht]
  split at h;rename_i x y;split at h;rename_i l a l' b' h1 h2;simp only[Option.some.injEq]at h;subst h;obtain⟨u,rfl,hu⟩:=one hx (by rintro k n ws rfl;simp[AV.fO]at h1);obtain⟨v,rfl,hv⟩:=one hy (by rintro k n ws rfl;simp[AV.fO]at h2);obtain rfl:=kH h1 hu;obtain rfl:=kH h2 hv;simp only[mk,ha,List.headD_cons];exact run_equalIn_bool' _ _ _ _ _ ht;cases h;cases h;rename_i ht;have ha:iy P t=some false:=by simp[iy,ht]
  split at h;rename_i a b';simp only[Option.some.injEq]at h;subst h;obtain⟨u,rfl,hu⟩:=one hx (by simp);obtain⟨v,rfl,hv⟩:=one hy (by simp);obtain rfl:=fJ hu;obtain rfl:=fJ hv;simp only[mk,ha,List.headD_cons];rw[run_equalIn_string _ _ _ _ _ ht,afV];cases h;rename_i n e ht;have ha:iy P t=some true:=by simp[iy,ht]
  split at h;rename_i k m ws k' m' nU;split at h;rename_i k'' he;rw[cond_eq_ite]at h;split at h;rename_i hc;simp only[and_eq_true,beq_iff_eq]at hc;have⟨⟨⟨⟨⟨e0,e1⟩,e2⟩,e3⟩,e4⟩,e5⟩:=hc;have e0:=le_of_ble_eq_true e0;obtain rfl:=bu e1;obtain rfl:=bu e2;subst e3;subst e4;simp only[Option.some.injEq]at h;subst h;obtain⟨c1,c2,rfl,h1,h2⟩:=ag.1 hx;rw[aD.1 h2];obtain⟨c3,c4,rfl,h3,h4⟩:=ag.1 hy;rw[aD.1 h4];unfold aR at h1 h3;obtain⟨l1,rfl⟩:=h1;obtain⟨l2,rfl⟩:=h3
  obtain⟨i,hi,hs⟩:∃i,P.info? e=some i/\i.size=1:=by
   cases hi:P.info? e with
   |none=>simp[hi]at e5|some i=>exact⟨i,rfl,by simpa[hi]using e5⟩
  obtain⟨d2,rfl⟩:∃d2,d'=d2+1:=⟨d' - 1,by omega⟩;simp only[mk,ha,append_nil];exact vz d2 ht he hi hs ws nU l1 l2 w;cases h;cases h;cases h;rename_i fs ht;have ha:iy P t=some true:=by simp[iy,ht]
  have hf:P.fieldsOf t=fs:=by simp[Program.fieldsOf,ht]
  rw[cond_eq_ite]at h;split at h;cases h;rename_i np;simp only[mk,ha];rw[run_equalIn_struct w d' t _ _ (by rw[hf];exact ht) (by simpa using np),hf];exact abI (λh1 h2 h3=>alM d h1 h2 h3 (by omega)) hx hy fs.toList h;cases h
theorem alN{t:TypeId}{x y:AV}{vx vy:Value}{q:Bool×Bool}(h:eqR P t x y=some q)(hx:af ρ H O w x vx)(hy:af ρ H O w y vy):
 (Op.equal t vx vy).run P w=.ok q.2 w/\(∀op a b,(eqGuard op t a b vx vy).run P w=.ok () w)/\
 (∀op,op=.eql\/op=.neq->(binOp op t vx vy).run P w=((do let b <-Op.equal t vx vy;pure (.bool (if op=.eql then b else !b))):Sem Value).run P w):=by
 have key:∀vx vy:Value,(∀k a,vx≠.int k a)->(∀s,vx≠.string s)->(∀k a,vx≠.float k a)->(∀k a b,vx≠.complex k a b)->
  ∀op,op=.eql\/op=.neq->(binOp op t vx vy).run P w=((do let b <-Op.equal t vx vy;pure (.bool (if op=.eql then b else !b))):Sem Value).run P w:=by
  intro vx vy h1 h2 h3 h4 op zr
  rcases zr with rfl|rfl<;>cases vx<;>cases vy<;>first
   |rfl|(exact(h1 _ _ rfl).elim)|(exact(h2 _ rfl).elim)|(exact(h3 _ _ rfl).elim)|(exact(h4 _ _ _ rfl).elim)
 unfold eqR at h;split at h;rename_i ht;split at h;rename_i lx a ly b h1 h2;simp only[Option.some.injEq]at h;subst h;obtain rfl:=kH h1 hx;obtain rfl:=kH h2 hy;exact⟨run_equal_bool w t a b ht,λop c d=>abn op t c d a b,key _ _ (by simp) (by simp) (by simp) (by simp)⟩;cases h;rename_i n e k m ws k' m' nU ht;split at h;rename_i k'' he;simp only[cond_eq_ite]at h;split at h;rename_i hc;simp only[and_eq_true,beq_iff_eq,not_eq_true']at hc;have⟨⟨⟨⟨⟨e1,e2⟩,e3⟩,e4⟩,e5⟩,e6⟩:=hc;obtain rfl:=bu e1;obtain rfl:=bu e2;subst e3;subst e4;simp only[Option.some.injEq]at h;subst h;unfold af at hx hy;obtain⟨l1,rfl⟩:=hx;obtain⟨l2,rfl⟩:=hy
 obtain⟨i,hi,hs⟩:∃i,P.info? e=some i/\i.size=1:=by
  cases hi:P.info? e with
  |none=>simp[hi]at e5|some i=>exact⟨i,rfl,by simpa[hi]using e5⟩
 exact⟨vz 9998 ht he hi hs ws nU l1 l2 w,λop c d=>run_eqGuard_agg w op t c d _ _ e6,key _ _ (by simp) (by simp) (by simp) (by simp)⟩;cases h;cases h;rename_i e ht;simp only[Option.some.injEq]at h;subst h;have h1:=ay (by simp) hx;have h2:=ay (by simp) hy;cases h1;cases h2;exact⟨ahv 9999 ht none,λop c d=>oz op t c d _ _,key _ _ (by simp) (by simp) (by simp) (by simp)⟩;rename_i e id off ht;simp only[Option.some.injEq]at h;subst h;have h1:=ay (by simp) hx;cases h1;unfold af aO at hy;obtain⟨b,_,rfl,_⟩:=hy;exact⟨ahv 9999 ht _,λop c d=>oz op t c d _ _,key _ _ (by simp) (by simp) (by simp) (by simp)⟩;rename_i e id off ht;simp only[Option.some.injEq]at h;subst h;have h1:=ay (by simp) hy;cases h1;unfold af aO at hx;obtain⟨b,_,rfl,_⟩:=hx;exact⟨apP 9999 ht _,λop c d=>oz op t c d _ _,key _ _ (by simp) (by simp) (by simp) (by simp)⟩;rename_i n e xs ys ht;split at h;rename_i ms he;rw[cond_eq_ite]at h;split at h;rename_i hc;simp only[and_eq_true,beq_iff_eq,not_eq_true']at hc;have⟨⟨⟨hn1,tG⟩,bV⟩,hg⟩:=hc;obtain⟨b,h1,rfl⟩:=map_eq_some_iff.1 h
 obtain⟨i,hi,hs⟩:∃i,P.info? e=some i/\i.size=1:=by
  cases hi:P.info? e with
  |none=>simp[hi]at bV|some i=>exact⟨i,rfl,by simpa[hi]using bV⟩
 unfold af at hx hy;obtain⟨cx,rfl,hx⟩:=hx;obtain⟨cy,rfl,hy⟩:=hy;have⟨bs,e1,e2,e3,e4,e5⟩:=alL (P:=P) 9997 ⟨ms,he⟩ h1 hx hy
 have apE:=adj (P:=P) 9998 (e:=e) hs (λw=>by simp[isAgg,run_underlying he]) cx cy w n (by omega) (by omega) n 0 bs (by omega) (by omega) (λj hj hx hy hb=>by
  simp only[zero_add];exact e5 j (by omega) (by omega) hb)
 refine⟨?_,λop c d=>run_eqGuard_agg w op t c d _ _ hg,key _ _ (by simp) (by simp) (by simp) (by simp)⟩;show(Op.equalIn (9999+1) t _ _).run P w=_;unfold Op.equalIn;simp only[Sem.run_bind,run_underlying ht,Result.andThen_ok,sizeOf,typeInfo,run_program,hi,Sem.run_pure];rw[Std.Legacy.Range.forIn_eq_forIn_range'];simp only[Std.Legacy.Range.size,Nat.sub_zero,Nat.add_sub_cancel,Nat.div_one];rw[apE,<-e4];cases bs.all id<;>simp;cases h;cases h;rename_i fs xs ys ht;rw[cond_eq_ite]at h;split at h;cases h;rename_i hg;obtain⟨b,h1,rfl⟩:=map_eq_some_iff.1 h;unfold af at hx hy;obtain⟨cx,rfl,hx⟩:=hx;obtain⟨cy,rfl,hy⟩:=hy;have hk:=alM (P:=P) 20 h1 hx hy (d':=10000) (by omega);have ha:iy P t=some true:=by simp[iy,ht]
 simp only[mk,ha]at hk;exact⟨hk,λop c d=>run_eqGuard_agg w op t c d _ _ (by simpa using hg),key _ _ (by simp) (by simp) (by simp) (by simp)⟩;cases h
theorem adk{x:AV}{k:IntKind}{v:Value}(h:x.kind? =some k)(hd:af ρ H O w x v):∃n,v=.int k n:=by
 unfold AV.kind? at h;split at h<;>cases h
 all_goals
  have:=ay (by simp) hd;cases this;exact⟨_,rfl⟩
theorem aj0{op:BinOp}{t:TypeId}{k:IntKind}{a b:Int}{r:AV}(h:afF op k=some r):∃v,(binOp op t (.int k a) (.int k b)).run P w=.ok v w/\af ρ H O w r v:=by
 have ar:∀(op:BinOp) (n:Int),wY op k true true a b=some ([],.s (.aS k n))->∃v,(binOp op t (.int k a) (.int k b)).run P w=.ok v w/\af ρ H O w (.s (.abf k)) v:=λop n h=>by
  have⟨v,h3,h4⟩:=tQ (P:=P) (t:=t) (ρ:=ρ) (H:=H) (O:=O) (w:=w) h trivial;have:=ay (by simp) h4;cases this;exact⟨_,h3,aF (.abf _ _)⟩
 have cm:∀(op:BinOp) (c:Bool),wY op k true true a b=some ([],.s (.aK c))->∃v,(binOp op t (.int k a) (.int k b)).run P w=.ok v w/\af ρ H O w (.s (.lN 0 true)) v:=λop c h=>by
  have⟨v,h3,h4⟩:=tQ (P:=P) (t:=t) (ρ:=ρ) (H:=H) (O:=O) (w:=w) h trivial;have:=ay (by simp) h4;cases this;exact⟨_,h3,aF (.lN 0 true _ (λ_=>rfl))⟩
 unfold afF at h;split at h<;>cases h;exact ar .add _ rfl;exact ar .sub _ rfl;exact ar .mul _ rfl;exact ar .and _ rfl;exact ar .or _ rfl;exact ar .xor _ rfl;exact ar .andNot _ rfl;exact cm .eql _ rfl;exact cm .neq _ rfl;exact cm .lss _ rfl;exact cm .leq _ rfl;exact cm .gtr _ rfl;exact cm .geq _ rfl
theorem ahw{op:BinOp}{t:TypeId}{x y:AV}{ox oy:Operand}{vx vy:Value}{q:List Prop×AV}(h:apt P op t x y=some q)(hn:bK q.1)
 (hx:af ρ H O w x vx) (hy:af ρ H O w y vy):
 ∃v,(do eqGuard op t ox oy vx vy;binOp op t vx vy:Sem Value).run P w=.ok v w/\af ρ H O w q.2 v:=by
 unfold apt at h;split at h;rename_i a b;obtain rfl:=fJ hx;obtain rfl:=fJ hy;have⟨v,h1,h2⟩:=ajx (P:=P) (t:=t) (ρ:=ρ) (H:=H) (O:=O) (w:=w) h hn;exact⟨v,by simp[acS,h1],h2⟩;split at h;rename_i k lx a k' ly b h1 h2;obtain rfl:=cq h1 hx;obtain rfl:=cq h2 hy;split at h;have⟨v,h3,h4⟩:=aah (P:=P) (t:=t) (k':=k') (ρ:=ρ) (H:=H) (O:=O) (w:=w) h hn;exact⟨v,by simp[gZ,h3],h4⟩;have⟨v,h3,h4⟩:=aah (P:=P) (t:=t) (k':=k') (ρ:=ρ) (H:=H) (O:=O) (w:=w) h hn;exact⟨v,by simp[gZ,h3],h4⟩;rw[cond_eq_ite]at h;split at h;rename_i hk;obtain rfl:=bu hk;have⟨v,h3,h4⟩:=tQ (P:=P) (t:=t) (ρ:=ρ) (H:=H) (O:=O) (w:=w) h hn;exact⟨v,by simp[gZ,h3],h4⟩;cases h;split at h;rename_i k k' vX rV;rw[cond_eq_ite]at h;split at h;rename_i hk;obtain rfl:=bu hk;obtain⟨a,rfl⟩:=adk vX hx;obtain⟨b,rfl⟩:=adk rV hy;simp only[map_eq_some_iff]at h;obtain⟨r,hr,rfl⟩:=h;have⟨v,h3,h4⟩:=aj0 (P:=P) (t:=t) (ρ:=ρ) (H:=H) (O:=O) (w:=w) (a:=a) (b:=b) hr;exact⟨v,by simp[gZ,h3],h4⟩;cases h;split at h;simp only[map_eq_some_iff]at h;obtain⟨⟨l,b⟩,h1,rfl⟩:=h;have⟨h2,h3,h4⟩:=alN h1 hx hy;exact⟨.bool b,by simp[h3,h4 .eql (.inl rfl),h2],qU _ _⟩;simp only[map_eq_some_iff]at h;obtain⟨⟨l,b⟩,h1,rfl⟩:=h;have⟨h2,h3,h4⟩:=alN h1 hx hy;exact⟨.bool (!b),by simp[h3,h4 .neq (.inr rfl),h2],qU _ _⟩;cases h
theorem apQ{t:TypeId}{x:AV}{vx:Value}{q:bR}(h:(atV P t x).eval H=some q)(hn:bK q.ab)(hx:af ρ H O w x vx):fC P ρ H O w q (Instr.makeInterface t vx):=by
 have run:∀(v:Value) {u:TypeDesc},P.underlying t=some u->(∀ms,u≠.interface ms)->(Instr.makeInterface t v).run P w=.ok (.iface t v) w:=by
  intro v u hu hni;unfold Instr.makeInterface;simp only[Sem.run_bind,run_underlying hu,Result.andThen_ok,Sem.run_pure]
 unfold atV at h;split at h;simp[RM.eval]at h;rename_i u k n cQ hu;have h1:=ay (by simp) hx;cases h1;exact aP h (λ_=>⟨_,run _ hu (λms e=>cQ ms e),aF (.ifi t k n)⟩) hn;rename_i u k n cQ hu;have h1:=ay (by simp) hx;cases h1;exact aP h (λ_=>⟨_,run _ hu (λms e=>cQ ms e),aF (.ifi t k n)⟩) hn;rename_i u s cQ hu;have h1:=ay (by simp) hx;cases h1;exact aP h (λ_=>⟨_,run _ hu (λms e=>cQ ms e),aF (.ifs t s)⟩) hn;rename_i u b cQ hu;have h1:=ay (by simp) hx;cases h1;exact aP h (λ_=>⟨_,run _ hu (λms e=>cQ ms e),aF (.ifb t b)⟩) hn;rename_i u b cQ hu;have h1:=ay (by simp) hx;cases h1;exact aP h (λ_=>⟨_,run _ hu (λms e=>cQ ms e),aF (.ifb t b)⟩) hn;simp[RM.eval]at h
end
def Yields(P:Program)(o:Oper)(e:Operand->Value)(w:World)(R:Value->World->Prop):Prop:=
 match(execOp e o).run P w with
 |.ok (.value v) w'=>R v w'|.ok .skip w'=>R undef w'|.ok (.enter f args) w'=>Calls P f args w' λen w''=>∃v,en=.returned v/\R v w''|_=>False
structure bm where
 bs:List Nat
 ok:World->Prop
 low:∀w,ok w->∀b,b∈bs->b<w.heap.size
 aBG:∀w w',ok w->(∀b,b∈bs->w'.heap[b]? =w.heap[b]?)->ok w'
def ZAt(Z:bm)(ρ:Nat->Value)(H:aT)(w:World):Prop:=Z.ok w/\∀b,b∈Z.bs->¬Own ρ H b
def SOk(P:Program)(S:fI)(Z:bm):Prop:=
 ∀(base:Nat) (f:FuncId) (args:List AV) (H:aT) (q:bR),jE P f=true->(S base f args).eval H=some q->bK q.ab->∀(ρ:Nat->Value) (G:Nat->Prop) (w:World) (vs:List Value),
  (∀i,i<q.new.length->H (base+i)=none)->ZAt Z ρ H w->Sat ρ H G w->bM ρ H (aW ρ H G) w args vs->
  Calls P f vs.toArray w λen w'=>∃v,en=.returned v/\Good ρ H G w (c8 H q.up base q.new) (q.r base) v w'
section
variable{ρ aN:Nat->Value}{H H':aT}{G O O':Nat->Prop}{w w':World}{P:Program}{S:fI}{Z:bm}
theorem pQ{why:String}{p:Option (List Prop×AV)}{q:bR}(h:(qM why p).eval H=some q):∃x,p=some x/\q=⟨x.1,[],[],λ_=>x.2⟩:=by
 cases p with
 |none=>simp[qM,RM.eval]at h|some x=>simp only[qM,plain,RM.eval,Option.some.injEq]at h;exact⟨x,rfl,h.symm⟩
theorem bH{o:Oper}{e:Operand->Value}{q:bR}{s:Sem Value}(hs:Sat ρ H G w)(h:fC P ρ H (aW ρ H G) w q s)(he:(execOp e o).run P w=(do pure (Next.value (<-s)):Sem Next).run P w)(base:Nat):
 Yields P o e w (λv w'=>Good ρ H G w (c8 H q.up base q.new) (q.r base) v w'):=by
 have⟨h1,h2,v,h3,h4⟩:=h;unfold Yields;rw[he,h1,h2,mC];simp only[Sem.run_bind,h3,Result.andThen_ok,Sem.run_pure];exact Good.val hs (h4 base)
theorem c9{o:Oper}{e:Operand->Value}{R:Value->World->Prop}{s:Sem Value}(h:∃v w',s.run P w=.ok v w'/\R v w')(he:(execOp e o).run P w=(do pure (Next.value (<-s)):Sem Next).run P w):Yields P o e w R:=by
 have⟨v,w',h1,h2⟩:=h;unfold Yields;rw[he];simp only[Sem.run_bind,h1,Result.andThen_ok,Sem.run_pure];exact h2
theorem oO{ev:Operand->AV}{e:Operand->Value}:∀(l:List Operand),(∀x∈l,af ρ H O w (ev x) (e x))->bM ρ H O w (l.map ev) (l.map e)
 |[],_=>ba.2 rfl|x::l,h=>aE.2 ⟨e x,l.map e,rfl,h x (by simp),oO l (λy hy=>h y (by simp[hy]))⟩
theorem jL{aQ bs:List AV}{us vs:List Value}(h1:bM ρ H O w aQ us)(h2:bM ρ H O w bs vs):bM ρ H O w (aQ++bs) (us++vs):=by
 induction aQ generalizing us with
 |nil=>rw[ba.1 h1];exact h2|cons a aQ ih=>
  obtain⟨v,rest,rfl,h3,h4⟩:=aE.1 h1;exact aE.2 ⟨v,rest++vs,rfl,h3,ih h4⟩
theorem iG{f:FuncId}(h:jE P f=true)(args:Array Value)(w:World):(callFunc f args).run P w=.ok (.enter f args) w:=by
 unfold jE at h;split at h;rename_i fn hf;simp only[and_eq_true,not_eq_true',beq_eq_false_iff_ne,ne_eq]at h
 have hb:¬fn.body=none:=by
  intro hb;rw[hb]at h;simp at h
 simp[callFunc,hf,h.2,hb];cases h
theorem abJ{f:FuncId}{v:Value}(h:aX O w (.rK f) v):v=.func (.func f) #[] #[]:=by cases h;rfl
theorem af8{ev:Operand->AV}{e:Operand->Value}{l:Option Operand}(h:∀x,l=some x->af ρ H O w (ev x) (e x)):oF ρ H O w (l.map ev) (l.map e):=by
 cases l with
 |none=>trivial|some x=>exact h x rfl
theorem aaq{ps:Array (Nat×Operand)}{p:Nat×Operand}(h:p∈ps):p.2∈(ps.toList.map (·.2)).toArray:=by
 simp only[List.mem_toArray,mem_map];exact⟨p,Array.mem_toList_iff.2 h,rfl⟩
theorem ahx(hS:SOk P S Z){base:Nat}{o:Oper}{ev:Operand->AV}{q:bR}(h:(alm P (S base) ev o).eval H=some q)(hn:bK q.ab)(hz:ZAt Z ρ H w)(hs:Sat ρ H G w){e:Operand->Value}
 (hd:∀x∈o.op.operands,af ρ H (aW ρ H G) w (ev x) (e x)) (hb:∀i,i<q.new.length->H (base+i)=none):
 Yields P o e w (λv w'=>Good ρ H G w (c8 H q.up base q.new) (q.r base) v w'):=by
 unfold alm at h;split at h;rename_i x ho;have hx:=hd x (by simp[ho,Op.operands]);simp only[plain,RM.eval,Option.some.injEq]at h;subst h;unfold Yields;simp only[execOp,ho,Sem.run_pure,mC];exact Good.val hs hx;rename_i x ho;have hx:=hd x (by simp[ho,Op.operands]);simp only[plain,RM.eval,Option.some.injEq]at h;subst h;unfold Yields;simp only[execOp,ho,Sem.run_pure,mC];exact Good.val hs hx;rename_i c a b ho;obtain⟨⟨n,r⟩,h1,rfl⟩:=pQ h;have⟨t,h2,h3⟩:=alp h1 (hd c (by simp[ho,Op.operands])) (hd a (by simp[ho,Op.operands])) (hd b (by simp[ho,Op.operands]));unfold Yields;simp only[execOp,ho,h2,asBool,mC];cases t<;>simp at h3 ⊢ <;>exact Good.val hs h3;rename_i t ho;exact c9 (ajL h hs hb (.tuple #[])) (by simp only[execOp,ho]);rename_i t x ho;exact c9 (apG h hs (hd x (by simp[ho,Op.operands])) hb) (by simp only[execOp,ho]);rename_i t x ho;exact bH hs (apQ h hn (hd x (by simp[ho,Op.operands]))) (by simp only[execOp,ho]) base;rename_i t ps ho;exact bH hs (ajM h hn (λp hp=>hd p.2 (by rw[ho];exact aaq hp))) (by simp only[execOp,ho]) base;rename_i t n ps ho;exact c9 (xn h hs (λp hp=>hd p.2 (by rw[ho];exact aaq hp)) hb) (by simp only[execOp,ho]);rename_i t a ho;exact bH hs (acW h hn hs (hd a (by simp[ho,Op.operands]))) (by simp only[execOp,ho]) base;rename_i t a x ho;have⟨w',h1,h2⟩:=ajK h hs (hd a (by simp[ho,Op.operands])) (hd x (by simp[ho,Op.operands]));unfold Yields;simp only[execOp,ho,Sem.run_bind,h1,Result.andThen_ok,Sem.run_pure];exact h2 base;rename_i x ho;have⟨h1,h2,h3,h4⟩:=abu (P:=P) h hn (hd x (by simp[ho,Op.operands])) e o x ho rfl;unfold Yields;rw[h3,h1,h2,mC];exact Good.val hs (h4 base);rename_i op t x y ty ho;obtain⟨⟨n,r⟩,h1,rfl⟩:=pQ h;have⟨v,h2,h3⟩:=ahw (ox:=x) (oy:=y) h1 hn (hd x (by simp[ho,Op.operands])) (hd y (by simp[ho,Op.operands]));exact bH hs ⟨rfl,rfl,v,h2,λ_=>h3⟩ (by simp only[execOp,ho]) base;rename_i op t x ho;obtain⟨⟨n,r⟩,h1,rfl⟩:=pQ h;have⟨v,h2,h3⟩:=atX (P:=P) h1 hn (hd x (by simp[ho,Op.operands]));exact bH hs ⟨rfl,rfl,v,h2,λ_=>h3⟩ (by simp only[execOp,ho]) base;rename_i a b x ho;rw[cond_eq_ite]at h;split at h;exact c9 (adb h hn hs (hd x (by simp[ho,Op.operands])) base) (by simp only[execOp,ho]);exact bH hs (ac1 h hn hs (hd x (by simp[ho,Op.operands]))) (by simp only[execOp,ho]) base;rename_i t x ho;exact bH hs (ade h hn (hd x (by simp[ho,Op.operands]))) (by simp only[execOp,ho]) base;rename_i x ho;exact bH hs (ajZ h hn hs (hd x (by simp[ho,Op.operands]))) (by simp only[execOp,ho]) base;rename_i fn a b ho;refine bH hs (abv h hn (oO a.toList (λx hx=>hd x (by simp[ho,Op.operands,Array.mem_toList_iff.1 hx]))) (oO b.toList (λx hx=>hd x (by simp[ho,Op.operands,Array.mem_toList_iff.1 hx])))) ?_ base;have e1:∀a:Array Operand,(a.toList.map e).toArray=a.map e:=λa=>by apply toList_inj.1;simp
 simp only[execOp,ho,e1];rename_i t x l hi m ho;refine bH hs (ajD hs h hn (hd x (by simp[ho,Op.operands])) (af8 (l:=l) (λy hy=>hd y (by simp[ho,Op.operands,hy]))) (af8 (l:=hi) (λy hy=>hd y (by simp[ho,Op.operands,hy]))) (af8 (l:=m) (λy hy=>hd y (by simp[ho,Op.operands,hy])))) (by simp only[execOp,ho]) base;rename_i t x f ho;exact bH hs (zy h hn (hd x (by simp[ho,Op.operands]))) (by simp only[execOp,ho]) base;rename_i t x f ho;exact bH hs (ajC h hn (hd x (by simp[ho,Op.operands]))) (by simp only[execOp,ho]) base;rename_i t x i ho;exact bH hs (zz h hn hs (hd x (by simp[ho,Op.operands])) (hd i (by simp[ho,Op.operands]))) (by simp only[execOp,ho]) base;rename_i t x i ho;exact bH hs (ajA h hn (hd x (by simp[ho,Op.operands])) (hd i (by simp[ho,Op.operands]))) (by simp only[execOp,ho]) base;rename_i x i ho;exact bH hs (acY h hn (hd x (by simp[ho,Op.operands]))) (by simp only[execOp,ho]) base;rename_i t x i ok ho;exact bH hs (af6 h hn hs (hd x (by simp[ho,Op.operands])) (hd i (by simp[ho,Op.operands]))) (by simp only[execOp,ho]) base;rename_i t x i v ho;have⟨w',h1,h2⟩:=qx h hs (hd x (by simp[ho,Op.operands])) (hd i (by simp[ho,Op.operands])) (hd v (by simp[ho,Op.operands]));unfold Yields;simp only[execOp,ho,Sem.run_bind,h1,Result.andThen_ok,Sem.run_pure];exact h2 base;rename_i t x i v ho;have⟨w',h1,h2⟩:=qx h hs (hd x (by simp[ho,Op.operands])) (hd i (by simp[ho,Op.operands])) (hd v (by simp[ho,Op.operands]));unfold Yields;simp only[execOp,ho,Sem.run_bind,h1,Result.andThen_ok,Sem.run_pure];exact h2 base;rename_i t r ho;have⟨h1,h2⟩:=ada h hs hb
 have hr:r=none:=by cases r with
  |none=>rfl|some x=>cases h1
 subst hr;exact c9 h2 (by simp only[execOp,ho];rfl);rename_i t l c ho;exact c9 (zE h hn hs (hd l (by simp[ho,Op.operands])) (hd c (by simp[ho,Op.operands])) hb) (by simp only[execOp,ho]);rename_i c ho;split at h;rename_i f hc;have hf:=hd f (by simp[ho,Op.operands,Call.operands,hc]);have gw:∀x∈c.args.toList,af ρ H (aW ρ H G) w (ev x) (e x):=λx hx=>hd x (by simp[ho,Op.operands,Call.operands,hc,Array.mem_toList_iff.1 hx]);have hl:=oO c.args.toList gw;have e1:(c.args.toList.map e).toArray=c.args.map e:=by apply toList_inj.1;simp
 split at h;rename_i g hg;rw[hg]at hf;have hf':=ay (by simp) hf;unfold aag at h;rw[cond_eq_ite]at h;have hv:=abJ hf';split at h;rename_i gE;have key:=hS base g _ H q gE h hn ρ G w _ hb hz hs hl;unfold Yields
 have jh:(execOp e o).run P w=.ok (.enter g (c.args.toList.map e).toArray) w:=by
  rw[e1];simp[execOp,ho,resolve,hc,hv,Deferred.ofValue,invoke,iG gE]
 rw[jh];exact key;have⟨v,k1,k2,k3,k4⟩:=nq h hn hs hl;rw[e1]at k1;refine bH (s:=pure v) hs ⟨k2,k3,v,by simp,k4⟩ ?_ base;simp[execOp,ho,resolve,hc,hv,Deferred.ofValue,invoke,k1];rename_i g dw hg;rw[hg]at hf;unfold af at hf;have⟨vs,hv,r5⟩:=hf;unfold aag at h;rw[cond_eq_ite]at h;split at h;rename_i gE;have key:=hS base g _ H q gE h hn ρ G w _ hb hz hs (jL hl r5);unfold Yields
 have jh:(execOp e o).run P w=.ok (.enter g (c.args.toList.map e++vs).toArray) w:=by
  have e2:(c.args.toList.map e++vs).toArray=c.args.map e++vs.toArray:=by apply toList_inj.1;simp
  rw[e2];simp[execOp,ho,resolve,hc,hv,Deferred.ofValue,invoke,iG gE]
 rw[jh];exact key;have⟨v,k1,k2,k3,k4⟩:=nq h hn hs (jL hl r5);have e2:(c.args.toList.map e++vs).toArray=c.args.map e++vs.toArray:=by apply toList_inj.1;simp
 rw[e2]at k1;refine bH (s:=pure v) hs ⟨k2,k3,v,by simp,k4⟩ ?_ base;simp[execOp,ho,resolve,hc,hv,Deferred.ofValue,invoke,k1];rename_i g dw hg;rw[hg]at hf;unfold af at hf;have⟨vs,hv,r5⟩:=hf;unfold aag at h;rw[cond_eq_ite]at h;split at h;rename_i gE;have key:=hS base g _ H q gE h hn ρ G w _ hb hz hs (jL r5 hl);unfold Yields
 have jh:(execOp e o).run P w=.ok (.enter g (vs++c.args.toList.map e).toArray) w:=by
  have e2:(vs++c.args.toList.map e).toArray=vs.toArray++c.args.map e:=by apply toList_inj.1;simp
  rw[e2];simp[execOp,ho,resolve,hc,hv,Deferred.ofValue,invoke,iG gE]
 rw[jh];exact key;have⟨v,k1,k2,k3,k4⟩:=nq h hn hs (jL r5 hl);have e2:(vs++c.args.toList.map e).toArray=vs.toArray++c.args.map e:=by apply toList_inj.1;simp
 rw[e2]at k1;refine bH (s:=pure v) hs ⟨k2,k3,v,by simp,k4⟩ ?_ base;simp[execOp,ho,resolve,hc,hv,Deferred.ofValue,invoke,k1];cases h;rename_i b hc;have gw:∀x∈c.args.toList,af ρ H (aW ρ H G) w (ev x) (e x):=λx hx=>hd x (by simp[ho,Op.operands,Call.operands,hc,Array.mem_toList_iff.1 hx])
 have jh:(execOp e o).run P w=(builtin b c.argTypes o.type (c.args.map λ|.const _=>true|_=>false) (c.args.map e)).run P w:=by
  simp[execOp,ho,resolve,hc,invoke];rfl
 unfold acR at h;split at h;rename_i t ts x hts hx
 obtain⟨y,hy,rfl⟩:∃y,c.args.toList=[y]/\ev y=x:=by
  cases hl:c.args.toList with
  |nil=>rw[hl]at hx;simp at hx|cons y l=>
   rw[hl]at hx;simp only[map_cons,List.cons.injEq,List.map_eq_nil_iff]at hx;exact⟨y,by rw[hx.2],hx.1⟩
 have ea:c.args.map e= #[e y]:=by apply toList_inj.1;simp[hy]
 have et:c.argTypes=(t::ts).toArray:=by apply toList_inj.1;simp[hts]
 refine bH hs (apB (ty:=o.type) (ts:=ts) h hn hs (gw y (by simp[hy]))) ?_ base;rw[jh,ea,et];rfl;rename_i t ts x hts hx
 obtain⟨y,hy,rfl⟩:∃y,c.args.toList=[y]/\ev y=x:=by
  cases hl:c.args.toList with
  |nil=>rw[hl]at hx;simp at hx|cons y l=>
   rw[hl]at hx;simp only[map_cons,List.cons.injEq,List.map_eq_nil_iff]at hx;exact⟨y,by rw[hx.2],hx.1⟩
 have ea:c.args.map e= #[e y]:=by apply toList_inj.1;simp[hy]
 have et:c.argTypes=(t::ts).toArray:=by apply toList_inj.1;simp[hts]
 refine bH hs (apC (ty:=o.type) (ts:=ts) h hn hs (gw y (by simp[hy]))) ?_ base;rw[jh,ea,et];rfl;rename_i t t' x y hts hx
 obtain⟨x0,y0,hl,rfl,rfl⟩:∃x0 y0,c.args.toList=[x0,y0]/\ev x0=x/\ev y0=y:=by
  match hl:c.args.toList with
  |[]=>rw[hl]at hx;simp at hx|[_]=>rw[hl]at hx;simp at hx|[a,b]=>rw[hl]at hx;simp at hx;exact⟨a,b,rfl,hx.1,hx.2⟩|_::_::_::_=>rw[hl]at hx;simp at hx
 have ea:c.args.map e= #[e x0,e y0]:=by apply toList_inj.1;simp[hl]
 have et:c.argTypes= #[t,t']:=by apply toList_inj.1;simp[hts]
 rw[cond_eq_ite]at h;split at h;rename_i hz
 have hzero:(∃e',P.underlying t'=some (.slice e'))\/P.underlying t'=some .string:=by
  unfold abl at hz;split at hz;rename_i e' he;exact .inl ⟨e',he⟩;rename_i he;exact .inr he;cases hz
 refine c9 (af4 (ty:=o.type) h hn hs (gw x0 (by simp[hl])) (gw y0 (by simp[hl])) hzero hb) ?_;rw[jh,ea,et];rfl;refine c9 (adi (ty:=o.type) h hn hs (gw x0 (by simp[hl])) (gw y0 (by simp[hl])) hb) ?_;rw[jh,ea,et];rfl;rename_i x y hx
 obtain⟨x0,y0,hl,rfl,rfl⟩:∃x0 y0,c.args.toList=[x0,y0]/\ev x0=x/\ev y0=y:=by
  match hl:c.args.toList with
  |[]=>rw[hl]at hx;simp at hx|[_]=>rw[hl]at hx;simp at hx|[a,b]=>rw[hl]at hx;simp at hx;exact⟨a,b,rfl,hx.1,hx.2⟩|_::_::_::_=>rw[hl]at hx;simp at hx
 have ea:c.args.map e= #[e x0,e y0]:=by apply toList_inj.1;simp[hl]
 refine bH hs (aht (ts:=c.argTypes) (ty:=o.type) h hn (gw x0 (by simp[hl])) (gw y0 (by simp[hl]))) ?_ base;rw[jh,ea];rfl;rename_i x y hx
 obtain⟨x0,y0,hl,rfl,rfl⟩:∃x0 y0,c.args.toList=[x0,y0]/\ev x0=x/\ev y0=y:=by
  match hl:c.args.toList with
  |[]=>rw[hl]at hx;simp at hx|[_]=>rw[hl]at hx;simp at hx|[a,b]=>rw[hl]at hx;simp at hx;exact⟨a,b,rfl,hx.1,hx.2⟩|_::_::_::_=>rw[hl]at hx;simp at hx
 have ea:c.args.map e= #[e x0,e y0]:=by apply toList_inj.1;simp[hl]
 refine bH hs (aht (ts:=c.argTypes) (ty:=o.type) h hn (gw x0 (by simp[hl])) (gw y0 (by simp[hl]))) ?_ base;rw[jh,ea];rfl;rename_i t t' x y hts hx
 obtain⟨x0,y0,hl,rfl,rfl⟩:∃x0 y0,c.args.toList=[x0,y0]/\ev x0=x/\ev y0=y:=by
  match hl:c.args.toList with
  |[]=>rw[hl]at hx;simp at hx|[_]=>rw[hl]at hx;simp at hx|[a,b]=>rw[hl]at hx;simp at hx;exact⟨a,b,rfl,hx.1,hx.2⟩|_::_::_::_=>rw[hl]at hx;simp at hx
 have ea:c.args.map e= #[e x0,e y0]:=by apply toList_inj.1;simp[hl]
 have et:c.argTypes= #[t,t']:=by apply toList_inj.1;simp[hts]
 rw[cond_eq_ite]at h;split at h;rw[cond_eq_ite]at h;split at h;have⟨v,w',h1,h2⟩:=ajY (ty:=o.type) (t':=t') h hn hs (gw x0 (by simp[hl])) (gw y0 (by simp[hl]));refine c9 ⟨v,w',h1,h2 base⟩ ?_;rw[jh,ea,et];rfl;have⟨v,w',h1,h2⟩:=alF (ty:=o.type) (t':=t') h hs (gw x0 (by simp[hl])) (gw y0 (by simp[hl]));refine c9 ⟨v,w',h1,h2 base⟩ ?_;rw[jh,ea,et];rfl;cases h;rename_i t ts x hts hx
 obtain⟨y,hy,rfl⟩:∃y,c.args.toList=[y]/\ev y=x:=by
  cases hl:c.args.toList with
  |nil=>rw[hl]at hx;simp at hx|cons y l=>
   rw[hl]at hx;simp only[map_cons,List.cons.injEq,List.map_eq_nil_iff]at hx;exact⟨y,by rw[hx.2],hx.1⟩
 have ea:c.args.map e= #[e y]:=by apply toList_inj.1;simp[hy]
 have et:c.argTypes=(t::ts).toArray:=by apply toList_inj.1;simp[hts]
 have⟨v,w',h1,h2⟩:=ajV (ty:=o.type) (ts:=ts) h hs (gw y (by simp[hy]));refine c9 ⟨v,w',h1,h2 base⟩ ?_;rw[jh,ea,et];rfl;cases h;cases h;cases h
theorem RM.mJ{α:Type}{id:Nat}:∀(m:RM α),(m.afU id).eval H=m.eval (aC H id .ax)
 |.ret a=>rfl|.look j k=>by
  simp only[RM.afU,RM.eval,cond_eq_ite,aC];by_cases h:j=id;subst h;rw[if_pos (Nat.beq_refl _),if_pos rfl];exact RM.mJ _;rw[if_neg (by simpa using h),if_neg h];simp only[RM.eval];exact RM.mJ _
 |.fail w=>rfl
theorem aX.asF(gu:∀b,O' b->O b){x:SV}{v:Value}(h:aX O w x v):aX O' w x v:=h.step (λb hb=>.inl (gu b hb)) (λ_ _ _=>rfl) (le_refl _)
theorem r6(hs:Sat ρ H G w){id:Nat}{c:aV}{e:TypeId}(ho:H id=some (.vec c e)):aX (aW ρ (aC H id .ax) G) w (.ro c) (ρ id):=by
 have dU:=hs.obj id _ ho;have⟨a,cap,hr,h2,h3,h4⟩:=dU;have alO:∀b,aW ρ (aC H id .ax) G b->aW ρ H G b:=λb hb=>hb.imp fl (λx=>x);rw[hr];by_cases hc:cap=0;have h0:c.n=0:=by omega
 have:=aX.ro (O:=aW ρ (aC H id .ax) G) (w:=w) c a cap (λ_ _=>undef) 0 0 h2 h3 (λh=>by omega) (λi j hi hj=>by omega) (λi j hi hj=>by omega);exact this;obtain⟨b,o,cells,fr,us,rfl,g1,g2,g3,g4⟩:=h4.resolve_left hc;have mq:eZ (ρ id)=some b:=by rw[hr];simp only[eZ];rw[if_neg hc]
 refine aX.ro c _ cap us b o h2 h3 (λ_=>⟨rfl,λhb=> ?_,(Array.getElem?_eq_some_iff.1 g1).1⟩) (λi j hi hj=> ?_) (λi j hi hj=> ?_);rcases hb with⟨j,x,hx,ha,hb⟩|hb;by_cases hj:j=id;subst hj;simp only[aC,if_true,Option.some.injEq]at hx;subst hx;cases ha;simp only[aC,hj,if_false]at hx;exact hj (hs.inj j id x _ b hx ho ha rfl hb mq);exact hs.apart b ⟨id,_,ho,rfl,mq⟩ hb;rw[dg g1];exact(g4 i j hi hj).1;exact(g4 i j hi hj).2.asF alO
theorem RM.nr{id:Nat}:∀(m:RM bR) {q:bR},(m.nj id).eval H=some q->∃q',m.eval H=some q'/\q={q' with up:=(id,.ax)::q'.up}
 |.ret a,q,h=>by
  simp only[RM.nj,RM.eval,Option.some.injEq]at h;exact⟨a,rfl,h.symm⟩
 |.look j k,q,h=>by
  simp only[RM.nj,RM.eval]at h ⊢;exact RM.nr _ h
 |.fail w,q,h=>by simp[RM.nj,RM.eval]at h
theorem Yields.imp{o:Oper}{e:Operand->Value}{R R':Value->World->Prop}(h:Yields P o e w R)(hr:∀v w',R v w'->R' v w'):Yields P o e w R':=by
 unfold Yields at h ⊢;split at h;exact hr _ _ h;exact hr _ _ h;exact h.mono λen w'' ⟨v,he,hv⟩=>⟨v,he,hr _ _ hv⟩;exact h
theorem aar(hS:SOk P S Z){base:Nat}{o:Oper}:∀(ids:List Nat) {H:aT} {ev:Operand->AV} {q:bR},(giveUp ids ev λev=>alm P (S base) ev o).eval H=some q->bK q.ab->ZAt Z ρ H w->Sat ρ H G w->
 ∀{e:Operand->Value},(∀x∈o.op.operands,af ρ H (aW ρ H G) w (ev x) (e x))->(∀i,i<q.new.length->H (base+i)=none)->
 Yields P o e w (λv w'=>Good ρ H G w (c8 H q.up base q.new) (q.r base) v w')
 |[],H,ev,q,h,hn,hz,hs,e,hd,hb=>ahx hS h hn hz hs hd hb|id::ids,H,ev,q,h,hn,hz,hs,e,hd,hb=>by
  simp only[giveUp,RM.eval]at h;split at h;rename_i c el ho;obtain⟨q',h1,rfl⟩:=RM.nr _ h;rw[RM.mJ]at h1;have st:=fk (ρ:=ρ) (G:=G) (w:=w) ho;have hz1:ZAt Z ρ (aC H id .ax) w:=⟨hz.1,λb hb hO=>hz.2 b hb (fl hO)⟩
  have hb1:∀j,j<q'.new.length->aC H id .ax (base+j)=none:=λj hj=>by
   have:=hb j hj;simp only[aC];split;rename_i e1;rw[e1,ho]at this;cases this;exact this
  have hd1:∀x∈o.op.operands,af ρ (aC H id .ax) (aW ρ (aC H id .ax) G) w (aln id c ev x) (e x):=λx hx=>by
   have h0:=hd x hx;have h2:=af.step st _ _ h0;unfold aln;split;rename_i j hj;rw[cond_eq_ite];split;rename_i hji;have hji:j=id:=by simpa using hji
   subst hji;rw[hj]at h0;have⟨a,cap,hv,hr,_⟩:=iD hs ho h0;have:=r6 hs ho;rw[hr]at this;exact aF this;rw[hj]at h2;exact h2;exact h2
  refine(aar hS ids h1 hn hz1 (hs.kill ho) hd1 hb1).imp λv w' hg=> ?_
  have af9:c8 H ((id,.ax)::q'.up) base q'.new=c8 (aC H id .ax) q'.up base q'.new:=by
   funext j;simp only[c8,cz,aC];cases cz q'.up j with
   |some x=>rfl|none=>
    simp only[];by_cases hj:j=id;subst hj
    have ui:¬(base<=j/\j<base+q'.new.length):=by
     rintro⟨k1,k2⟩;have:=hb (j - base) (by simp only[];omega);rw[show base+(j - base)=j from by omega,ho]at this;cases this
    simp[ui];simp[hj]
  simp only[];rw[af9];exact Good.after st (λb hb=>fl hb) hg;simp[RM.eval]at h
theorem alP(hS:SOk P S Z){base:Nat}{o:Oper}{ev:Operand->AV}{q:bR}(h:(vT P (S base) ev o).eval H=some q)(hn:bK q.ab)(hz:ZAt Z ρ H w)(hs:Sat ρ H G w){e:Operand->Value}
 (hd:∀x∈o.op.operands,af ρ H (aW ρ H G) w (ev x) (e x)) (hb:∀i,i<q.new.length->H (base+i)=none):
 Yields P o e w (λv w'=>Good ρ H G w (c8 H q.up base q.new) (q.r base) v w'):=by
 unfold vT at h;split at h;rename_i op t x y ty ho;have hx:=mA (hd x (by simp[ho,Op.operands]));have hy:=hd y (by simp[ho,Op.operands]);rw[cond_eq_ite]at h;split at h;rename_i hi;exact bH hs (apD (ox:=x) (oy:=y) h hn hs hx (alr hy hi)) (by simp only[execOp,ho]) base;rw[cond_eq_ite]at h;split at h;exact bH hs (afW (t:=t) (ox:=x) (oy:=y) h hn hx hy) (by simp only[execOp,ho]) base;obtain⟨⟨n,r⟩,h1,rfl⟩:=pQ h;have⟨v,h2,h3⟩:=ahw (ox:=x) (oy:=y) h1 hn hx hy;exact bH hs ⟨rfl,rfl,v,h2,λ_=>h3⟩ (by simp only[execOp,ho]) base;exact aar hS _ h hn hz hs (λx hx=>mA (hd x hx)) hb;exact ahx hS h hn hz hs (λx hx=>mA (hd x hx)) hb
end
structure St where
 tmps:List AV
 H:List ak
def ji(tmps:List AV):Operand->AV
 |.tmp t=>tmps.getD t (.s .aZ)|.const (.slice none 0 0)=>.s .qL|.const v=>abg v|.global _=>.s .aZ|.func f=>.s (.rK f)
def St.look(s:St):aT:=λid=>s.H[id]?
def oP(H:List ak):List (Nat×ak)->List ak
 |[]=>H|(id,o)::us=>oP (H.set id o) us
def cX(tmps:List AV):Option Tmp->AV->List AV
 |some d,v=>tmps.set d v|none,_=>tmps
def St.put(s:St)(dst:Option Tmp)(r:bR):St:=
 {tmps:=cX s.tmps dst (r.r s.H.length),H:=oP s.H r.up++r.new}
structure Lp where
 ps:List Tmp
 asg:Code
 body:Code
inductive mK where
 |ready|busy|done (c:Code)
structure tH where
 f:Option FuncId
 n:Nat
 round:Bool
 marks:Nat
 lp:Option (Lp×mK)
 todo:List Item
 key:Nat×Nat
structure um where
 f:Option FuncId:=none
 round:Bool:=false
 marks:Nat:=0
 below:List tH:=[]
 rid:Nat:=0
structure bP where
 tmps:List AV
 H:List ak
 todo:List Item
 stk:um:={}
def iH:Code->Option Nat
 |.region id _ _=>some id|.seq a b=>match iH a with
  |some i=>some i|none=>iH b
 |.cond _ a b=>match iH a with
  |some i=>some i|none=>iH b
 |.block _ c|.loop c|.scope c=>iH c|_=>none
def ahy(k:um)(id:Nat):Nat:=match k.f with
 |none=>id|some g=>(g+1)*100000+id
def fD:Nat:=1000000000
def abK:Nat:=1000000000000000
def hY(b:Bool):Nat:=bif b then 1 else 0
def tH.size(d:tH):Nat:=d.n+hY d.round+d.marks+hY d.lp.isSome
def ahz:List tH->Nat
 |[]=>0|d::ds=>d.size+ahz ds
def um.extra(k:um):Nat:=hY k.round+k.marks
def alQ(k:um)(id j:Nat):Nat:=abK+(ahy k id*1000+j)
def bP.n(c:bP):Nat:=c.tmps.length - (c.stk.extra+ahz c.stk.below)
def um.plain(k:um):Bool:= !k.round&&k.marks.beq 0&&k.below.isEmpty
def um.fn(P:Program)(fn:Func)(k:um):Option Func:=match k.f with
 |none=>some fn|some g=>P.funcs[g]?
inductive Tree where
 |ab (p:Prop) (t:Tree)|ite (b:Bool) (t e:Tree)|both (p q:Prop) (t e:Tree)|ret (H:List ak) (v:AV)|at(c:bP)|stuck (why:String)
def Tree.aas:List Prop->Tree->Tree
 |[],t=>t|p::ps,t=>.ab p (aas ps t)
def vA(us:List (Nat×ak)):List Nat:=us.map (·.1)
def aat(n:Nat)(us:List (Nat×ak)):Bool:=us.all λx=>x.1.blt n
structure Touch where
 i:Nat
 rd:List Nat
 wr:List Nat
def Touch.ahA(a b:Touch):Bool:=a.wr.any (λx=>b.rd.contains x||b.wr.contains x)||b.wr.any (λx=>a.rd.contains x)
def oQ(id:Nat)(c:aV):AV->AV
 |.vec j=>bif j.beq id then .s (.ro c)else .vec j|a=>a
def oR(id:Nat)(c:aV):AV->AV
 |.agg az=>.agg (az.map (oQ id c))|.vec j=>bif j.beq id then .s (.ro c)else .vec j|a=>a
def adl(id:Nat)(c:aV):ak->ak
 |.aq az e=>.aq (az.map (oQ id c)) e|o=>o
def xx(s:St)(id:Nat):St:=
 match s.H[id]? with
 |some (.vec c _)=>⟨s.tmps.map (oR id c),(s.H.map (adl id c)).set id .ax⟩|_=>s
def aga:AV->List Nat
 |.agg az=>az.filterMap λa=>match a with
  |.vec j=>some j|_=>none
 |.vec j=>[j]|_=>[]
def iI(s:St)(o:Oper):St:=
 match o.op with
 |.buildSlice _ _ ps=>(ps.toList.flatMap λp=>aga (ji s.tmps p.2)).foldl xx s|.store _ a x=>match ji s.tmps a with
  |.gR _ _ _=>(aga (ji s.tmps x)).foldl xx s|_=>s
 |_=>s
def mi(P:Program)(S:fI)(ops:Array Oper)(cont:St->List Touch->Tree):Nat->List Oper->St->List Touch->Tree
 |_,[],s,tr=>cont s tr|i,o::rest,s,tr=>
  let go (s:St):Tree:=
   let m:=vT P (S s.H.length) (ji s.tmps) o
   match m.eval s.look with
   |some r=>bif aat s.H.length r.up then .aas r.ab (mi P S ops cont (i+1) rest (s.put o.dst r) (⟨i,m.ids s.look,vA r.up++(List.range r.new.length).map (s.H.length+·)⟩::tr))else .stuck "up"|none=>.stuck (o.pos++ " " ++m.why s.look)
  let skip (s:St):Tree:=mi P S ops cont (i+1) rest {s with tmps:=cX s.tmps o.dst (.bt [])} tr
  match o.guard with
  |none=>go s|some (g,want)=>
   match(ops[g]?).bind (·.dst)with
   |none=>.stuck "guard"|some d=>
    match s.tmps.getD d (.s .aZ)with
    |.s (.aK b)=>bif b==want then go s else skip s|.s (.bool b)=>.ite b
     (bif want then go {s with tmps:=s.tmps.set d (.s (.aK true))}else skip {s with tmps:=s.tmps.set d (.s (.aK true))})
     (bif want then skip {s with tmps:=s.tmps.set d (.s (.aK false))}else go {s with tmps:=s.tmps.set d (.s (.aK false))})
    |.bt []=>skip s|_=>.stuck "guard: no truth"
def xy(ops:Array Oper):Nat->Nat->Nat->Bool
 |0,_,_=>false|n+1,i,j=>match ops[i]? with
  |some o=>(o.after.any λe=>Region.binds .any e&&e.on.beq j)||(o.after.any λe=>Region.binds .any e&&j.blt e.on&&xy ops n e.on j)|none=>false
def gL(ops:Array Oper)(i j:Nat):Bool:=xy ops 9 i j
def jj(ops:Array Oper):List Touch->Bool
 |[]=>true|b::aQ=>aQ.all (λa=> !(a.ahA b)||gL ops b.i a.i)&&jj ops aQ
def iJ(ops:Array Oper):Bool:=
 (List.range ops.size).all λi=>(List.range ops.size).all λj=>
   match ops[i]?,ops[j]? with
   |some x,some y=>
    (i==j)||(match x.dst with
      |none=>true|some d=>(!(y.looksAt ops).contains d&& !(y.dst==some d))||(if i<j then gL ops j i else gL ops i j))
   |_,_=>false
def dZ(ops:Array Oper):Bool:=
 (List.range ops.size).all λi=>match ops[i]? with
   |some o=>o.after.all λe=> !(Region.binds .any e)||e.on.blt i|none=>true
def xz(ops:Array Oper)(j:Nat):Bool:=(List.range ops.size).all λi=>i.blt j||(List.range i).all λk=>gL ops i k
def asG(ops:Array Oper):Nat->Nat
 |0=>0|i+1=>bif (List.range i).all (λk=>gL ops i k)then asG ops i else i+1
def apR(o:Oper):Bool:=
 match o.op with
 |.call c=>match c.callee with
  |.value (.tmp _)=>true|_=>false
 |_=>false
def cutAt(ops:Array Oper):Nat:=bif ops.toList.any apR then asG ops ops.size else ops.size
def r7(o:Oper)(ev:Operand->AV):Option (AV×List AV):=
 match o.op with
 |.call c=>match c.callee with
  |.value f=>some (qu (ev f),c.args.toList.map λx=>qu (ev x))|_=>none
 |_=>none
def ahB(o:Oper):Bool:=
 match o.op with
 |.range _ _|.next _ false=>true|_=>false
def lZ(P:Program)(S:fI)(ops:Array Oper)(enter:St->Nat->Oper->Option Tree)(cont:St->Tree):Nat->List Oper->St->Tree
 |_,[],s=>cont s|i,o::rest,s=>
  let go (s:St):Tree:=
   match enter s i o with
   |some t=>t|none=>
    let s:=iI s o;let m:=vT P (S s.H.length) (ji s.tmps) o
    match m.eval s.look with
    |some r=>bif aat s.H.length r.up then .aas r.ab (lZ P S ops enter cont (i+1) rest (s.put o.dst r))else .stuck "up"|none=>.stuck (o.pos++ " " ++m.why s.look)
  let skip (s:St):Tree:=lZ P S ops enter cont (i+1) rest {s with tmps:=cX s.tmps o.dst (.bt [])}
  match o.guard with
  |none=>go s|some (g,want)=>
   match(ops[g]?).bind (·.dst)with
   |none=>.stuck "guard"|some d=>
    match s.tmps.getD d (.s .aZ)with
    |.s (.aK b)=>bif b==want then go s else skip s|.s (.bool b)=>.ite b
     (bif want then go {s with tmps:=s.tmps.set d (.s (.aK true))}else skip {s with tmps:=s.tmps.set d (.s (.aK true))})
     (bif want then skip {s with tmps:=s.tmps.set d (.s (.aK false))}else go {s with tmps:=s.tmps.set d (.s (.aK false))})
    |.s (.lN n0 eq)=>.both (bif eq then n0=0 else True) (bif eq then True else n0=0)
     (bif want then go {s with tmps:=s.tmps.set d (.s (.aK true))}else skip {s with tmps:=s.tmps.set d (.s (.aK true))})
     (bif want then skip {s with tmps:=s.tmps.set d (.s (.aK false))}else go {s with tmps:=s.tmps.set d (.s (.aK false))})
    |.bt []=>skip s|_=>.stuck "guard: no truth"
def gF(P:Program)(s:St):List ResultVar->Option (List AV)
 |[]=>some []|.tmp t::rs=>(gF P s rs).map (s.tmps.getD t (.s .aZ):: ·)|.cell t T::rs=>match(aho P T (s.tmps.getD t (.s .aZ))).eval s.look,gF P s rs with
  |some r,some vs=>match r.ab,r.up,r.new with
   |[],[],[]=>some (r.r 0::vs)|_,_,_=>none
  |_,_=>none
def oneOf:List AV->AV
 |[v]=>v|vs=>.bt vs
def ahC(n:Nat)(ops:Array Oper)(o:Oper):Bool:=
 (o.looksAt ops).all (·.blt n)&&o.dst.all (·.blt n)&&(match o.op with|.select _ _=>false|.defer _=>false|_=>true)
def l5(n:Nat)(ops:Array Oper):Bool:=ops.toList.all (ahC n ops)
def iK(ops:Array Oper):Bool:=ops.toList.all λo=>match o.op with|.defer _=>false|_=>true
def lg(id:Nat):List tH->List AV->Option (tH×Lp×mK×List AV)
 |[],_=>none|d::ds,vs=>
  match d.lp with
  |some (L,st)=>(match vs.getD (d.n+hY d.round+d.marks) (.s .aZ)with
   |.tag j=>bif j.beq id then some (d,L,st,vs.take d.n)else lg id ds (vs.drop d.size)|_=>lg id ds (vs.drop d.size))
  |none=>lg id ds (vs.drop d.size)
def jM(id:Nat)(rG:mK):List tH->List AV->List tH
 |[],_=>[]|d::ds,vs=>
  match d.lp with
  |some (L,_)=>(match vs.getD (d.n+hY d.round+d.marks) (.s .aZ)with
   |.tag j=>bif j.beq id then{d with lp:=some (L,rG)}::ds else d::jM id rG ds (vs.drop d.size)|_=>d::jM id rG ds (vs.drop d.size))
  |none=>d::jM id rG ds (vs.drop d.size)
def mj{α:Type}(cT:List α)(ps:List Tmp)(args:List α):List α:=(ps.zip args).foldl (λt x=>t.set x.1 x.2) cT
def resume(c:bP)(v:AV)(below:List tH)(k:bP->Tree):Tree:=
 match below with
 |d::ds=>
  match d.lp,d.todo with
  |none,.inRegion ops (i::rest)::td=>
   let dst:=(ops[i]?).bind (·.dst)
   bif dst.all (·.blt d.n)then k {tmps:=cX (c.tmps.drop (c.n+c.stk.extra)) dst v,H:=c.H,todo:=.inRegion ops rest::td,stk:=⟨d.f,d.round,d.marks,ds,d.key.1⟩}else .stuck "resume: slot"
  |_,_=>.stuck "resume"
 |[]=>.stuck "resume: nobody waits"
def ahD(c:bP)(v:AV)(k:bP->Tree):Tree:=
 match c.stk.below with
 |[]=>bif c.stk.f.isNone then .ret c.H v else .stuck "whose end?"|d::ds=>
  match d.lp with
  |none=>resume c v c.stk.below k|some (_,.busy)=>.stuck "the round is not done"|some (_,st)=>
   let vs:=c.tmps.drop (c.n+c.stk.extra);let m:=d.n+hY d.round+d.marks
   k {tmps:=vs.take m++vs.drop (m+1),H:=c.H,todo:=(match st with|.done j=>[.code j]|_=>[])++d.todo,stk:=⟨d.f,d.round,d.marks,ds,0⟩}
def adm(c:bP)(jump:Option Code)(k:bP->Tree):Tree:=
 match c.tmps.getD c.n (.s .aZ)with
 |.tag id=>bif c.stk.marks.beq 0 then
  match lg id c.stk.below (c.tmps.drop (c.n+c.stk.extra))with
  |some _=>resume c (.s (.aK jump.isNone)) (jM id (match jump with|none=>.ready|some j=>.done j) c.stk.below (c.tmps.drop (c.n+c.stk.extra))) k|none=>.stuck "round: no loop"
  else .stuck "round: marks"
 |_=>.stuck "round: no yield"
def oS(P:Program)(c:bP)(f:FuncId)(args:List AV)(wait:tH)(k:bP->Tree):Tree:=
 match P.funcs[f]? with
 |some g=>bif jE P f&&args.length.ble g.ntmps then
  k {tmps:=args++replicate (g.ntmps - args.length) (.bt [])++c.tmps,H:=c.H,todo:=[.code (g.body.getD .skip)],stk:=⟨some f,false,0,wait::c.stk.below,0⟩}
  else .stuck "enter: no body"
 |none=>.stuck "enter: no function"
def abL(c:bP)(id:Nat)(args:List AV)(wait:tH)(k:bP->Tree):Tree:=
 match lg id c.stk.below (c.tmps.drop (c.n+c.stk.extra))with
 |some (d,L,_,cT)=>bif args.length.beq L.ps.length&&L.ps.all (·.blt d.n)then
  k {tmps:=mj cT L.ps args++.tag id::c.tmps,H:=c.H,todo:=[.code L.asg,.beginRound,.code L.body],stk:=⟨d.f,true,0,wait::c.stk.below,0⟩}
  else .stuck "yield: arguments"
 |none=>.stuck "yield: no loop"
def abM(P:Program)(c:bP)(f:FuncId)(dw:List AV)(L:Lp)(todo:List Item)(k:bP->Tree):Tree:=
 bif c.stk.round then .stuck "range: in a round" else
 let id:=c.H.length;let wait:tH:=⟨c.stk.f,c.n,false,c.stk.marks+1,some (L,.ready),todo,((iH L.body).getD 0,0)⟩
 oS P {c with tmps:=c.tmps.take c.n++.tag id::((c.tmps.drop c.n).take c.stk.marks++.tag (id+1)::c.tmps.drop (c.n+c.stk.marks)),H:=c.H++[.ax]++[.ax]} f (.tag (id+1)::dw) wait k
def exec(P:Program)(S:fI)(fn:Func)(stop:Nat->Bool)(inl:FuncId->Bool):Nat->Bool->bP->Tree
 |0,_,c=>.at c|n+1,first,c=>
  let to (k:List Item):Tree:=exec P S fn stop inl n first {c with todo:=k}
  let go (c:bP):Tree:=exec P S fn stop inl n false c
  let back:Tree:=
   match c.stk.fn P fn with
   |some g=>(match gF P ⟨c.tmps.take c.n,c.H⟩ g.results.toList with
    |some vs=>ahD c (oneOf vs) go|none=>.stuck "results")
   |none=>.stuck "results: whose?"
  let ops (first:Bool) (id:Nat) (ops:Array Oper) (i:Nat) (k:List Item):Tree:=
   bif iK ops&&(c.stk.plain||l5 c.n ops)then
    lZ P S ops (λs j o=>
     let c':bP:={c with tmps:=s.tmps,H:=s.H};let wait:tH:=⟨c.stk.f,c.n,c.stk.round,c.stk.marks,none,.inRegion ops (range' j (ops.size - j))::k,(id,j)⟩
     bif stop (alQ c.stk id j)&& !(first&&j.beq i)then some (.at {c' with todo:=.inRegion ops (range' j (ops.size - j))::k,stk:={c.stk with rid:=id}})else
     match r7 o (ji s.tmps)with
     |some (g,args)=>(match g with
      |.s (.rK f)=>bif inl f then some (oS P c' f args wait go)else none|.fn f dw=>bif inl f then some (oS P c' f (args++dw) wait go)else none|.tag y=>some (abL c' y args wait go)|_=>none)
     |none=>bif ahB o then some (.at {c' with todo:=.inRegion ops (range' j (ops.size - j))::k,stk:={c.stk with rid:=id}})else none) (λs=>exec P S fn stop inl n first {c with tmps:=s.tmps,H:=s.H,todo:=k,stk:={c.stk with rid:=0}}) i (ops.toList.drop i) ⟨c.tmps,c.H⟩
   else .stuck "region: slots"
  match c.todo with
  |[]=>bif c.stk.round then adm c none go else back|.code .ret::_=>bif c.stk.round then adm c (some .ret) go else back|.code .skip::k|.code (.label _)::k|.inBlock _::k|.inScope _::k=>to k|.code (.seq a b)::k=>to (.code a::.code b::k)|.code (.block id body)::k=>to (.code body::.inBlock id::k)|.code (.scope body)::k=>to (.code body::.inScope body::k)|.code (.exit id)::k=>match exitTo id k with
   |some k'=>to k'|none=>bif c.stk.round then adm c (some (.exit id)) go else .stuck "exit"
  |.code (.cond (.tmp t) a b)::k=>
   bif c.stk.plain||t.blt c.n then
   match c.tmps.getD t (.s .aZ)with
   |.s (.aK x)=>to (.code (bif x then a else b)::k)|.s (.bool x)=>.ite x (exec P S fn stop inl n first {c with tmps:=c.tmps.set t (.s (.aK true)),todo:=.code a::k}) (exec P S fn stop inl n first {c with tmps:=c.tmps.set t (.s (.aK false)),todo:=.code b::k})
   |.s (.lN n0 eq)=>.both (bif eq then n0=0 else True) (bif eq then True else n0=0) (exec P S fn stop inl n first {c with tmps:=c.tmps.set t (.s (.aK true)),todo:=.code a::k}) (exec P S fn stop inl n first {c with tmps:=c.tmps.set t (.s (.aK false)),todo:=.code b::k})
   |_=>.stuck "cond"
   else .stuck "cond: slot"
  |.code (.region id rs draw)::k=>
   bif !first&&stop (ahy c.stk id)then .at c else
   bif draw then
    (bif iJ rs&&dZ rs&&iK rs&&(c.stk.plain||l5 c.n rs)then
      bif (cutAt rs).blt rs.size&&xz rs (cutAt rs)then
       mi P S rs (λs tr=>bif jj rs tr then exec P S fn stop inl n false {c with tmps:=s.tmps,H:=s.H,todo:=.inRegion rs (range' (cutAt rs) (rs.size - cutAt rs))::k,stk:={c.stk with rid:=id}}else .stuck "order") 0 (rs.toList.take (cutAt rs)) ⟨c.tmps,c.H⟩ []
      else
      mi P S rs (λs tr=>bif jj rs tr then exec P S fn stop inl n false {c with tmps:=s.tmps,H:=s.H,todo:=k}else .stuck "order") 0 rs.toList ⟨c.tmps,c.H⟩ []
    else .stuck "slots")
   else ops false id rs 0 k
  |.inRegion rs todo::k=>bif todo.length.ble rs.size&&todo==range' (rs.size - todo.length) todo.length then ops first c.stk.rid rs (rs.size - todo.length) k else .stuck "in a region"
  |.beginRound::k=>bif c.stk.round then
   match c.tmps.getD c.n (.s .aZ)with
   |.tag id=>(match lg id c.stk.below (c.tmps.drop (c.n+c.stk.extra))with
    |some (_,_,.ready,_)=>exec P S fn stop inl n first {c with todo:=k,stk:={c.stk with below:=jM id .busy c.stk.below (c.tmps.drop (c.n+c.stk.extra))}}
    |_=>.stuck "round: not ready")
   |_=>.stuck "round: no yield" else .stuck "round"
  |.code (.rangeFunc (.tmp t) ps asg body)::k=>
   bif c.stk.plain||t.blt c.n then
   match c.tmps.getD t (.s .aZ)with
   |.s (.rK f)=>abM P c f [] ⟨ps.toList,asg,body⟩ k go|.fn f dw=>abM P c f dw ⟨ps.toList,asg,body⟩ k go|_=>.stuck "range: over what?"
   else .stuck "range: slot"
  |.code (.loop body)::k|.inLoop body::k=>bif stop (fD+ahy c.stk ((iH body).getD 0))then exec P S fn stop inl n first {c with todo:=.code body::.inLoop body::k}else .at {c with todo:=.code body::.inLoop body::k}
  |_=>.at c
def start(fn:Func)(args:List AV)(H:List ak):bP:=
 {tmps:=args++replicate (fn.ntmps - args.length) (.bt []),H:=H,todo:=[.code (fn.body.getD .skip)]}
def cO(P:Program)(f:FuncId)(R:Ending->World->Prop)(b:Frame)(a:Act)(k:List Item)(fs:List Frame)(w:World):Prop:=
 ∀cs,∃e w' fr,R e w'/\Comes P (lone (b.atR a k) (fs++cs) w) (lone fr cs w') e/\fr.fn=f/\fr.leaving P w' e
theorem cO.steps{P:Program}{f:FuncId}{R:Ending->World->Prop}{b b':Frame}{a a':Act}{k k':List Item}{fs rH:List Frame}{w w':World}
 (hs:∀cs,Steps P (lone (b.atR a k) (fs++cs) w) (lone (b'.atR a' k') (rH++cs) w')) (h:cO P f R b' a' k' rH w'):cO P f R b a k fs w:=by
 intro cs;have⟨e,w2,fr,h1,h2,h3⟩:=h cs;exact⟨e,w2,fr,h1,Comes.of_steps (hs cs) h2,h3⟩
theorem cO.step{P:Program}{f:FuncId}{R:Ending->World->Prop}{b b':Frame}{a a':Act}{k k':List Item}{fs rH:List Frame}{w w':World}
 (hs:∀cs,step P (lone (b.atR a k) (fs++cs) w)=.next (lone (b'.atR a' k') (rH++cs) w')) (h:cO P f R b' a' k' rH w'):cO P f R b a k fs w:=
 cO.steps (λcs=>.one (hs cs)) h
theorem jy{P:Program}{f:FuncId}{fn:Func}{c:Code}{args:Array Value}{w:World}{R:Ending->World->Prop}(hf:P.funcs[f]? =some fn)(hb:fn.body=some c)
 (h:cO P f R {(default:Frame)with fn:=f,kind:=.normal,roundOf:=none} {tmps:=args++Array.replicate (fn.ntmps - args.size) undef,defers:=[]} [.code c] [] w):Calls P f args w R:=by
 intro cs
 have fY:Frame.enter P f args .normal=Frame.atR {(default:Frame)with fn:=f,kind:=.normal,roundOf:=none} {tmps:=args++Array.replicate (fn.ntmps - args.size) undef,defers:=[]} [.code c]:=by
  simp[Frame.enter,Frame.atR,hf,hb]
 have⟨e,w',fr,h1,h2,h3,h4⟩:=h cs;rw[fY];exact⟨e,w',fr,h1,h2,h3,h4⟩
structure Ctx where
 ρ:Nat->Value
 H:aT
 G:Nat->Prop
 w:World
 E:List (Nat×Obj):=[]
def eb(Z:bm)(X:Ctx):Prop:=Z.ok X.w/\∀b,b∈Z.bs->¬Own X.ρ X.H b
def Ctx.at(X:Ctx)(G:Nat->Prop)(E:List (Nat×Obj)):Ctx:=⟨X.ρ,X.H,G,X.w,E⟩
theorem eb.at{Z:bm}{X:Ctx}(h:eb Z X)(G:Nat->Prop)(E:List (Nat×Obj)):eb Z (X.at G E):=h
theorem zed{Z:bm}{X:Ctx}{w:World}{ρ:Nat->Value}{H:aT}(h:eb Z X)(k:Frm X.ρ X.H X.w w)(hs:Sat ρ H X.G w)(st:Step X.ρ X.H (aW X.ρ X.H X.G) X.w ρ H (aW ρ H X.G) w):ZAt Z ρ H w:=by
 refine⟨Z.aBG X.w w h.1 λb hb=>k.heap b (Z.low _ h.1 b hb) (h.2 b hb),λb hb ho=> ?_⟩;rcases st.gu b (.inl ho)with(h1|h1)|h1;exact h.2 b hb h1;exact hs.apart b ho h1;have:=Z.low _ h.1 b hb;omega
def Kept(X:Ctx)(w:World):Prop:=∀x∈X.E,X.G x.1/\X.w.heap.size<=x.1/\w.heap[x.1]? =some x.2
theorem Kept.jN{X:Ctx}{ρ:Nat->Value}{H:aT}{w w':World}(h:Kept X w)(hs:Sat ρ H X.G w)(k:Frm ρ H w w'):Kept X w':=λx hx=>by
 have⟨h1,h0,h2⟩:=h x hx;exact⟨h1,h0,by rw[k.heap x.1 (Array.getElem?_eq_some_iff.1 h2).1 (λho=>hs.apart _ ho h1)];exact h2⟩
structure cp (X:Ctx) (ρ:Nat->Value) (s:St) (a:Act) (w:World):Prop where
 sat:Sat ρ s.look X.G w
 size:s.tmps.length=a.tmps.size
 den:∀t,af ρ s.look (aW ρ s.look X.G) w (s.tmps.getD t (.s .aZ)) (a.tmps.getD t undef)
 defers:a.defers=[]
 ao:Step X.ρ X.H (aW X.ρ X.H X.G) X.w ρ s.look (aW ρ s.look X.G) w
 jN:Frm X.ρ X.H X.w w
 kept:Kept X w
def Tree.Holds(K:List ak->AV->Prop)(C:bP->Prop):Tree->Prop
 |.ab p t=>p/\t.Holds K C|.ite b t e=>(b=true->t.Holds K C)/\(b=false->e.Holds K C)|.both p q t e=>(p->t.Holds K C)/\(q->e.Holds K C)|.ret H v=>K H v|.at c=>C c|.stuck _=>False
def kx(X:Ctx)(K:List ak->AV->Prop)(e:Ending)(w':World):Prop:=
 ∃v,e=.returned v/\∃(L:List ak) (r:AV),K L r/\Good X.ρ X.H X.G X.w (λid=>L[id]?) r v w'
def qy(D:Nat):Deferred:={target:=.collected D,args:= #[]}
def er(D:Nat):Value:=.pointer (some ⟨D,0,none⟩)
def cv(l:Nat):Value:=.func (.yield l) #[] #[]
def mK.gx(st:mK)(L:Lp)(fn:FuncId)(tmps:Array Value)(defers:Nat):Loop:=
 {state:=match st with|.ready=>.ready|.busy=>.busy|.done _=>.done,pending:=match st with|.done c=>some c|_=>none,fn,tmps,params:=L.ps.toArray,assign:=L.asg,body:=L.body,defers}
structure alR (f:FuncId) (round:Bool) (v0 rv:List Value) (Ds:List Nat) (E:List (Nat×Obj)) (b:Frame) (a:Act):Prop where
 fr:∃r,b={(default:Frame)with fn:=f,kind:=.normal,roundOf:=r}/\(match round with|true=>∃l,rv=[cv l]/\r=some l|false=>rv=[]/\r=none)
 act:a={tmps:=v0.toArray,defers:=Ds.map qy}
 ghost:E=Ds.map λD=>(D,.deferred (some []))
def WfS(f0:FuncId):List tH->List Value->List (Nat×Obj)->List Frame->Prop
 |[],vs,E,fs=>vs=[]/\E=[]/\fs=[]|d::ds,vs,E,fs=>∃(v0 rv v2:List Value) (Ds:List Nat) (E1 E2:List (Nat×Obj)) (b:Frame) (a:Act) (fs2:List Frame) (lv:List Value) (lE:List (Nat×Obj)) (todo:List Item),
   vs=v0++(rv++(Ds.map er++(lv++v2)))/\E=E1++(lE++E2)/\fs=b.atR a todo::fs2/\v0.length=d.n/\Ds.length=d.marks/\
   alR (d.f.getD f0) d.round v0 rv Ds E1 b a/\WfS f0 ds v2 E2 fs2/\
   (match d.lp with
    |none=>lv=[]/\lE=[]/\todo=d.todo|some (L,st)=>∃l D,lv=[cv l]/\lE=[(l,.loop (st.gx L (d.f.getD f0) v0.toArray D))]/\todo=.inRangeFunc l::d.todo)
def Wf(f0:FuncId)(k:um)(vs:List Value)(E:List (Nat×Obj))(b:Frame)(a:Act)(fs:List Frame):Prop:=
 (E.map (·.1)).Nodup/\∃(v0 rv v2:List Value) (Ds:List Nat) (E1 E2:List (Nat×Obj)),vs=v0++(rv++(Ds.map er++v2))/\E=E1++E2/\Ds.length=k.marks/\
   alR (k.f.getD f0) k.round v0 rv Ds E1 b a/\WfS f0 k.below v2 E2 fs
def Safe(P:Program)(f:FuncId)(X:Ctx)(K:List ak->AV->Prop)(c:bP):Prop:=
 ∀(G:Nat->Prop) (E:List (Nat×Obj)) ρ a w,(∀b,X.G b->G b)->(∀b,G b->X.G b\/X.w.heap.size<=b)->cp (X.at G E) ρ ⟨c.tmps,c.H⟩ a w->
  ∀b a' fs,Wf f c.stk a.tmps.toList E b a' fs->cO P f (kx X K) b a' c.todo fs w
section
variable{ρ aN:Nat->Value}{H H':aT}{G O O':Nat->Prop}{w w':World}{P:Program}{S:fI}{Z:bm}{X:Ctx}{s:St}{a:Act}{K:List ak->AV->Prop}{C:bP->Prop}
theorem agb(v:Value):af ρ H O w (abg v) v:=by
 have one:∀v:Value,af ρ H O w ((rL v).getD (.s .aZ)) v:=by
  intro v;cases h:rL v with
  |none=>unfold af;trivial|some x=>
   have hc:=xk (ρ:=ρ) (H:=H) (O:=O) (w:=w) h;simp only[getD_some];unfold rL at h;split at h;simp only[Option.some.injEq]at h;subst h;unfold af;exact⟨_,rfl⟩;simp only[map_eq_some_iff]at h;obtain⟨y,h3,rfl⟩:=h;exact aF (abz h3)
 unfold abg;split;rename_i cs;cases h:rM cs.toList with
 |none=>unfold af;trivial|some aQ=>unfold af;exact⟨cs.toList,by simp,oH _ h⟩
 exact one v
theorem xD(T:List AV)(v:Value):af ρ H O w (ji T (.const v)) v:=by
 unfold ji;split;exact absurd ‹_› (by simp);rename_i h;cases h;exact aF .qL;rename_i h;cases h;exact agb v;exact absurd ‹_› (by simp);exact absurd ‹_› (by simp)
theorem cp.ev(h:cp X ρ s a w)(x:Operand):af ρ s.look (aW ρ s.look X.G) w (ji s.tmps x) (a.eval x):=by
 cases x with
 |tmp t=>exact h.den t|const v=>exact xD _ v|global g=>unfold ji af;trivial|func f=>exact aF (.rK f)
theorem cZ{α:Type}(l:List α)(d t:Nat)(x y:α):(l.set d x).getD t y=if t=d/\d<l.length then x else l.getD t y:=by
 simp only[List.getD,getElem?_set];by_cases h:d=t;subst h;by_cases h2:d<l.length;simp[h2];simp[h2];have:¬(t=d/\d<l.length):=λe=>h e.1.symm;simp[h,this]
theorem abN(l:Array Value)(d t:Nat)(x:Value):(l.setIfInBounds d x).getD t undef=if t=d/\d<l.size then x else l.getD t undef:=by
 simp only[getD_eq_getD_getElem?,Array.getElem?_setIfInBounds];by_cases h:d=t;subst h;by_cases h2:d<l.size;simp[h2];simp[h2];have:¬(t=d/\d<l.size):=λe=>h e.1.symm;simp[h,this]
theorem r8{tmps:List AV}{arr:Array Value}(bV:tmps.length=arr.size)(h:∀t,af ρ H O w (tmps.getD t (.s .aZ)) (arr.getD t undef))(dst:Option Tmp){r:AV}{v:Value}(hr:af ρ H O w r v)(df:List Deferred):
 (cX tmps dst r).length=((Act.put ⟨arr,df⟩ dst v).tmps).size/\∀t,af ρ H O w ((cX tmps dst r).getD t (.s .aZ)) ((Act.put ⟨arr,df⟩ dst v).tmps.getD t undef):=by
 cases dst with
 |none=>exact⟨bV,h⟩|some d=>
  simp only[cX,Act.put];refine⟨by simp[bV],λt=> ?_⟩;rw[cZ,abN,bV];split;exact hr;exact h t
theorem agc(us:List (Nat×ak)):∀(L:List ak) (j:Nat),j<L.length->(oP L us)[j]? =match cz us j with|some o=>some o|none=>L[j]? :=by
 induction us with
 |nil=>intro L j h;rfl
 |cons u us ih=>
  have⟨id,o⟩:=u;intro L j h;simp only[oP,cz];rw[ih _ _ (by simpa using h)];cases cz us j with
  |some x=>rfl|none=>
   by_cases hj:j=id;subst hj;simp[h];simp[hj,Ne.symm hj]
theorem ml(us:List (Nat×ak)):∀(L:List ak),(oP L us).length=L.length:=by
 induction us with
 |nil=>intro L;rfl
 |cons u us ih=>intro L;have⟨id,o⟩:=u;simp only[oP];rw[ih];simp
def alS(n:Nat)(us:List (Nat×ak)):Prop:=∀j,n<=j->cz us j=none
theorem adn(s:St)(dst:Option Tmp)(q:bR)(hu:alS s.H.length q.up):(s.put dst q).look=c8 s.look q.up s.H.length q.new:=by
 funext j;simp only[St.look,St.put,c8];by_cases hj:j<s.H.length;rw[getElem?_append_left (by rw[ml];exact hj),agc _ _ _ hj];cases cz q.up j with
 |some o=>rfl|none=>rw[if_neg (by omega)]
 rw[getElem?_append_right (by rw[ml];omega),ml,hu j (by omega)];by_cases h2:j<s.H.length+q.new.length;simp only[show s.H.length<=j/\j<s.H.length+q.new.length from⟨by omega,h2⟩,and_self,if_true];have e1:q.new[j - s.H.length]? =none:=getElem?_eq_none (by omega);have e2:s.H[j]? =none:=getElem?_eq_none (by omega);rw[e1,if_neg (by omega)];exact e2.symm
theorem Frm.trans(h:cp X ρ s a w)(k:Frm ρ s.look w w'):Frm X.ρ X.H X.w w':=by
 refine⟨k.os.trans h.jN.os,k.tape.trans h.jN.tape,k.output.trans h.jN.output,λb hb hO=> ?_⟩;rw[k.heap b (by have:=h.ao.size;omega) (λho=> ?_),h.jN.heap b hb hO];rcases h.ao.gu b (.inl ho)with(h1|h1)|h1;exact hO h1;exact h.sat.apart b ho h1;omega
theorem aj1{o:Oper}{R:Value->World->Prop}{next:Act->World->Prop}{Q:Exit->Act->World->Prop}(h:Yields P o a.eval w R)(hn:∀v w',R v w'->next (a.put o.dst v) w'):o.wp P a w next Q:=by
 unfold Yields at h;unfold Oper.wp Oper.upon;split at h;rename_i v w2 hr;rw[hr];exact hn _ _ h;rename_i w2 hr;rw[hr];exact hn _ _ h;rename_i f args w2 hr;rw[hr];refine h.mono λen w'' ⟨v,he,hv⟩=> ?_;subst he;exact hn _ _ hv;exact h.elim
theorem cp.op(hS:SOk P S Z)(nX:eb Z X)(h:cp X ρ s a w){o:Oper}{q:bR}(hq:(vT P (S s.H.length) (ji s.tmps) o).eval s.look=some q)(hn:bK q.ab)(hu:alS s.H.length q.up):
 Yields P o a.eval w (λv w'=>∃aN,cp X aN (s.put o.dst q) (a.put o.dst v) w'):=by
 have dC:∀i,i<q.new.length->s.look (s.H.length+i)=none:=λi _=>by simp[St.look]
 have:=alP (base:=s.H.length) hS hq hn (zed nX h.jN h.sat h.ao) h.sat (e:=a.eval) (λx _=>h.ev x) dC;unfold Yields at *
 have key:∀v w',Good ρ s.look X.G w (c8 s.look q.up s.H.length q.new) (q.r s.H.length) v w'->∃aN,cp X aN (s.put o.dst q) (a.put o.dst v) w':=by
  rintro v w' ⟨aN,h1,h2,h3,h4⟩;have hl:=adn s o.dst q hu;rw[<-hl]at h1 h2 h3;have⟨arr,df⟩:=a;have hp:=r8 (ρ:=aN) (H:=(s.put o.dst q).look) (O:=aW aN (s.put o.dst q).look X.G) (w:=w') h.size (λt=>af.step h3 _ _ (h.den t)) o.dst h2 df;exact⟨aN,h1,hp.1,hp.2,by have:=h.defers;cases o.dst<;>exact this,h.ao.trans h3,Frm.trans h h4,h.kept.jN h.sat h4⟩
 split at this;exact key _ _ this;exact key _ _ this;exact this.mono λen w'' ⟨v,he,hv⟩=>⟨v,he,key _ _ hv⟩;exact this
end
section
variable{ρ aN:Nat->Value}{H H':aT}{G O O':Nat->Prop}{w w':World}{P:Program}{S:fI}{Z:bm}{X:Ctx}{s:St}{a:Act}{K:List ak->AV->Prop}{C:bP->Prop}
theorem oT:∀(ps:List Prop) (t:Tree),(Tree.aas ps t).Holds K C->bK ps/\t.Holds K C
 |[],t,h=>⟨trivial,h⟩|p::ps,t,h=>by
  have⟨h1,h2⟩:=h;have⟨h3,h4⟩:=oT ps t h2;exact⟨⟨h1,h3⟩,h4⟩
theorem alT{n:Nat}{us:List (Nat×ak)}(h:aat n us=true):alS n us:=by
 unfold aat at h;intro j hj
 induction us with
 |nil=>rfl|cons u us ih=>
  have⟨id,o⟩:=u;simp only[all_cons,and_eq_true]at h;have h1:id<n:=by simpa[Nat.blt,Nat.lt_iff_add_one_le]using h.1
  simp only[cz];rw[ih h.2,if_neg (by omega)]
theorem cp.skip(h:cp X ρ s a w)(dst:Option Tmp):cp X ρ {s with tmps:=cX s.tmps dst (.bt [])} (a.put dst undef) w:=by
 have⟨arr,df⟩:=a;have hp:=r8 (ρ:=ρ) (H:=s.look) (O:=aW ρ s.look X.G) (w:=w) h.size h.den dst (r:=.bt []) (v:=undef) cC df;exact⟨h.sat,hp.1,hp.2,by have:=h.defers;cases dst<;>exact this,h.ao,h.jN,h.kept⟩
theorem cp.refine(h:cp X ρ s a w){d:Nat}{x y:AV}(hx:s.tmps.getD d (.s .aZ)=x)(hxy:∀v,af ρ s.look (aW ρ s.look X.G) w x v->af ρ s.look (aW ρ s.look X.G) w y v):cp X ρ {s with tmps:=s.tmps.set d y} a w:=by
 refine⟨h.sat,by simp[h.size],λt=> ?_,h.defers,h.ao,h.jN,h.kept⟩;simp only[];rw[cZ];split;rename_i hc;obtain⟨rfl,_⟩:=hc;have:=h.den t;rw[hx]at this;exact hxy _ this;exact h.den t
theorem cp.abO(h:cp X ρ s a w){d:Nat}{x y:AV}(hx:s.tmps.getD d (.s .aZ)=x)(hxy:af ρ s.look (aW ρ s.look X.G) w y (a.tmps.getD d undef)):cp X ρ {s with tmps:=s.tmps.set d y} a w:=by
 refine⟨h.sat,by simp[h.size],λt=> ?_,h.defers,h.ao,h.jN,h.kept⟩;simp only[];rw[cZ];split;rename_i hc;obtain⟨rfl,_⟩:=hc;exact hxy;exact h.den t
theorem cp.drew(h:cp X ρ s a w):cp X ρ s a {w with drawn:=w.drawn+1}:=by
 have st:Step ρ s.look (aW ρ s.look X.G) w ρ s.look (aW ρ s.look X.G) {w with drawn:=w.drawn+1}:=
  ⟨λ_ _ _=>rfl,λ_ o h=>⟨o,h,λc' e' e=>⟨c',e',e,rfl,rfl⟩⟩,λ_ h=>.inl h,λ_ _ _=>rfl,le_refl _⟩
 refine⟨⟨λid o ho=>(h.sat.obj id o ho).step st (λ_ _ _=>rfl),h.sat.inj,h.sat.apart,h.sat.low⟩,h.size,λt=>af.step st _ _ (h.den t),h.defers,h.ao.trans st,⟨h.jN.os,h.jN.tape,h.jN.output,h.jN.heap⟩,h.kept⟩
theorem oU(h:cp X ρ s a w){d:Nat}{b:Bool}(hx:s.tmps.getD d (.s .aZ)=.s (.aK b)):a.tmps[d]? =some (.bool b):=by
 have h1:=h.den d;rw[hx]at h1;have h2:=ay (by simp) h1
 have bq:d<s.tmps.length:=by
  rcases lt_or_ge d s.tmps.length with h3|h3;exact h3;rw[List.getD,getElem?_eq_none h3]at hx;simp at hx
 rw[h.size]at bq;have h4:a.tmps.getD d undef=a.tmps[d]:=by simp[Array.getD,bq]
 rw[h4]at h2;rw[Array.getElem?_eq_getElem bq];generalize a.tmps[d]=u at h2;cases h2;rfl
theorem aj2(h:cp X ρ s a w){d:Nat}(hx:s.tmps.getD d (.s .aZ)=.bt []):a.tmps[d]? =some undef:=by
 have h1:=h.den d;rw[hx]at h1
 have bq:d<s.tmps.length:=by
  rcases lt_or_ge d s.tmps.length with h3|h3;exact h3;rw[List.getD,getElem?_eq_none h3]at hx;simp at hx
 rw[h.size]at bq;have h4:a.tmps.getD d undef=a.tmps[d]:=by simp[Array.getD,bq]
 rw[h4]at h1;unfold af at h1;have⟨us,h5,h6⟩:=h1;obtain rfl:=ba.1 h6;rw[Array.getElem?_eq_getElem bq,h5];rfl
theorem oV{b:Bool}(v:Value)(h:af ρ H O w (.s (.bool b)) v):af ρ H O w (.s (.aK b)) v:=by
 have:=ay (by simp) h;cases this;exact aF (.aK b)
end
section
variable{ρ aN:Nat->Value}{H H':aT}{G O O':Nat->Prop}{w w':World}{P:Program}{S:fI}{Z:bm}{X:Ctx}{s:St}{a:Act}{K:List ak->AV->Prop}{C:bP->Prop}{ops:Array Oper}
structure mL (X:Ctx) (ρ:Nat->Value) (T:List AV) (H:aT) (a:Act) (w:World):Prop where
 sat:Sat ρ H X.G w
 size:T.length=a.tmps.size
 den:∀t,af ρ H (aW ρ H X.G) w (T.getD t (.s .aZ)) (a.tmps.getD t undef)
 defers:a.defers=[]
 ao:Step X.ρ X.H (aW X.ρ X.H X.G) X.w ρ H (aW ρ H X.G) w
 jN:Frm X.ρ X.H X.w w
 kept:Kept X w
theorem cp.toF(h:cp X ρ s a w):mL X ρ s.tmps s.look a w:=⟨h.sat,h.size,h.den,h.defers,h.ao,h.jN,h.kept⟩
theorem Frm.aub{T:List AV}(h:mL X ρ T H a w)(k:Frm ρ H w w'):Frm X.ρ X.H X.w w':=by
 refine⟨k.os.trans h.jN.os,k.tape.trans h.jN.tape,k.output.trans h.jN.output,λb hb hO=> ?_⟩;rw[k.heap b (by have:=h.ao.size;omega) (λho=> ?_),h.jN.heap b hb hO];rcases h.ao.gu b (.inl ho)with(h1|h1)|h1;exact hO h1;exact h.sat.apart b ho h1;omega
theorem mL.op(hS:SOk P S Z)(nX:eb Z X){T Ti:List AV}(h:mL X ρ T H a w){o:Oper}{q:bR}{base:Nat}(hq:(vT P (S base) (ji Ti) o).eval H=some q)(hn:bK q.ab)
 (hd:∀x∈o.op.operands,af ρ H (aW ρ H X.G) w (ji Ti x) (a.eval x)) (hf:∀i,i<q.new.length->H (base+i)=none):
 Yields P o a.eval w (λv w'=>∃aN,mL X aN (cX T o.dst (q.r base)) (c8 H q.up base q.new) (a.put o.dst v) w'):=by
 have:=alP (base:=base) hS hq hn (zed nX h.jN h.sat h.ao) h.sat (e:=a.eval) hd hf;unfold Yields at *
 have key:∀v w',Good ρ H X.G w (c8 H q.up base q.new) (q.r base) v w'->∃aN,mL X aN (cX T o.dst (q.r base)) (c8 H q.up base q.new) (a.put o.dst v) w':=by
  rintro v w' ⟨aN,h1,h2,h3,h4⟩;have⟨arr,df⟩:=a;have hp:=r8 (ρ:=aN) (H:=c8 H q.up base q.new) (O:=aW aN (c8 H q.up base q.new) X.G) (w:=w') h.size (λt=>af.step h3 _ _ (h.den t)) o.dst h2 df;exact⟨aN,h1,hp.1,hp.2,by have:=h.defers;cases o.dst<;>exact this,h.ao.trans h3,Frm.aub h h4,h.kept.jN h.sat h4⟩
 split at this;exact key _ _ this;exact key _ _ this;exact this.mono λen w'' ⟨v,he,hv⟩=>⟨v,he,key _ _ hv⟩;exact this
def Ref(x y:AV):Prop:=x=y\/∃b,x=.s (.bool b)/\y=.s (.aK b)
theorem Ref.den{x y:AV}(h:Ref x y){v:Value}(hx:af ρ H O w x v):af ρ H O w y v:=by
 rcases h with rfl|⟨b,rfl,rfl⟩;exact hx;exact oV _ hx
theorem Ref.trans{x y z:AV}(h:Ref x y)(k:Ref y z):Ref x z:=by
 rcases h with rfl|⟨b,rfl,rfl⟩;exact k;rcases k with rfl|⟨c,h1,rfl⟩;exact .inr ⟨b,rfl,rfl⟩;cases h1
theorem RM.eval_congr{α:Type}:∀(m:RM α),(∀id∈m.ids H,H' id=H id)->m.eval H'=m.eval H/\m.ids H'=m.ids H
 |.ret a,h=>⟨rfl,rfl⟩|.fail _,h=>⟨rfl,rfl⟩|.look id k,h=>by
  simp only[RM.ids]at h;have e:=h id (by simp);have:=RM.eval_congr (k (H id)) (λj hj=>h j (by simp[hj]));simp only[RM.eval,RM.ids,e];exact⟨this.1,by rw[this.2]⟩
structure El where
 i:Nat
 o:Oper
 T:List AV
 q:Option bR
 base:Nat
 rd:List Nat
def El.wr(e:El):List Nat:=match e.q with
 |some q=>vA q.up++(List.range q.new.length).map (e.base+·)|none=>[]
def El.cT(e:El)(T:List AV):List AV:=cX T e.o.dst (match e.q with|some q=>q.r e.base|none=>.bt [])
def El.heap(e:El)(H:aT):aT:=match e.q with|some q=>c8 H q.up e.base q.new|none=>H
structure El.Ok (P:Program) (S:fI) (ops:Array Oper) (T:List AV) (H:aT) (e:El):Prop where
 op:ops[e.i]? =some e.o
 looks:∀t∈e.o.looksAt ops,Ref (T.getD t (.s .aZ)) (e.T.getD t (.s .aZ))
 guard:match e.o.guard with
  |none=>e.q.isSome=true|some (g,want)=>∃d,(ops[g]?).bind (·.dst)=some d/\((∃b,e.T.getD d (.s .aZ)=.s (.aK b)/\e.q.isSome=(b==want))\/(e.T.getD d (.s .aZ)=.bt []/\e.q=none))
 skip:e.q=none->e.rd=[]
 run:∀q,e.q=some q->(vT P (S e.base) (ji e.T) e.o).eval H=some q/\(vT P (S e.base) (ji e.T) e.o).ids H=e.rd/\bK q.ab/\∀j,j<q.new.length->H (e.base+j)=none
def oW(P:Program)(S:fI)(ops:Array Oper):List AV->aT->List El->List AV->aT->Prop
 |T,H,[],T',H'=>T=T'/\H=H'|T,H,e::es,T',H'=>e.Ok P S ops T H/\oW P S ops (e.cT T) (e.heap H) es T' H'
structure ado (ops:Array Oper) (x y:El):Prop where
 s1:∀d,x.o.dst=some d->d ∉ y.o.looksAt ops/\y.o.dst≠some d
 s2:∀d,y.o.dst=some d->d ∉ x.o.looksAt ops
 h1:∀id∈x.wr,id ∉ y.rd/\id ∉ y.wr
 h2:∀id∈y.wr,id ∉ x.rd
theorem El.aau(e:El)(T:List AV){t:Nat}(h:e.o.dst≠some t):(e.cT T).getD t (.s .aZ)=T.getD t (.s .aZ):=by
 unfold El.cT;cases hd:e.o.dst with
 |none=>rfl|some d=>
  simp only[cX];rw[cZ,if_neg];rintro⟨rfl,_⟩;exact h hd
theorem adp{us:List (Nat×ak)}{id:Nat}(h:id ∉ vA us):cz us id=none:=by
 induction us with
 |nil=>rfl|cons u us ih=>
  have⟨j,o⟩:=u;simp only[vA,map_cons,mem_cons,not_or]at h;simp only[cz];rw[ih h.2,if_neg (Ne.symm (Ne.symm h.1))]
theorem adq{us:List (Nat×ak)}{id:Nat}(h:id∈vA us):∃o,cz us id=some o:=by
 induction us with
 |nil=>simp[vA]at h|cons u us ih=>
  have⟨j,o⟩:=u;simp only[vA,map_cons,mem_cons]at h;simp only[cz];cases hf:cz us id with
  |some x=>exact⟨x,rfl⟩|none=>
   rcases h with rfl|h;simp;have⟨o,ho⟩:=ih h;rw[ho]at hf;cases hf
theorem El.iL(e:El)(H:aT){id:Nat}(h:id ∉ e.wr):e.heap H id=H id:=by
 unfold El.wr at h;unfold El.heap;cases hq:e.q with
 |some q=>
  rw[hq]at h;simp only[mem_append,not_or,mem_map,mem_range,not_exists,not_and]at h;simp only[c8,adp h.1];rw[if_neg];rintro⟨h1,h2⟩;exact h.2 (id - e.base) (by omega) (by omega)
 |none=>rfl
theorem El.ahE(e:El)(H H':aT){id:Nat}(h:id∈e.wr):e.heap H id=e.heap H' id:=by
 unfold El.wr at h;unfold El.heap;cases hq:e.q with
 |some q=>
  rw[hq]at h;simp only[mem_append,mem_map,mem_range]at h;simp only[c8];rcases h with h|⟨j,h1,rfl⟩;have⟨o,ho⟩:=adq h;rw[ho];cases cz q.up (e.base+j)with
  |some o=>rfl|none=>simp[h1]
 |none=>rw[hq]at h;simp at h
theorem alU{e:El}{q:bR}(hq:e.q=some q){j:Nat}(hj:j<q.new.length):e.base+j∈e.wr:=by
 unfold El.wr;rw[hq];simp only[mem_append,mem_map,mem_range];exact .inr ⟨j,hj,rfl⟩
theorem swap{T:List AV}{x y:El}(hx:x.Ok P S ops T H)(hy:y.Ok P S ops (x.cT T) (x.heap H))(hi:ado ops x y):
 y.Ok P S ops T H/\x.Ok P S ops (y.cT T) (y.heap H)/\y.cT (x.cT T)=x.cT (y.cT T)/\y.heap (x.heap H)=x.heap (y.heap H):=by
 refine⟨⟨hy.op,λt ht=> ?_,hy.guard,hy.skip,λq hq=> ?_⟩,⟨hx.op,λt ht=> ?_,hx.guard,hx.skip,λq hq=> ?_⟩, ?_, ?_⟩;have:=hy.looks t ht;rwa[El.aau x T (λe=>(hi.s1 t e).1 ht)]at this;have⟨h1,h2,h3,h4⟩:=hy.run q hq
 have hc:=RM.eval_congr (H:=x.heap H) (H':=H) (vT P (S y.base) (ji y.T) y.o) (λid dt=>by
  rw[h2]at dt;exact(El.iL x H (λhw=>(hi.h1 id hw).1 dt)).symm)
 refine⟨hc.1.trans h1,hc.2.trans h2,h3,λj hj=> ?_⟩;rw[<-h4 j hj];exact(El.iL x H (λhw=>(hi.h1 _ hw).2 (alU hq hj))).symm;rw[El.aau y T (λe=>hi.s2 t e ht)];exact hx.looks t ht;have⟨h1,h2,h3,h4⟩:=hx.run q hq
 have hc:=RM.eval_congr (H:=H) (H':=y.heap H) (vT P (S x.base) (ji x.T) x.o) (λid dt=>by
  rw[h2]at dt;exact El.iL y H (λhw=>hi.h2 id hw dt))
 refine⟨hc.1.trans h1,hc.2.trans h2,h3,λj hj=> ?_⟩;rw[El.iL y H (λhw=>(hi.h1 _ (alU hq hj)).2 hw)];exact h4 j hj;unfold El.cT;cases hd:x.o.dst with
 |none=>rfl|some d=>
  cases hd':y.o.dst with
  |none=>rfl|some d'=>
   simp only[cX];exact List.set_comm _ _ (λe=>(hi.s1 d hd).2 (by rw[hd',e]))
 funext id;by_cases h1:id∈x.wr;rw[El.iL y _ (hi.h1 id h1).2];exact El.ahE x _ _ h1;rw[El.iL x _ h1];by_cases h2:id∈y.wr;exact El.ahE y _ _ h2;rw[El.iL y _ h2,El.iL y _ h2,El.iL x _ h1]
theorem front{T':List AV}{H':aT}{x:El}{post:List El}:∀(pre:List El) {T:List AV} {H:aT},oW P S ops T H (pre++x::post) T' H'->(∀e∈pre,ado ops e x)->
 x.Ok P S ops T H/\oW P S ops (x.cT T) (x.heap H) (pre++post) T' H'
 |[],T,H,h,_=>h|e::pre,T,H,h,hi=>by
  have⟨h1,h2⟩:=h;have⟨h3,h4⟩:=front pre h2 (λf hf=>hi f (by simp[hf]));have⟨h5,h6,h7,h8⟩:=swap h1 h3 (hi e (by simp));refine⟨h5,h6, ?_⟩;rw[h7,h8]at h4;exact h4
def q8(ops:Array Oper)(e f:El):Prop:=e.i<f.i/\(gL ops f.i e.i=true\/ado ops e f)
theorem mL.ahF{T:List AV}(h:mL X ρ T H a w){d:Nat}{b:Bool}{Ti:List AV}(hr:Ref (T.getD d (.s .aZ)) (Ti.getD d (.s .aZ)))(hx:Ti.getD d (.s .aZ)=.s (.aK b)):a.tmps[d]? =some (.bool b):=by
 have h1:=hr.den (h.den d);rw[hx]at h1;have h2:=ay (by simp) h1
 have bq:d<a.tmps.size:=by
  rcases lt_or_ge d a.tmps.size with h3|h3;exact h3;have:a.tmps.getD d undef=undef:=by simp[Array.getD,Nat.not_lt.2 h3]
  rw[this]at h2;cases h2
 have h4:a.tmps.getD d undef=a.tmps[d]:=by simp[Array.getD,bq]
 rw[h4]at h2;rw[Array.getElem?_eq_getElem bq];generalize a.tmps[d]=u at h2;cases h2;rfl
theorem mL.aj3{T:List AV}(h:mL X ρ T H a w){d:Nat}{Ti:List AV}(hr:Ref (T.getD d (.s .aZ)) (Ti.getD d (.s .aZ)))(hx:Ti.getD d (.s .aZ)=.bt []):∀b,a.tmps[d]? ≠some (.bool b):=by
 intro b hb;have h1:=hr.den (h.den d);rw[hx]at h1;have:a.tmps.getD d undef=.bool b:=by simp[getD_eq_getD_getElem?,hb]
 rw[this]at h1;unfold af at h1;have⟨us,h5,_⟩:=h1;cases h5
theorem alV{o:Oper}{T Ti:List AV}(h:mL X ρ T H a w)(hl:∀t∈o.looksAt ops,Ref (T.getD t (.s .aZ)) (Ti.getD t (.s .aZ))):∀x∈o.op.operands,af ρ H (aW ρ H X.G) w (ji Ti x) (a.eval x):=by
 intro x hx;cases x with
 |tmp t=>
  refine(hl t ?_).den (h.den t);simp only[Oper.looksAt,mem_append,List.mem_filterMap];exact .inl ⟨.tmp t,by simpa using hx,rfl⟩
 |const v=>exact xD _ v|global g=>unfold ji af;trivial|func f=>exact aF (.rK f)
theorem mL.skip{T:List AV}(h:mL X ρ T H a w)(dst:Option Tmp):mL X ρ (cX T dst (.bt [])) H (a.put dst undef) w:=by
 have⟨arr,df⟩:=a;have hp:=r8 (ρ:=ρ) (H:=H) (O:=aW ρ H X.G) (w:=w) h.size h.den dst (r:=.bt []) (v:=undef) cC df;exact⟨h.sat,hp.1,hp.2,by have:=h.defers;cases dst<;>exact this,h.ao,h.jN,h.kept⟩
theorem ahG(hS:SOk P S Z)(nX:eb Z X){T:List AV}{e:El}(he:e.Ok P S ops T H)(h:mL X ρ T H a w){Kn:Act->World->Prop}{Q:Exit->Act->World->Prop}
 (hK:∀aN a' w',mL X aN (e.cT T) (e.heap H) a' w'->Kn a' w'):wpOp P ops Q e.i Kn a w:=by
 unfold wpOp;rw[he.op];simp only[];cases hq:e.q with
 |some q=>
  have hw:Region.wanted e.o (yielded ops a.tmps)=true:=by
   have hg:=he.guard;split at hg;rename_i h0;simp[Region.wanted,h0];rename_i g want h0;have⟨d,h1,h2⟩:=hg;rcases h2 with⟨b,h2,h3⟩|⟨_,h3⟩;have hld:d∈e.o.looksAt ops:=by simp[Oper.looksAt,h0,h1]
   have:=h.ahF (he.looks d hld) h2;rw[hq]at h3;simp only[Region.wanted,h0,yielded,h1,Option.bind_some,this];simpa using h3.symm;rw[hq]at h3;cases h3
  rw[if_pos hw];have⟨h1,h2,h3,h4⟩:=he.run q hq;refine .inl (aj1 (h.op hS nX h1 h3 (alV h he.looks) h4) (λv w' ⟨aN,eI⟩=>hK aN _ w' ?_));simpa only[El.cT,El.heap,hq]using eI
 |none=>
  have hw:Region.wanted e.o (yielded ops a.tmps)=false:=by
   have hg:=he.guard;split at hg;rename_i h0;rw[hq]at hg;cases hg;rename_i g want h0;have⟨d,h1,h2⟩:=hg;have hld:d∈e.o.looksAt ops:=by simp[Oper.looksAt,h0,h1]
   rcases h2 with⟨b,h2,h3⟩|⟨h2,h3⟩;have:=h.ahF (he.looks d hld) h2;rw[hq]at h3;simp only[Region.wanted,h0,yielded,h1,Option.bind_some,this];have:(b==want)=false:=by simpa using h3.symm
   simpa using this;have:=h.aj3 (he.looks d hld) h2
   have hy:yielded ops a.tmps g=none:=by
    simp only[yielded,h1,Option.bind_some]
    first
     |done
     |(split
       rename_i b hb;exact(this b hb).elim;rfl)
   simp only[Region.wanted,h0,hy];rfl
  rw[if_neg (by rw[hw];simp)];refine hK ρ _ w ?_;simpa only[El.cT,El.heap,hq]using h.skip e.o.dst
theorem jz{L:Nat->Prop}(hL:∀i o,ops[i]? =some o->L i->∀e∈o.after,Region.binds .any e=true->L e.on):∀(n:Nat) {i j:Nat} {o:Oper},ops[i]? =some o->(∀e∈o.after,Region.binds .any e=true->L e.on)->xy ops n i j=true->L j
 |0,i,j,o,ho,hd,h=>by cases h
 |n+1,i,j,o,ho,hd,h=>by
  simp only[xy,ho,Bool.or_eq_true,Array.any_eq_true]at h;rcases h with⟨k,hk,h⟩|⟨k,hk,h⟩;simp only[and_eq_true]at h;have:=hd _ (Array.getElem_mem hk) h.1;rwa[Nat.eq_of_beq_eq_true h.2]at this;simp only[and_eq_true]at h;have h1:=hd _ (Array.getElem_mem hk) h.1.1;cases dI:ops[(o.after[k]).on]? with
  |none=>
   have h2:=h.2;cases n with
   |zero=>cases h2
   |succ n=>simp only[xy,dI]at h2;cases h2
  |some o'=>exact jz hL n dI (hL _ o' dI h1) h.2
theorem abP(hS:SOk P S Z)(nX:eb Z X)(heb:dZ ops=true){T':List AV}{H':aT}{Q:Exit->Act->World->Prop}(hQ:∀aN a' w',mL X aN T' H' a' w'->Q .normal a' w'):
 ∀(fuel:Nat) (listed:Array Bool) (es:List El) (T:List AV) (H:aT) (ρ:Nat->Value) (a:Act) (w:World),es.length=fuel->listed.size=ops.size->es.Pairwise (q8 ops)->
 (∀i,i<ops.size->(listed.getD i true=false↔ ∃e∈es,e.i=i))->(∀i o,ops[i]? =some o->listed.getD i false=true->∀e∈o.after,Region.binds .any e=true->listed.getD e.on false=true)->mL X ρ T H a w->oW P S ops T H es T' H'->wpAny P .any ops Q fuel listed a w:=by
 have gi:∀(listed:Array Bool) (i:Nat),i∈Region.ready .any ops listed->i<ops.size/\listed.getD i true=false/\∃o,ops[i]? =some o/\∀e∈o.after,Region.binds .any e=true->listed.getD e.on false=true:=by
  intro listed i hi;simp only[Region.ready,List.mem_filter,mem_range,and_eq_true]at hi;have⟨h1,h2,h3⟩:=hi;refine⟨h1,by simpa using h2, ?_⟩;cases ho:ops[i]? with
  |none=>rw[ho]at h3;simp at h3|some o=>
   rw[ho]at h3;simp only[map_some,getD_some,Array.all_eq_true]at h3;refine⟨o,rfl,λe he hb=> ?_⟩;obtain⟨n,hn,rfl⟩:=Array.mem_iff_getElem.1 he;have:=h3 n hn;rw[hb]at this;simpa using this
 have stop:∀(listed:Array Bool) (es:List El) (T:List AV) (H:aT),listed.size=ops.size->es.Pairwise (q8 ops)->(∀i,i<ops.size->(listed.getD i true=false↔ ∃e∈es,e.i=i))->
  oW P S ops T H es T' H'->Region.ready .any ops listed=[]->es=[]:=by
  intro listed es T H bV hp hl hc hr;cases es with
  |nil=>rfl|cons e es=>
   exfalso;have ho:=hc.1.op;have bq:e.i<ops.size:=(Array.getElem?_eq_some_iff.1 ho).1
   have kv:e.i∈Region.ready .any ops listed:=by
    simp only[Region.ready,List.mem_filter,mem_range,and_eq_true];refine⟨bq,by simpa using(hl e.i bq).2 ⟨e,by simp,rfl⟩, ?_⟩;rw[ho];simp only[map_some,getD_some,Array.all_eq_true];intro n hn;have hb:dZ ops=true:=heb;simp only[dZ,all_eq_true,mem_range]at hb;have hb:=hb e.i bq;rw[ho]at hb;simp only[Array.all_eq_true]at hb;have hb:=hb n hn;cases hbi:Region.binds .any (e.o.after[n])with
    |false=>simp|true=>
     rw[hbi]at hb;have hon:(e.o.after[n]).on<e.i:=by simpa[Nat.blt,Nat.lt_iff_add_one_le]using hb
     have cQ:¬(listed.getD (e.o.after[n]).on true=false):=by
      intro hf;have⟨f,hf1,hf2⟩:=(hl _ (by omega)).1 hf;rcases mem_cons.1 hf1 with rfl|hf1;omega;have:=(pairwise_cons.1 hp).1 f hf1;have:=this.1;omega
     have cP:(e.o.after[n]).on<listed.size:=by omega
     simp only[Array.getD,cP,dif_pos]at cQ ⊢;simpa using cQ
   rw[hr]at kv;simp at kv
 intro fuel
 induction fuel with
 |zero=>
  intro listed es T H ρ a w bC bV hp hl hdc agd hc;obtain rfl:es=[]:=List.length_eq_zero_iff.1 bC;obtain⟨rfl,rfl⟩:=hc;refine⟨?_,hQ _ _ _ agd⟩;rw[List.eq_nil_iff_forall_not_mem];intro i hi;have⟨h1,h2,_⟩:=gi listed i hi;have⟨e,he,_⟩:=(hl i h1).1 h2;simp at he
 |succ fuel ih=>
  intro listed es T H ρ a w bC bV hp hl hdc agd hc;refine⟨λhr=> ?_,λi hi=> ?_⟩;obtain rfl:=stop listed es T H bV hp hl hc hr;simp at bC;have⟨h1,h2,o,ho,h3⟩:=gi listed i hi;obtain⟨f,hf,rfl⟩:=(hl i h1).1 h2;obtain⟨pre,post,rfl⟩:=List.append_of_mem hf;have mM:∀e∈pre,q8 ops e f:=λe he=>(List.pairwise_append.1 hp).2.2 e he f (by simp)
  have auc:∀e∈pre,ado ops e f:=by
   intro e he;rcases(mM e he).2 with h4|h4;exfalso;have h8:listed.getD e.i false=true:=jz (L:=λi=>listed.getD i false=true) hdc 9 ho h3 h4;have bq:e.i<ops.size:=by have:=(mM e he).1;omega
   have h9:=(hl e.i bq).2 ⟨e,by simp[he],rfl⟩;have cP:e.i<listed.size:=by omega
   simp only[Array.getD,cP,dif_pos]at h8 h9;rw[h8]at h9;cases h9;exact h4
  have⟨jY,hch⟩:=front pre hc auc;refine ahG hS nX jY agd (λaN a' w' eI=> ?_)
  have aBG:∀j,listed.getD j false=true->(listed.setIfInBounds f.i true).getD j false=true:=λj hj=>by
   simp only[getD_eq_getD_getElem?,Array.getElem?_setIfInBounds]at hj ⊢;split;split<;>simp_all;exact hj
  have aud:∀i o,ops[i]? =some o->(listed.setIfInBounds f.i true).getD i false=true->∀e∈o.after,Region.binds .any e=true->(listed.setIfInBounds f.i true).getD e.on false=true:=by
   intro i o' dI fy e he hb;by_cases hif:i=f.i;subst hif;rw[ho]at dI;cases dI;exact aBG _ (h3 e he hb);refine aBG _ (hdc i o' dI ?_ e he hb);simp only[getD_eq_getD_getElem?,Array.getElem?_setIfInBounds,if_neg (Ne.symm hif)]at fy ⊢;exact fy
  refine ih _ (pre++post) _ _ aN a' w' ?_ (by simp[bV]) ?_ ?_ aud eI hch;simp only[length_append,length_cons]at bC ⊢;omega;exact hp.sublist (List.Sublist.append (List.Sublist.refl _) (List.sublist_cons_self _ _));intro j hj
  have alJ:∀e∈pre++post,e.i≠f.i:=by
   intro e he;rcases mem_append.1 he with he|he;have:=(mM e he).1;omega;have:=(pairwise_cons.1 (List.pairwise_append.1 hp).2.1).1 e he;have:=this.1;omega
  have cP:j<listed.size:=by omega
  have aue:(listed.setIfInBounds f.i true).getD j true=if j=f.i then true else listed.getD j true:=by
   simp only[getD_eq_getD_getElem?,Array.getElem?_setIfInBounds];by_cases hjf:f.i=j;subst hjf;simp[cP];simp[hjf,Ne.symm hjf]
  rw[aue];by_cases hjf:j=f.i;subst hjf;simp only[if_true,Bool.true_eq_false,false_iff,not_exists,not_and];exact alJ;rw[if_neg hjf,hl j hj];constructor;rintro⟨e,he,rfl⟩;refine⟨e, ?_,rfl⟩;simp only[mem_append,mem_cons]at he ⊢;rcases he with he|rfl|he;exact .inl he;exact(hjf rfl).elim;exact .inr he;rintro⟨e,he,rfl⟩;refine⟨e, ?_,rfl⟩;simp only[mem_append,mem_cons]at he ⊢;rcases he with he|he;exact .inl he;exact .inr (.inr he)
def El.nN(e:El):Touch:=⟨e.i,e.rd,e.wr⟩
theorem gU:∀(tr:List Touch),jj ops tr=true->tr.Pairwise (λb a=>a.ahA b=false\/gL ops b.i a.i=true)
 |[],_=>.nil|b::aQ,h=>by
  simp only[jj,and_eq_true,all_eq_true,Bool.or_eq_true,not_eq_true']at h;exact .cons (λa ha=>h.1 a ha) (gU aQ h.2)
theorem Touch.xE{a b:Touch}(h:a.ahA b=false):(∀id∈a.wr,id ∉ b.rd/\id ∉ b.wr)/\∀id∈b.wr,id ∉ a.rd:=by
 simp only[Touch.ahA,Bool.or_eq_false_iff,List.any_eq_false,Bool.or_eq_true,List.contains_iff_mem,not_or]at h;exact h
theorem ahH{T T':List AV}(bC:T.length=T'.length)(h:∀t,Ref (T.getD t (.s .aZ)) (T'.getD t (.s .aZ)))(dst:Option Tmp)(x:AV):∀t,Ref ((cX T dst x).getD t (.s .aZ)) ((cX T' dst x).getD t (.s .aZ)):=by
 intro t;cases dst with
 |none=>exact h t|some d=>
  simp only[cX];rw[cZ,cZ,bC];split;exact .inl rfl;exact h t
theorem oX(T:List AV)(dst:Option Tmp)(x:AV):(cX T dst x).length=T.length:=by cases dst<;>simp[cX]
theorem gM{cont:St->List Touch->Tree}:∀(l:List Oper) (i:Nat) (s:St) (tr:List Touch) (T:List AV),(∀j o,l[j]? =some o->ops[i+j]? =some o)->(mi P S ops cont i l s tr).Holds K C->
 T.length=s.tmps.length->(∀t,Ref (T.getD t (.s .aZ)) (s.tmps.getD t (.s .aZ)))->
 ∃es s' rI T',(cont s' rI).Holds K C/\oW P S ops T s.look es T' s'.look/\T'.length=s'.tmps.length/\(∀t,Ref (T'.getD t (.s .aZ)) (s'.tmps.getD t (.s .aZ)))/\
  es.map El.i=range' i l.length/\rI=((es.filter (λe=>e.q.isSome)).map El.nN).reverse++tr
 |[],i,s,tr,T,_,h,bC,hT=>⟨[],s,tr,T,h,⟨rfl,rfl⟩,bC,hT,rfl,rfl⟩|o::rest,i,s,tr,T,hl,h,bC,hT=>by
  have ho:ops[i]? =some o:=by simpa using hl 0 o (by simp)
  have hl':∀j o',rest[j]? =some o'->ops[i+1+j]? =some o':=λj o' hj=>by
   have:=hl (j+1) o' (by simpa using hj);rwa[show i+(j+1)=i+1+j from by omega]at this
  have oY:∀(s:St),T.length=s.tmps.length->(∀t,Ref (T.getD t (.s .aZ)) (s.tmps.getD t (.s .aZ)))->
   (match o.guard with|none=>True|some (g,want)=>∃d,(ops[g]?).bind (·.dst)=some d/\s.tmps.getD d (.s .aZ)=.s (.aK want))->
   (match(vT P (S s.H.length) (ji s.tmps) o).eval s.look with
     |some r=>bif aat s.H.length r.up then Tree.aas r.ab (mi P S ops cont (i+1) rest (s.put o.dst r) (⟨i,(vT P (S s.H.length) (ji s.tmps) o).ids s.look,vA r.up++(List.range r.new.length).map (s.H.length+·)⟩::tr))else .stuck "up"|none=>.stuck (o.pos++ " " ++(vT P (S s.H.length) (ji s.tmps) o).why s.look)).Holds K C->
   ∃es s' rI T',(cont s' rI).Holds K C/\oW P S ops T s.look es T' s'.look/\T'.length=s'.tmps.length/\(∀t,Ref (T'.getD t (.s .aZ)) (s'.tmps.getD t (.s .aZ)))/\
    es.map El.i=range' i (o::rest).length/\rI=((es.filter (λe=>e.q.isSome)).map El.nN).reverse++tr:=by
   intro s bC hT hg h;split at h;rename_i q hq;rw[cond_eq_ite]at h;split at h;rename_i hup;have⟨hn,h2⟩:=oT _ _ h;let e:El:=⟨i,o,s.tmps,some q,s.H.length,(vT P (S s.H.length) (ji s.tmps) o).ids s.look⟩;have⟨es,s',rI,T',g1,g2,g3,g4,g5,g6⟩:=gM rest (i+1) _ _ (e.cT T) hl' h2 (by simp[El.cT,St.put,oX,bC]) (ahH bC hT o.dst _);refine⟨e::es,s',rI,T',g1,⟨⟨ho,λt _=>hT t, ?_,λhq'=>by simp[e]at hq',λq' hq'=> ?_⟩, ?_⟩,g3,g4, ?_, ?_⟩;show match o.guard with|none=>_|some (g,want)=>_
   split;rfl;rename_i g want h0;rw[h0]at hg;have⟨d,h5,h6⟩:=hg;exact⟨d,h5,.inl ⟨want,h6,by simp[e]⟩⟩;obtain rfl:q=q':=by simpa[e]using hq'
   exact⟨hq,rfl,hn,λj _=>by simp[St.look,e]⟩;have:e.heap s.look=(s.put o.dst q).look:=(adn s o.dst q (alT hup)).symm;rw[this];exact g2;simp[g5,List.range'_succ,e];rw[g6];simp[e,El.nN,El.wr];exact h.elim;exact h.elim
  have oZ:∀(s:St),T.length=s.tmps.length->(∀t,Ref (T.getD t (.s .aZ)) (s.tmps.getD t (.s .aZ)))->
   (∃g want d,o.guard=some (g,want)/\(ops[g]?).bind (·.dst)=some d/\(s.tmps.getD d (.s .aZ)=.s (.aK (!want))\/s.tmps.getD d (.s .aZ)=.bt []))->
   (mi P S ops cont (i+1) rest {s with tmps:=cX s.tmps o.dst (.bt [])} tr).Holds K C->
   ∃es s' rI T',(cont s' rI).Holds K C/\oW P S ops T s.look es T' s'.look/\T'.length=s'.tmps.length/\(∀t,Ref (T'.getD t (.s .aZ)) (s'.tmps.getD t (.s .aZ)))/\
    es.map El.i=range' i (o::rest).length/\rI=((es.filter (λe=>e.q.isSome)).map El.nN).reverse++tr:=by
   intro s bC hT hg h;let e:El:=⟨i,o,s.tmps,none,s.H.length,[]⟩;have⟨es,s',rI,T',g1,g2,g3,g4,g5,g6⟩:=gM rest (i+1) _ _ (e.cT T) hl' h (by simp[El.cT,oX,bC]) (ahH bC hT o.dst _);refine⟨e::es,s',rI,T',g1,⟨⟨ho,λt _=>hT t, ?_,λ_=>rfl,λq' hq'=>by simp[e]at hq'⟩,g2⟩,g3,g4, ?_, ?_⟩;show match o.guard with|none=>_|some (g,want)=>_
   have⟨g,want,d,h0,h5,h6⟩:=hg;rw[h0];refine⟨d,h5, ?_⟩;rcases h6 with h6|h6;exact .inl ⟨!want,h6,by cases want<;>rfl⟩;exact .inr ⟨h6,rfl⟩;simp[g5,List.range'_succ,e];rw[g6];simp[e]
  have oG:∀{d:Nat} {b:Bool},s.tmps.getD d (.s .aZ)=.s (.bool b)->d<s.tmps.length:=by
   intro d b hb;rcases lt_or_ge d s.tmps.length with h3|h3;exact h3;rw[List.getD,getElem?_eq_none h3]at hb;simp at hb
  have apS:∀{d:Nat} {b:Bool},s.tmps.getD d (.s .aZ)=.s (.bool b)->∀t,Ref (T.getD t (.s .aZ)) ((s.tmps.set d (.s (.aK b))).getD t (.s .aZ)):=by
   intro d b hb t;rw[cZ];split;rename_i hc;obtain⟨rfl,_⟩:=hc;exact(hT t).trans (.inr ⟨b,hb,rfl⟩);exact hT t
  unfold mi at h;simp only[]at h;split at h;rename_i hg;exact oY s bC hT (by rw[hg];trivial) h;rename_i g want hg;split at h;exact h.elim;rename_i d hd;split at h;rename_i b hb;rw[cond_eq_ite]at h;split at h;rename_i hbw;obtain rfl:b=want:=by simpa using hbw
  exact oY s bC hT (by rw[hg];exact⟨d,hd,hb⟩) h;rename_i hbw;refine oZ s bC hT ⟨g,want,d,hg,hd,.inl ?_⟩ h;rw[hb];cases b<;>cases want<;>simp_all;rename_i b hb;have bq:=oG hb;have zH:=apS hb;have ahI:∀c:Bool,(s.tmps.set d (.s (.aK c))).getD d (.s .aZ)=.s (.aK c):=λc=>by simp[List.getD,bq]
  have⟨h1,h2⟩:=h;cases b;have h2:=h2 rfl;cases want;exact oY {s with tmps:=s.tmps.set d (.s (.aK false))} (by simpa using bC) zH (by rw[hg];exact⟨d,hd,ahI _⟩) h2;exact oZ {s with tmps:=s.tmps.set d (.s (.aK false))} (by simpa using bC) zH ⟨g,true,d,hg,hd,.inl (ahI _)⟩ h2;have h1:=h1 rfl;cases want;exact oZ {s with tmps:=s.tmps.set d (.s (.aK true))} (by simpa using bC) zH ⟨g,false,d,hg,hd,.inl (ahI _)⟩ h1;exact oY {s with tmps:=s.tmps.set d (.s (.aK true))} (by simpa using bC) zH (by rw[hg];exact⟨d,hd,ahI _⟩) h1;rename_i hb;exact oZ s bC hT ⟨g,want,d,hg,hd,.inr hb⟩ h;exact h.elim
theorem lj{T':List AV}{H':aT}:∀{es:List El} {T:List AV} {H:aT},oW P S ops T H es T' H'->∀e∈es,e.q=none->e.rd=[]
 |[],_,_,_,e,he=>by simp at he
 |x::es,T,H,h,e,he=>by
  rcases mem_cons.1 he with rfl|he;exact h.1.skip;exact lj h.2 e he
theorem xF{T':List AV}{H':aT}:∀{es:List El} {T:List AV} {H:aT},oW P S ops T H es T' H'->∀e∈es,ops[e.i]? =some e.o
 |[],_,_,_,e,he=>by simp at he
 |x::es,T,H,h,e,he=>by
  rcases mem_cons.1 he with rfl|he;exact h.1.op;exact xF h.2 e he
theorem vB(hso:iJ ops=true){e f:El}(he:ops[e.i]? =some e.o)(hf:ops[f.i]? =some f.o)(bq:e.i<f.i)(hna:gL ops f.i e.i=false):
 (∀d,e.o.dst=some d->d ∉ f.o.looksAt ops/\f.o.dst≠some d)/\(∀d,f.o.dst=some d->d ∉ e.o.looksAt ops):=by
 have hei:e.i<ops.size:=(Array.getElem?_eq_some_iff.1 he).1;have hfi:f.i<ops.size:=(Array.getElem?_eq_some_iff.1 hf).1;simp only[iJ,all_eq_true,mem_range]at hso;refine⟨λd hd=> ?_,λd hd=> ?_⟩;have:=hso e.i hei f.i hfi;rw[he,hf]at this;simp only[hd,bq,if_true,hna,Bool.or_false,Bool.or_eq_true,beq_iff_eq,and_eq_true,not_eq_true']at this;rcases this with h|⟨h1,h2⟩;omega;refine⟨λhm=> ?_,λhm=> ?_⟩;rw[List.contains_iff_mem.2 hm]at h1;cases h1;rw[hm]at h2;simp at h2;have:=hso f.i hfi e.i hei;rw[he,hf]at this;simp only[hd,Nat.not_lt.2 (Nat.le_of_lt bq),if_false,hna,Bool.or_false,Bool.or_eq_true,beq_iff_eq,and_eq_true,not_eq_true']at this;rcases this with h|⟨h1,h2⟩;omega;intro hm;rw[List.contains_iff_mem.2 hm]at h1;cases h1
theorem abQ(hS:SOk P S Z)(nX:eb Z X){cont:St->List Touch->Tree}(hso:iJ ops=true)(heb:dZ ops=true)(h:(mi P S ops cont 0 ops.toList s []).Holds K C)(hcl:∀s' rI,(cont s' rI).Holds K C->jj ops rI=true)
 {Q:Act->World->Prop} (hQ:∀aN s' rI a' w',(cont s' rI).Holds K C->cp X aN s' a' w'->Q a' w') (hr:cp X ρ s a w):wpAny P .any ops (λe a' w'=>e=.normal/\Q a' w') ops.size (Array.replicate ops.size false) a w:=by
 have⟨es,s',rI,T',g1,g2,g3,g4,g5,g6⟩:=gM ops.toList 0 s [] s.tmps (by simp) h rfl (λt=>.inl rfl);have hcf:=gU _ (hcl _ _ g1);rw[g6,append_nil,List.pairwise_reverse,List.pairwise_map,List.pairwise_filter]at hcf;have zr:=xF g2
 have ac8:es.Pairwise (λe f=>e.i<f.i):=by
  have:(es.map El.i).Pairwise (· < ·):=by rw[g5];exact List.pairwise_lt_range'
  rwa[List.pairwise_map]at this
 have abR:es.Pairwise (q8 ops):=by
  refine(hcf.and ac8).imp_of_mem (λ{e f} he hf ⟨hc,bq⟩=>⟨bq, ?_⟩);cases hna:gL ops f.i e.i with
  |true=>exact .inl rfl|false=>
   refine .inr ?_;have⟨s1,s2⟩:=vB hso (zr e he) (zr f hf) bq hna
   have hh:(∀id∈e.wr,id ∉ f.rd/\id ∉ f.wr)/\∀id∈f.wr,id ∉ e.rd:=by
    cases hqe:e.q with
    |none=>
     have e1:e.wr=[]:=by simp[El.wr,hqe]
     have e2:=lj g2 e he hqe;exact⟨λid dt=>by rw[e1]at dt;simp at dt,λid _=>by rw[e2];simp⟩
    |some qe=>
     cases hqf:f.q with
     |none=>
      have e1:f.wr=[]:=by simp[El.wr,hqf]
      have e2:=lj g2 f hf hqf;exact⟨λid _=>by rw[e1,e2];simp,λid dt=>by rw[e1]at dt;simp at dt⟩
     |some qf=>
      rcases hc (by rw[hqe];rfl) (by rw[hqf];rfl)with h1|h1;exact Touch.xE (a:=e.nN) (b:=f.nN) h1;exact(by rw[show f.nN.i=f.i from rfl,show e.nN.i=e.i from rfl,hna]at h1;cases h1)
   exact⟨s1,s2,hh.1,hh.2⟩
 have bC:es.length=ops.size:=by
  have:=congrArg List.length g5;simpa using this
 refine abP hS nX heb (λaN a' w' eI=>⟨rfl,hQ aN s' rI a' w' g1 ⟨eI.sat,g3▸eI.size,λt=>(g4 t).den (eI.den t),eI.defers,eI.ao,eI.jN,eI.kept⟩⟩) ops.size _ es s.tmps s.look ρ a w bC (by simp) abR ?_ (λi o _ hi=>by rw[getD_eq_getD_getElem?,Array.getElem?_replicate]at hi;split at hi<;>simp at hi) hr.toF g2;intro i hi;have:i∈es.map El.i:=by rw[g5];simp[List.mem_range'];omega
 obtain⟨e,he,rfl⟩:=mem_map.1 this;simp only[getD_eq_getD_getElem?,Array.getElem?_replicate,hi,if_true,getD_some,true_iff];exact⟨e,he,rfl⟩
end
section
variable{ρ aN:Nat->Value}{H H':aT}{G O O':Nat->Prop}{w w':World}{P:Program}{S:fI}{Z:bm}{X:Ctx}{s:St}{a:Act}{K:List ak->AV->Prop}{C:bP->Prop}{ops:Array Oper}
structure ky (n:Nat) (rest:List Value) (Ds:List Nat) (a t:Act):Prop where
 sl:∃v0,a.tmps.toList=v0++rest/\t.tmps=v0.toArray/\v0.length=n
 df:t.defers=a.defers++Ds.map qy
theorem ky.get{n:Nat}{rest:List Value}{Ds:List Nat}{a t:Act}(h:ky n rest Ds a t){j:Nat}(hj:rest=[]\/j<n):t.tmps[j]? =a.tmps[j]? :=by
 have⟨v0,h1,h2,h3⟩:=h.sl;have e:a.tmps[j]? =(v0++rest)[j]? :=by rw[<-h1,Array.getElem?_toList]
 rw[e,h2,List.getElem?_toArray];rcases hj with rfl|hj;rw[append_nil];rw[getElem?_append_left (by omega)]
theorem ky.eval{n:Nat}{rest:List Value}{Ds:List Nat}{a t:Act}(h:ky n rest Ds a t){x:Operand}(hx:rest=[]\/∀j,x=.tmp j->j<n):t.eval x=a.eval x:=by
 cases x with
 |tmp j=>
  show t.tmps.getD j undef=a.tmps.getD j undef;rw[getD_eq_getD_getElem?,getD_eq_getD_getElem?,h.get (hx.imp id λg=>g j rfl)]
 |const v=>rfl|global g=>rfl|func f=>rfl
theorem ky.put{n:Nat}{rest:List Value}{Ds:List Nat}{a t:Act}(h:ky n rest Ds a t){dst:Option Tmp}(hd:rest=[]\/∀d,dst=some d->d<n)(v:Value):ky n rest Ds (a.put dst v) (t.put dst v):=by
 cases dst with
 |none=>exact h|some d=>
  have⟨v0,h1,h2,h3⟩:=h.sl;refine⟨⟨v0.set d v, ?_, ?_,by simp[h3]⟩,h.df⟩;show(a.tmps.setIfInBounds d v).toList=_;rw[Array.toList_setIfInBounds,h1];rcases hd with rfl|hd;simp;rw[List.set_append_left _ _ (h3▸hd d rfl)];show t.tmps.setIfInBounds d v=_;rw[h2];simp
theorem ahJ{R:Value->World->Prop}{i:Nat}{rest:List Nat}{o:Oper}(ho:ops[i]? =some o)(hw:Region.wanted o (yielded ops a.tmps)=true)(ix:∀c,o.op≠.defer c)(h:Yields P o a.eval w R)(b:Frame)(k:List Item)(cs:List Frame):
 ∃v w',R v w'/\Steps P (lone (b.atR a (.inRegion ops (i::rest)::k)) cs w) (lone (b.atR (a.put o.dst v) (.inRegion ops rest::k)) cs w'):=by
 have hg:=stepGR_op (P:=P) (b:=b) (k:=k) (cs:=cs) (w:=w) (rest:=rest) ho hw;rw[Oper.semAt_eq _ _ _ ix]at hg
 have uo:∀v,(b.atR a (.inRegion ops (i::rest)::k)).finish v=b.atR (a.put o.dst v) (.inRegion ops rest::k):=by
  intro v;rw[Frame.finish_atR,ho];rfl
 unfold Yields at h;split at h;rename_i v w' hr;refine⟨v,w',h,.one (step_lone_go ?_)⟩;rw[hg,<-uo];simp[stepG.apply,hr];rename_i w' hr;refine⟨undef,w',h,.one (step_lone_go ?_)⟩;rw[hg,<-uo];simp[stepG.apply,hr];rename_i f args w' hr;obtain⟨e,w2,fr,⟨v,rfl,hv⟩,h2,h3,h4⟩:=h (b.atR a (.inRegion ops (i::rest)::k)::cs);have fY:step P (lone (b.atR a (.inRegion ops (i::rest)::k)) cs w)=
  .next (lone (Frame.enter P f args .normal) (b.atR a (.inRegion ops (i::rest)::k)::cs) w'):=
  step_lone_go (by rw[hg];simp[stepG.apply,hr,Frame.atR])
 refine⟨v,w2,hv,.head fY (Steps.trans h2 (.one ?_))⟩;rw[<-uo];exact step_leave_returned h4;exact h.elim
theorem abS{i:Nat}{rest:List Nat}{o:Oper}(ho:ops[i]? =some o)(hw:Region.wanted o (yielded ops a.tmps)=false)(b:Frame)(k:List Item)(cs:List Frame):
 step P (lone (b.atR a (.inRegion ops (i::rest)::k)) cs w)=.next (lone (b.atR (a.put o.dst undef) (.inRegion ops rest::k)) cs w):=by
 have:=stepR_op_skip (P:=P) (b:=b) (a:=a) (k:=k) (cs:=cs) (w:=w) (ops:=ops) (i:=i) (rest:=rest) (by simp[ho];simpa using hw);simpa[ho]using this
theorem alW{i:Nat}{rest:List Nat}{o:Oper}(ho:ops[i]? =some o)(hw:Region.wanted o (yielded ops a.tmps)=true)(ix:∀c,o.op≠.defer c){f:FuncId}{args:Array Value}(h:(execOp a.eval o).run P w=.ok (.enter f args) w')(b:Frame)(k:List Item)(cs:List Frame):
 step P (lone (b.atR a (.inRegion ops (i::rest)::k)) cs w)=.next (lone (Frame.enter P f args .normal) (b.atR a (.inRegion ops (i::rest)::k)::cs) w'):=by
 have hg:=stepGR_op (P:=P) (b:=b) (k:=k) (cs:=cs) (w:=w) (rest:=rest) ho hw;rw[Oper.semAt_eq _ _ _ ix]at hg;exact step_lone_go (by rw[hg];simp[stepG.apply,h,Frame.atR])
theorem alX{i:Nat}{rest:List Nat}{o:Oper}(ho:ops[i]? =some o)(hw:Region.wanted o (yielded ops a.tmps)=true)(ix:∀c,o.op≠.defer c){l:Nat}{f:FuncId}{tmps:Array Value}{asg body:Code}(h:(execOp a.eval o).run P w=.ok (.round l f tmps asg body) w')(b:Frame)(k:List Item)(cs:List Frame):
 step P (lone (b.atR a (.inRegion ops (i::rest)::k)) cs w)=.next (lone (Frame.round l f tmps asg body .normal) (b.atR a (.inRegion ops (i::rest)::k)::cs) w'):=by
 have hg:=stepGR_op (P:=P) (b:=b) (k:=k) (cs:=cs) (w:=w) (rest:=rest) ho hw;rw[Oper.semAt_eq _ _ _ ix]at hg;exact step_lone_go (by rw[hg];simp[stepG.apply,h])
theorem o8(h:iK ops=true){i:Nat}{o:Oper}(ho:ops[i]? =some o):∀c,o.op≠.defer c:=by
 intro c hc;simp only[iK,all_eq_true]at h;have:=h o (by rw[<-Array.getElem?_toList]at ho;exact List.mem_of_getElem? ho);rw[hc]at this;cases this
theorem hZ{Q:Exit->Act->World->Prop}(ix:iK ops=true)(hQ:∀e a w,Q e a w->e=.normal):∀(l:List Nat) (a:Act) (w:World),wpOps P ops Q l a w->∀(b:Frame) (k:List Item) (cs:List Frame),
 ∃a' w',Q .normal a' w'/\Steps P (lone (b.atR a (.inRegion ops l::k)) cs w) (lone (b.atR a' k) cs w')
 |[],a,w,h,b,k,cs=>⟨a,w,h,.one stepR_region_end⟩|i::rest,a,w,h,b,k,cs=>by
  simp only[wpOps]at h;split at h;rename_i ho;have⟨a',w',h1,h2⟩:=hZ ix hQ rest a w h b k cs;have hs:=stepR_op_skip (P:=P) (b:=b) (a:=a) (k:=k) (cs:=cs) (w:=w) (ops:=ops) (i:=i) (rest:=rest) (by simp[ho]);simp only[ho,Option.bind_none,Act.put]at hs;exact⟨a',w',h1,.head hs h2⟩;rename_i o ho;by_cases hw:Region.wanted o (yielded ops a.tmps)=true;rw[if_pos hw]at h;rcases h with h|⟨_,a0,w0,hq⟩;unfold Oper.wp Oper.upon at h;have hg:=stepGR_op (P:=P) (b:=b) (k:=k) (cs:=cs) (w:=w) (rest:=rest) ho hw;rw[Oper.semAt_eq _ _ _ (o8 ix ho)]at hg
  have uo:∀v,(b.atR a (.inRegion ops (i::rest)::k)).finish v=b.atR (a.put o.dst v) (.inRegion ops rest::k):=by
   intro v;rw[Frame.finish_atR,ho];rfl
  split at h;rename_i v w' hr;have⟨a',w2,h1,h2⟩:=hZ ix hQ rest _ _ h b k cs;refine⟨a',w2,h1,.head (step_lone_go ?_) h2⟩;rw[hg,<-uo];simp[stepG.apply,hr];rename_i w' hr;have⟨a',w2,h1,h2⟩:=hZ ix hQ rest _ _ h b k cs;refine⟨a',w2,h1,.head (step_lone_go ?_) h2⟩;rw[hg,<-uo];simp[stepG.apply,hr];rename_i d w' hr;have⟨a',w2,h1,h2⟩:=hZ ix hQ rest _ _ h b k cs;refine⟨a',w2,h1,.head (step_lone_go ?_) h2⟩;have:({b.atR a (.inRegion ops (i::rest)::k)with defers:=d::a.defers}:Frame).finish undef=
   b.atR ({a with defers:=d::a.defers}.put o.dst undef) (.inRegion ops rest::k):=by
   have:=Frame.finish_atR b {a with defers:=d::a.defers} ops i rest k undef;rw[ho]at this;exact this
  rw[hg];simp only[stepG.apply,Sem.runT_eq,hr,GStep.bare_after];exact congrArg (λfr=>GStep.go {frame:=fr,callers:=cs,status:=.running,dying:=none} w') this;rename_i f args w' hr;have⟨e,w2,fr,hR,lq,hfn,q9⟩:=h (b.atR a (.inRegion ops (i::rest)::k)::cs);have fY:step P (lone (b.atR a (.inRegion ops (i::rest)::k)) cs w)=
   .next (lone (Frame.enter P f args .normal) (b.atR a (.inRegion ops (i::rest)::k)::cs) w'):=
   step_lone_go (by rw[hg];simp[stepG.apply,hr,Frame.atR])
  cases e with
  |returned v=>
   have⟨a',w3,h1,h2⟩:=hZ ix hQ rest _ _ hR b k cs;refine⟨a',w3,h1,.head fY (Steps.trans lq (.head ?_ h2))⟩;rw[<-uo];exact step_leave_returned q9
  |panicked chain=>cases hQ _ _ _ hR
  |outgrown=>
   have⟨a0,w0,hq⟩:=hR;cases hQ _ _ _ hq
  rename_i row args w' hr;have⟨v,w2,hR,lq⟩:=h (b.atR a (.inRegion ops (i::rest)::k)) cs;have fY:step P (lone (b.atR a (.inRegion ops (i::rest)::k)) cs w)=
   .next (lone (Frame.ofRow P row args .normal) (b.atR a (.inRegion ops (i::rest)::k)::cs) w'):=
   step_lone_go (by rw[hg];simp[stepG.apply,hr,Frame.atR])
  have⟨a',w3,h1,h2⟩:=hZ ix hQ rest _ _ hR b k cs;refine⟨a',w3,h1,.head fY (Steps.trans lq ?_)⟩;rw[uo];exact h2;cases hQ _ _ _ h;exact h.elim;cases hQ _ _ _ hq;rw[if_neg hw]at h;have⟨a',w',h1,h2⟩:=hZ ix hQ rest _ _ h b k cs;exact⟨a',w',h1,.head (abS ho (by simpa using hw) b k cs) h2⟩
theorem fZ{more:List Nat}{Q:Exit->Act->World->Prop}(ix:iK ops=true)(hQ:∀e a w,Q e a w->e=.normal):∀(l:List Nat) (a:Act) (w:World),wpOps P ops Q l a w->∀(b:Frame) (k:List Item) (cs:List Frame),
 ∃a' w',Q .normal a' w'/\Steps P (lone (b.atR a (.inRegion ops (l++more)::k)) cs w) (lone (b.atR a' (.inRegion ops more::k)) cs w')
 |[],a,w,h,b,k,cs=>⟨a,w,h,⟨0,rfl⟩⟩|i::rest,a,w,h,b,k,cs=>by
  rw[cons_append];simp only[wpOps]at h;split at h;rename_i ho;have⟨a',w',h1,h2⟩:=fZ (more:=more) ix hQ rest a w h b k cs;have hs:=stepR_op_skip (P:=P) (b:=b) (a:=a) (k:=k) (cs:=cs) (w:=w) (ops:=ops) (i:=i) (rest:=rest++more) (by simp[ho]);simp only[ho,Option.bind_none,Act.put]at hs;exact⟨a',w',h1,.head hs h2⟩;rename_i o ho;by_cases hw:Region.wanted o (yielded ops a.tmps)=true;rw[if_pos hw]at h;rcases h with h|⟨_,a0,w0,hq⟩;unfold Oper.wp Oper.upon at h;have hg:=stepGR_op (P:=P) (b:=b) (k:=k) (cs:=cs) (w:=w) (rest:=rest++more) ho hw;rw[Oper.semAt_eq _ _ _ (o8 ix ho)]at hg
  have uo:∀v,(b.atR a (.inRegion ops (i::(rest++more))::k)).finish v=b.atR (a.put o.dst v) (.inRegion ops (rest++more)::k):=by
   intro v;rw[Frame.finish_atR,ho];rfl
  split at h;rename_i v w' hr;have⟨a',w2,h1,h2⟩:=fZ (more:=more) ix hQ rest _ _ h b k cs;refine⟨a',w2,h1,.head (step_lone_go ?_) h2⟩;rw[hg,<-uo];simp[stepG.apply,hr];rename_i w' hr;have⟨a',w2,h1,h2⟩:=fZ (more:=more) ix hQ rest _ _ h b k cs;refine⟨a',w2,h1,.head (step_lone_go ?_) h2⟩;rw[hg,<-uo];simp[stepG.apply,hr];rename_i d w' hr;have⟨a',w2,h1,h2⟩:=fZ (more:=more) ix hQ rest _ _ h b k cs;refine⟨a',w2,h1,.head (step_lone_go ?_) h2⟩;have:({b.atR a (.inRegion ops (i::(rest++more))::k)with defers:=d::a.defers}:Frame).finish undef=
   b.atR ({a with defers:=d::a.defers}.put o.dst undef) (.inRegion ops (rest++more)::k):=by
   have:=Frame.finish_atR b {a with defers:=d::a.defers} ops i (rest++more) k undef;rw[ho]at this;exact this
  rw[hg];simp only[stepG.apply,Sem.runT_eq,hr,GStep.bare_after];exact congrArg (λfr=>GStep.go {frame:=fr,callers:=cs,status:=.running,dying:=none} w') this;rename_i f args w' hr;have⟨e,w2,fr,hR,lq,hfn,q9⟩:=h (b.atR a (.inRegion ops (i::(rest++more))::k)::cs);have fY:step P (lone (b.atR a (.inRegion ops (i::(rest++more))::k)) cs w)=
   .next (lone (Frame.enter P f args .normal) (b.atR a (.inRegion ops (i::(rest++more))::k)::cs) w'):=
   step_lone_go (by rw[hg];simp[stepG.apply,hr,Frame.atR])
  cases e with
  |returned v=>
   have⟨a',w3,h1,h2⟩:=fZ (more:=more) ix hQ rest _ _ hR b k cs;refine⟨a',w3,h1,.head fY (Steps.trans lq (.head ?_ h2))⟩;rw[<-uo];exact step_leave_returned q9
  |panicked chain=>cases hQ _ _ _ hR
  |outgrown=>
   have⟨a0,w0,hq⟩:=hR;cases hQ _ _ _ hq
  rename_i row args w' hr;have⟨v,w2,hR,lq⟩:=h (b.atR a (.inRegion ops (i::(rest++more))::k)) cs;have fY:step P (lone (b.atR a (.inRegion ops (i::(rest++more))::k)) cs w)=
   .next (lone (Frame.ofRow P row args .normal) (b.atR a (.inRegion ops (i::(rest++more))::k)::cs) w'):=
   step_lone_go (by rw[hg];simp[stepG.apply,hr,Frame.atR])
  have⟨a',w3,h1,h2⟩:=fZ (more:=more) ix hQ rest _ _ hR b k cs;refine⟨a',w3,h1,.head fY (Steps.trans lq ?_)⟩;rw[uo];exact h2;cases hQ _ _ _ h;exact h.elim;cases hQ _ _ _ hq;rw[if_neg hw]at h;have⟨a',w',h1,h2⟩:=fZ (more:=more) ix hQ rest _ _ h b k cs;exact⟨a',w',h1,.head (abS ho (by simpa using hw) b k cs) h2⟩
def r9(n:Nat)(rest:List Value)(ops:Array Oper):Prop:=rest=[]\/l5 n ops=true
theorem r9.op{n:Nat}{rest:List Value}(h:r9 n rest ops){i:Nat}{o:Oper}(ho:ops[i]? =some o):rest=[]\/((∀t∈o.looksAt ops,t<n)/\(∀d,o.dst=some d->d<n)/\∀cs b,o.op≠.select cs b):=by
 refine h.imp id λh=> ?_;simp only[l5,all_eq_true]at h;have:=h o (by rw[<-Array.getElem?_toList]at ho;exact List.mem_of_getElem? ho);simp only[ahC,and_eq_true,all_eq_true]at this;have⟨⟨h1,h2⟩,h3⟩:=this;refine⟨λt ht=>by have:=h1 t ht;simpa[Nat.blt,Nat.lt_iff_add_one_le]using this,λd hd=>by rw[hd]at h2;simpa[Nat.blt,Nat.lt_iff_add_one_le]using h2,λcs b hc=>by rw[hc]at h3;cases h3⟩
theorem ky.same{n:Nat}{rest:List Value}{Ds:List Nat}{a t:Act}(h:ky n rest Ds a t)(cP:r9 n rest ops){i:Nat}{o:Oper}(ho:ops[i]? =some o):
 execOp t.eval o=execOp a.eval o/\Region.wanted o (yielded ops t.tmps)=Region.wanted o (yielded ops a.tmps):=by
 rcases cP.op ho with hr|⟨h1,h2,h3⟩
 have e:t.tmps=a.tmps:=by
  have⟨v0,k1,k2,_⟩:=h.sl;rw[hr,append_nil]at k1;rw[k2,<-k1]
 have ee:t.eval=a.eval:=funext λx=>by cases x<;>simp[Act.eval,e]
 rw[ee,e];exact⟨rfl,rfl⟩;refine⟨execOp_congr o h3 λx hx=>h.eval (.inr λj hj=>h1 j ?_), ?_⟩;subst hj;simp only[Oper.looksAt,mem_append,List.mem_filterMap];exact .inl ⟨.tmp j,by simpa using hx,rfl⟩;unfold Region.wanted;cases hg:o.guard with
 |none=>rfl|some g=>
  have⟨g,b⟩:=g;simp only[];congr 1;unfold yielded;cases hd:(ops[g]?).bind (·.dst)with
  |none=>rfl|some d=>
   have:t.tmps[d]? =a.tmps[d]? :=h.get (.inr (h1 d (by simp[Oper.looksAt,hg,hd])));simp only[Option.bind_some,this]
theorem ia{n:Nat}{rest:List Value}{Ds:List Nat}{Q:Exit->Act->World->Prop}(cP:r9 n rest ops)(hQ:∀e a w,Q e a w->e=.normal):∀(l:List Nat) (a t:Act) (w:World),ky n rest Ds a t->wpOps P ops Q l a w->
 wpOps P ops (λe t' w'=>e=.normal/\∃a',Q .normal a' w'/\ky n rest Ds a' t') l t w
 |[],a,t,w,ht,h=>⟨rfl,a,h,ht⟩|i::l,a,t,w,ht,h=>by
  simp only[wpOps]at h ⊢;split at h;rename_i ho;exact ia cP hQ l a t w ht h;rename_i o ho;have⟨e1,e2⟩:=ht.same cP ho;have lP:rest=[]\/∀d,o.dst=some d->d<n:=(cP.op ho).imp id (·.2.1);rw[e2];split at h;rename_i hw;rw[if_pos hw];rcases h with h|⟨_,a0,w0,hq⟩;refine .inl ?_;unfold Oper.wp at *;rw[e1];generalize (execOp a.eval o).run P w=r at *;cases r with
  |ok x w'=>
   cases x<;>simp only[Oper.upon]at h ⊢ <;>first
    |exact ia cP hQ l _ _ _ (ht.put lP _) h|exact ia cP hQ l _ _ _ (ky.put (a:={a with defers:=_::a.defers}) (t:={t with defers:=_::t.defers}) ⟨ht.sl,by simp[ht.df]⟩ lP _) h
    |exact Calls.mono h (λe w'' he=>by
     cases e<;>first
      |exact ia cP hQ l _ _ _ (ht.put lP _) he|(exact(by cases hQ _ _ _ he))
      |(have⟨a0,w0,h2⟩:=he;exact(by cases hQ _ _ _ h2)))
    |exact Rows.mono h (λ_ _ he=>ia cP hQ l _ _ _ (ht.put lP _) he)
  |halt x w'=>cases x<;>simp only[Oper.upon]at h ⊢ <;>exact(by cases hQ _ _ _ h)
  cases hQ _ _ _ hq;rename_i hw;rw[if_neg hw];exact ia cP hQ l _ _ _ (ht.put lP _) h
end
section
variable{ρ aN:Nat->Value}{H H':aT}{G G' O O' O2:Nat->Prop}{w w':World}{P:Program}{S:fI}{Z:bm}{X:Ctx}{s:St}{a:Act}{K:List ak->AV->Prop}{C:bP->Prop}{ops:Array Oper}{E E':List (Nat×Obj)}
theorem Step.src(h:Step ρ H O w aN H' O' w')(k:∀b,O b->O2 b):Step ρ H O2 w aN H' O' w':=
 ⟨h.wX,h.aBG,λb hb=>(h.gu b hb).imp (k b) id,λb hb ho=>h.heap b hb (λh1=>ho (k b h1)),h.size⟩
theorem Kept.sub(h:Kept (X.at G E) w)(hs:∀y∈E',y∈E):Kept (X.at G E') w:=λy hy=>h y (hs y hy)
theorem cp.sub(h:cp (X.at G E) ρ s a w)(hs:∀y∈E',y∈E):cp (X.at G E') ρ s a w:=⟨h.sat,h.size,h.den,h.defers,h.ao,h.jN,h.kept.sub hs⟩
theorem cp.apT(h:cp (X.at G E) ρ s a w){D:Nat}{o o':Obj}(hx:(D,o)∈E)(hE:∀y∈E',(y∈E/\y.1≠D)\/y=(D,o')):cp (X.at G E') ρ s a (w.putObj D o'):=by
 have⟨hG,hle,hh⟩:=h.kept _ hx;have hs:=h.sat;have bq:D<w.heap.size:=(Array.getElem?_eq_some_iff.1 hh).1
 have st:Step ρ s.look (aW ρ s.look G) w ρ s.look (aW ρ s.look G) (w.putObj D o'):=
  ⟨λ_ _ _=>rfl,λ_ o h=>⟨o,h,λc' e' e=>⟨c',e',e,rfl,rfl⟩⟩,λ_ h=>.inl h,λb hb hO=>World.putObj_heap_other (λe=>hO (.inr (e▸hG))),by simp⟩
 have ej:∀b,Own ρ s.look b->(w.putObj D o').heap[b]? =w.heap[b]? :=λb hb=>World.putObj_heap_other (λe=>hs.apart b hb (e▸hG));refine⟨⟨λid o ho=>(hs.obj id o ho).step st (λb ha hb=>ej b ⟨id,o,ho,ha,hb⟩),hs.inj,hs.apart,λb hb=>by rw[World.putObj_size];exact hs.low b hb⟩,h.size,λt=>af.step st _ _ (h.den t),h.defers,h.ao.trans st,⟨h.jN.os,h.jN.tape,h.jN.output,λb hb hO=> ?_⟩,λy hy=> ?_⟩;rw[World.putObj_heap_other (by have:X.w.heap.size<=D:=hle;have:b<X.w.heap.size:=hb;omega)];exact h.jN.heap b hb hO;rcases hE y hy with⟨h1,h2⟩|rfl;have⟨k1,k2,k3⟩:=h.kept y h1;exact⟨k1,k2,by rw[World.putObj_heap_other h2];exact k3⟩;exact⟨hG,hle,World.putObj_heap_same bq⟩
def ra(ρ:Nat->Value)(n:Nat)(u:Value):Nat->Value:=λj=>if j=n then u else ρ j
theorem cp.grow(h:cp (X.at G E) ρ s a w)(o:Obj)(u:Value):
 cp (X.at (λb=>G b\/b=w.heap.size) ((w.heap.size,o)::E)) (ra ρ s.H.length u) ⟨s.tmps,s.H++[.ax]⟩ a (w.alloc o)/\
 Step ρ s.look (aW ρ s.look G) w (ra ρ s.H.length u) (St.look ⟨s.tmps,s.H++[.ax]⟩) (aW (ra ρ s.H.length u) (St.look ⟨s.tmps,s.H++[.ax]⟩) (λb=>G b\/b=w.heap.size)) (w.alloc o):=by
 have hs:=h.sat
 have old:∀{id:Nat} {o:ak},(s.H++[.ax])[id]? =some o->(id=s.H.length/\o=.ax)\/(id≠s.H.length/\s.look id=some o):=by
  intro id o ho;have h2:=(List.getElem?_eq_some_iff.1 ho).1;simp only[length_append,length_cons,length_nil]at h2;by_cases dt:id=s.H.length;subst dt;simp at ho;exact .inl ⟨rfl,ho.symm⟩;refine .inr ⟨dt, ?_⟩;rwa[getElem?_append_left (by omega)]at ho
 have bq:∀{id:Nat} {o:ak},s.look id=some o->id<s.H.length:=λh=>(List.getElem?_eq_some_iff.1 h).1
 have ej:∀b,Own (ra ρ s.H.length u) (St.look ⟨s.tmps,s.H++[.ax]⟩) b->Own ρ s.look b:=by
  rintro b ⟨id,o,ho,ha,hb⟩;rcases old ho with⟨_,rfl⟩|⟨h1,h2⟩;cases ha;rw[ra,if_neg h1]at hb;exact⟨id,o,h2,ha,hb⟩
 have st:Step ρ s.look (aW ρ s.look G) w (ra ρ s.H.length u) (St.look ⟨s.tmps,s.H++[.ax]⟩) (aW (ra ρ s.H.length u) (St.look ⟨s.tmps,s.H++[.ax]⟩) (λb=>G b\/b=w.heap.size)) (w.alloc o):=by
  refine⟨λid o ho=> ?_,λid o ho=> ?_,λb hb=> ?_,λb hb _=>alloc_old hb,by rw[fW];omega⟩;have:=bq ho;rw[ra,if_neg (by omega)];have h1:=bq ho;exact⟨o,by show(s.H++[.ax])[id]? =_;rw[getElem?_append_left h1];exact ho,λc' e' hc=>⟨c',e',hc,rfl,rfl⟩⟩;rcases hb with hb|hb|hb;exact .inl (.inl (ej b hb));exact .inl (.inr hb);exact .inr (by omega)
 have hle:X.w.heap.size<=w.heap.size:=h.ao.size;refine⟨?_,st⟩;refine⟨⟨λid o' ho=> ?_,λi j oi oj b hi hj ai aj bi bj=> ?_,λb hb hg=> ?_,λb hb=> ?_⟩,h.size,λt=>af.step st _ _ (h.den t),h.defers,(h.ao.trans st).src (λb hb=>hb.imp id .inl),⟨h.jN.os,h.jN.tape,h.jN.output,λb hb hO=> ?_⟩,λy hy=> ?_⟩;rcases old ho with⟨_,rfl⟩|⟨h1,h2⟩;trivial;rw[ra,if_neg h1];exact(hs.obj id o' h2).step st (λb ha hb=>alloc_old (gS hs ⟨id,o',h2,ha,hb⟩));rcases old hi with⟨_,rfl⟩|⟨h1,h2⟩;cases ai;rcases old hj with⟨_,rfl⟩|⟨h3,h4⟩;cases aj;rw[ra,if_neg h1]at bi;rw[ra,if_neg h3]at bj;exact hs.inj i j oi oj b h2 h4 ai aj bi bj;rcases hg with hg|hg;exact hs.apart b (ej b hb) hg;have:=gS hs (ej b hb);omega;rw[fW];rcases hb with hb|hb;have:=hs.low b hb;omega;omega;rw[alloc_old (show b<w.heap.size from Nat.lt_of_lt_of_le hb hle)];exact h.jN.heap b hb hO;rcases mem_cons.1 hy with rfl|hy;exact⟨.inr rfl,hle,kI⟩;have⟨k1,k2,k3⟩:=h.kept y hy;exact⟨.inl k1,k2,by rw[alloc_old (Array.getElem?_eq_some_iff.1 k3).1];exact k3⟩
theorem kx.auf{L:List ak}{tmps:List AV}{r:AV}{v:Value}(gN:∀b,X.G b->G b)(ib:∀b,G b->X.G b\/X.w.heap.size<=b)(hr:cp (X.at G E) ρ ⟨tmps,L⟩ a w)
 (hv:af ρ (λid=>L[id]?) (aW ρ (λid=>L[id]?) G) w r v) (hK:K L r):kx X K (.returned v) w:=by
 have hs:Sat ρ (λid=>L[id]?) G w:=hr.sat;have hf:Step X.ρ X.H (aW X.ρ X.H G) X.w ρ (λid=>L[id]?) (aW ρ (λid=>L[id]?) G) w:=hr.ao;have less:∀b,aW ρ (λid=>L[id]?) X.G b->aW ρ (λid=>L[id]?) G b:=λb hb=>hb.imp id (gN b);refine⟨v,rfl,L,r,hK,ρ,⟨λid o ho=> ?_,hs.inj,λb hb hg=>hs.apart b hb (gN b hg),λb hb=>hs.low b (gN b hb)⟩, ?_, ?_,hr.jN⟩
 have st:Step ρ (λid=>L[id]?) (aW ρ (λid=>L[id]?) G) w ρ (λid=>L[id]?) (aW ρ (λid=>L[id]?) X.G) w:=
  ⟨λ_ _ _=>rfl,λ_ o h=>⟨o,h,λc' e' e=>⟨c',e',e,rfl,rfl⟩⟩,λb h=>.inl (less b h),λ_ _ _=>rfl,le_refl _⟩
 exact(hs.obj id o ho).step st (λ_ _ _=>rfl)
 have st:Step ρ (λid=>L[id]?) (aW ρ (λid=>L[id]?) G) w ρ (λid=>L[id]?) (aW ρ (λid=>L[id]?) X.G) w:=
  ⟨λ_ _ _=>rfl,λ_ o h=>⟨o,h,λc' e' e=>⟨c',e',e,rfl,rfl⟩⟩,λb h=>.inl (less b h),λ_ _ _=>rfl,le_refl _⟩
 exact hv.step st;refine⟨hf.wX,hf.aBG,λb hb=> ?_,λb hb hO=>hr.jN.heap b hb (λho=>hO (.inl ho)),hf.size⟩;rcases hf.gu b (less b hb)with(h1|h1)|h1;exact .inl (.inl h1);rcases ib b h1 with h2|h2;exact .inl (.inr h2);exact .inr h2;exact .inr h1
theorem adr{fr:Frame}{cs:List Frame}{D:Nat}{Ds:List Deferred}(hm:fr.mode=.returning)(hd:fr.defers=qy D::Ds)(h:w.heap[D]? =some (.deferred (some []))):
 step P (lone fr cs w)=.next (lone {fr with defers:=Ds} cs (w.putObj D (.deferred none))):=by
 have hr:=run_takeDeferred (P:=P) h;exact step_lone_go (by simp[stepG,unwind,hm,hd,qy,Sem.runT_eq,hr,GStep.bare_after])
theorem xG:∀(Ds:List Nat) {ρ:Nat->Value} {E2:List (Nat×Obj)} {a:Act} {w:World} {fr:Frame},((Ds.map (λD=>(D,Obj.deferred (some [])))++E2).map (·.1)).Nodup->
 cp (X.at G (Ds.map (λD=>(D,Obj.deferred (some [])))++E2)) ρ s a w->fr.mode=.returning->fr.defers=Ds.map qy->
 ∃w',cp (X.at G E2) ρ s a w'/\∀cs,Steps P (lone fr cs w) (lone {fr with defers:=[]} cs w')
 |[],ρ,E2,a,w,fr,hn,hr,hm,hd=>⟨w,hr,λcs=>by
    have:fr={fr with defers:=[]}:=by cases fr;simp only[map_nil]at hd;subst hd;rfl
    rw[<-this];exact .refl _ _⟩
 |D::Ds,ρ,E2,a,w,fr,hn,hr,hm,hd=>by
  simp only[map_cons,cons_append,List.nodup_cons]at hn;have kv:(D,Obj.deferred (some []))∈((D::Ds).map (λD=>(D,Obj.deferred (some [])))++E2):=by simp
  have hh:=(hr.kept _ kv).2.2
  have eI:cp (X.at G (Ds.map (λD=>(D,Obj.deferred (some [])))++E2)) ρ s a (w.putObj D (.deferred none)):=by
   refine hr.apT kv (λy hy=>.inl ⟨by simp only[map_cons,cons_append,mem_cons];exact .inr hy,λe=>hn.1 (e▸List.mem_map_of_mem (f:=Prod.fst) hy)⟩)
  have⟨w',h1,h2⟩:=xG Ds (fr:={fr with defers:=Ds.map qy}) hn.2 eI hm rfl;exact⟨w',h1,λcs=>.head (adr hm hd hh) (h2 cs)⟩
def upE(l:Nat)(o:Obj)(E:List (Nat×Obj)):List (Nat×Obj):=E.map λx=>if x.1=l then(l,o)else x
theorem ads(l:Nat)(o:Obj)(E:List (Nat×Obj)):(upE l o E).map (·.1)=E.map (·.1):=by
 rw[upE,List.map_map];refine List.map_congr_left λx _=> ?_;simp only[Function.comp];split;rename_i h;exact h.symm;rfl
theorem sc{l:Nat}{o:Obj}{E:List (Nat×Obj)}(h:l ∉ E.map (·.1)):upE l o E=E:=by
 rw[upE,show E=E.map id from(List.map_id _).symm,List.map_map];refine List.map_congr_left λx hx=> ?_;simp only[Function.comp,id];rw[if_neg];rintro rfl;exact h (List.mem_map_of_mem hx)
theorem ahK{l:Nat}{o:Obj}{E:List (Nat×Obj)}:∀y∈upE l o E,(y∈E/\y.1≠l)\/y=(l,o):=by
 intro y hy;simp only[upE,mem_map]at hy;obtain⟨x,hx,rfl⟩:=hy;split;exact .inr rfl;rename_i cQ;exact .inl ⟨hx,cQ⟩
theorem nt(l:Nat)(o:Obj)(E F:List (Nat×Obj)):upE l o (E++F)=upE l o E++upE l o F:=map_append
theorem WfS.len{f0:FuncId}:∀{ds:List tH} {vs:List Value} {E:List (Nat×Obj)} {fs:List Frame},WfS f0 ds vs E fs->vs.length=ahz ds
 |[],vs,E,fs,h=>by rw[h.1];rfl
 |d::ds,vs,E,fs,h=>by
  obtain⟨v0,rv,v2,Ds,E1,E2,b,a,fs2,lv,lE,todo,rfl,rfl,rfl,h1,h2,h3,h4,h5⟩:=h
  have zG:rv.length=hY d.round:=by
   have⟨r,_,h6⟩:=h3.fr;cases hd:d.round<;>rw[hd]at h6<;>simp only[]at h6;rw[h6.1];rfl;obtain⟨l,rfl,_⟩:=h6;rfl
  have hlv:lv.length=hY d.lp.isSome:=by
   cases hd:d.lp<;>rw[hd]at h5<;>simp only[]at h5;rw[h5.1];rfl;obtain⟨l,D,rfl,_⟩:=h5;rfl
  simp only[length_append,length_map,ahz,tH.size,h4.len,zG,hlv,h1,h2];omega
theorem xH{l l':Nat}(h:cv l=cv l'):l=l':=by
 simp only[cv,Value.func.injEq,Fn.yield.injEq]at h;exact h.1
theorem pR{f0:FuncId}{id:Nat}{d:tH}{L:Lp}{st:mK}{cT:List AV}:∀{ds:List tH} {aQ:List AV} {vs:List Value} {E:List (Nat×Obj)} {fs:List Frame},
 lg id ds aQ=some (d,L,st,cT)->WfS f0 ds vs E fs->(E.map (·.1)).Nodup->(∀t,af ρ H O w (aQ.getD t (.s .aZ)) (vs.getD t undef))->
 ∃(l D:Nat) (v0:List Value),ρ id=cv l/\v0.length=d.n/\(l,Obj.loop (st.gx L (d.f.getD f0) v0.toArray D))∈E/\(∀t,t<d.n->af ρ H O w (cT.getD t (.s .aZ)) (v0.getD t undef))/\(aQ.length=vs.length->cT.length=d.n)/\
  ∀rG,WfS f0 (jM id rG ds aQ) vs (upE l (Obj.loop (rG.gx L (d.f.getD f0) v0.toArray D)) E) fs
 |[],aQ,vs,E,fs,h,_,_,_=>by simp[lg]at h
 |e::ds,aQ,vs,E,fs,h,hw,hn,hd=>by
  have hw0:=hw;obtain⟨v0,rv,v2,Ds,E1,E2,b,a,fs2,lv,lE,todo,rfl,rfl,rfl,h1,h2,h3,h4,h5⟩:=hw
  have zG:rv.length=hY e.round:=by
   have⟨r,_,h6⟩:=h3.fr;cases hd:e.round<;>rw[hd]at h6<;>simp only[]at h6
   ·rw[h6.1];rfl
   ·obtain⟨l,rfl,_⟩:=h6;rfl
  have hlv:lv.length=hY e.lp.isSome:=by
   cases hd:e.lp<;>rw[hd]at h5<;>simp only[]at h5
   ·rw[h5.1];rfl
   ·obtain⟨l,D,rfl,_⟩:=h5;rfl
  have awJ:∀t,af ρ H O w ((aQ.drop e.size).getD t (.s .aZ)) (v2.getD t undef):=by
   intro t;have:=hd (e.size+t);have e1:(aQ.drop e.size).getD t (.s .aZ)=aQ.getD (e.size+t) (.s .aZ):=by simp[List.getD]
   have e2:(v0++(rv++(Ds.map er++(lv++v2)))).getD (e.size+t) undef=v2.getD t undef:=by
    rw[show v0++(rv++(Ds.map er++(lv++v2)))=(v0++(rv++(Ds.map er++lv)))++v2 from by simp];rw[List.getD,getElem?_append_right (by simp only[length_append,length_map,zG,hlv,h1,h2,tH.size];omega)];rw[show e.size+t - (v0++(rv++(Ds.map er++lv))).length=t from by simp only[length_append,length_map,zG,hlv,h1,h2,tH.size];omega];rfl
   rw[e1,<-e2];exact this
  have next:(lg id ds (aQ.drop e.size)=some (d,L,st,cT))->(∀rG,jM id rG (e::ds) aQ=e::jM id rG ds (aQ.drop e.size))->
   ∃(l D:Nat) (rb:List Value),ρ id=cv l/\rb.length=d.n/\(l,Obj.loop (st.gx L (d.f.getD f0) rb.toArray D))∈(E1++(lE++E2))/\(∀t,t<d.n->af ρ H O w (cT.getD t (.s .aZ)) (rb.getD t undef))/\(aQ.length=(v0++(rv++(Ds.map er++(lv++v2)))).length->cT.length=d.n)/\
    ∀rG,WfS f0 (jM id rG (e::ds) aQ) (v0++(rv++(Ds.map er++(lv++v2)))) (upE l (Obj.loop (rG.gx L (d.f.getD f0) rb.toArray D)) (E1++(lE++E2))) (b.atR a todo::fs2):=by
   intro hf oG
   have tG:(E2.map (·.1)).Nodup:=by
    rw[map_append,map_append]at hn;exact(nodup_append.1 (nodup_append.1 hn).2.1).2.1
   have⟨l,D,rb,g1,g2,g3,g4,g5,g6⟩:=pR hf h4 tG awJ;have hl2:l∈E2.map (·.1):=List.mem_map_of_mem (f:=Prod.fst) g3
   have hl1:l ∉ (E1++lE).map (·.1):=by
    intro hm;rw[<-append_assoc,map_append]at hn;exact(nodup_append.1 hn).2.2 l hm l hl2 rfl
   rw[map_append,mem_append,not_or]at hl1;refine⟨l,D,rb,g1,g2,by simp[g3],g4,λhl=>g5 ?_,λrG=> ?_⟩
   ·rw[length_drop,hl];simp only[length_append,length_map,zG,hlv,h1,h2,tH.size];omega
   ·rw[oG,nt,nt,sc hl1.1,sc hl1.2];exact⟨v0,rv,v2,Ds,E1,_,b,a,fs2,lv,lE,todo,rfl,rfl,rfl,h1,h2,h3,g6 rG,h5⟩
  unfold lg at h;split at h
  ·rename_i L' st0 hlp;rw[hlp]at h5;obtain⟨l,D,rfl,rfl,rfl⟩:=h5;split at h
   ·rename_i j hj;rw[cond_eq_ite]at h;split at h
    ·rename_i alY;have alY:j=id:=Nat.eq_of_beq_eq_true alY;subst alY;simp only[Option.some.injEq,Prod.mk.injEq]at h;obtain⟨rfl,rfl,rfl,rfl⟩:=h
     have kZ:(v0++(rv++(Ds.map er++([cv l]++v2)))).getD (e.n+hY e.round+e.marks) undef=cv l:=by
      rw[show v0++(rv++(Ds.map er++([cv l]++v2)))=(v0++(rv++Ds.map er))++(cv l::v2)from by simp];rw[List.getD,getElem?_append_right (by simp only[length_append,length_map,zG,h1,h2];omega)];rw[show e.n+hY e.round+e.marks - (v0++(rv++Ds.map er)).length=0 from by simp only[length_append,length_map,zG,h1,h2];omega];rfl
     have lQ:=hd (e.n+hY e.round+e.marks);rw[hj,kZ]at lQ;unfold af aO at lQ;refine⟨l,D,v0,lQ.1.symm,h1,by simp,λt ht=> ?_,λhl=> ?_,λrG=> ?_⟩
     ·have:=hd t;have e1:(aQ.take e.n).getD t (.s .aZ)=aQ.getD t (.s .aZ):=by simp[List.getD,getElem?_take,ht]
      have e2:(v0++(rv++(Ds.map er++([cv l]++v2)))).getD t undef=v0.getD t undef:=by
       rw[List.getD,getElem?_append_left (by omega)];rfl
      rw[e1,<-e2];exact this
     ·rw[length_take,hl];simp only[length_append,h1];omega
     ·have hs:jM j rG (e::ds) aQ={e with lp:=some (L',rG)}::ds:=by
       unfold jM;rw[hlp];simp only[hj,Nat.beq_eq_true_eq,cond_eq_ite,show Nat.beq j j=true from Nat.beq_refl j,if_true]
      rw[hs]
      have hl1:l ∉ E1.map (·.1):=by
       intro hm;rw[map_append]at hn;exact(nodup_append.1 hn).2.2 l hm l (by simp) rfl
      have hl2:l ∉ E2.map (·.1):=by
       intro hm;rw[map_append,map_append]at hn;exact(nodup_append.1 (nodup_append.1 hn).2.1).2.2 l (by simp) l hm rfl
      rw[nt,nt,sc hl1,sc hl2,show upE l (Obj.loop (rG.gx L' (e.f.getD f0) v0.toArray D)) [(l,Obj.loop (st0.gx L' (e.f.getD f0) v0.toArray D))]=[(l,Obj.loop (rG.gx L' (e.f.getD f0) v0.toArray D))]from by simp[upE]];exact⟨v0,rv,v2,Ds,E1,E2,b,a,fs2,_,_,_,rfl,rfl,rfl,h1,h2,h3,h4,⟨l,D,rfl,rfl,rfl⟩⟩
    ·rename_i alY;refine next h (λrG=> ?_)
     rw[show jM id rG (e::ds) aQ=_ from by unfold jM;rw[hlp]];simp only[hj,cond_eq_ite,if_neg alY]
   ·rename_i hj;refine next h (λrG=> ?_)
    rw[jM,hlp]
    all_goals (try simp only[])
    all_goals (split<;>first|(rename_i j' ku;exact absurd ku (hj j'))|rfl)
  ·rename_i hlp;refine next h (λrG=> ?_)
   rw[show jM id rG (e::ds) aQ=_ from by unfold jM;rw[hlp]]
end
section
variable{ρ aN:Nat->Value}{H H':aT}{G G' O O' O2:Nat->Prop}{w w':World}{P:Program}{S:fI}{Z:bm}{X:Ctx}{s:St}{a:Act}{K:List ak->AV->Prop}{C:bP->Prop}{ops:Array Oper}{E E':List (Nat×Obj)}
structure DP (ρ:Nat->Value) (H:aT) (O:Nat->Prop) (w:World) (T:List AV) (vs:List Value):Prop where
 len:T.length=vs.length
 get:∀t,af ρ H O w (T.getD t (.s .aZ)) (vs.getD t undef)
theorem adt(x:Array Value)(t:Nat):x.getD t undef=x.toList.getD t undef:=by
 rw[getD_eq_getD_getElem?,List.getD,Array.getElem?_toList]
theorem cp.dp(h:cp X ρ s a w):DP ρ s.look (aW ρ s.look X.G) w s.tmps a.tmps.toList:=
 ⟨by rw[h.size];simp,λt=>by rw[<-adt];exact h.den t⟩
theorem cp.cT(h:cp X ρ s a w){T:List AV}{vs:List Value}(hd:DP ρ s.look (aW ρ s.look X.G) w T vs):cp X ρ ⟨T,s.H⟩ ⟨vs.toArray,[]⟩ w:=
 ⟨h.sat,by simpa using hd.len,λt=>by rw[adt];exact hd.get t,rfl,h.ao,h.jN,h.kept⟩
theorem DP.step{T:List AV}{vs:List Value}(h:DP ρ H O w T vs)(st:Step ρ H O w aN H' O' w'):DP aN H' O' w' T vs:=⟨h.len,λt=>(h.get t).step st⟩
theorem DP.nil:DP ρ H O w [] []:=⟨rfl,λt=>by simp only[List.getD_nil];unfold af;trivial⟩
theorem DP.cons{x:AV}{v:Value}{T:List AV}{vs:List Value}(hx:af ρ H O w x v)(h:DP ρ H O w T vs):DP ρ H O w (x::T) (v::vs):=
 ⟨by simp[h.len],λt=>by
   cases t with
   |zero=>simpa using hx|succ t=>simpa using h.get t⟩
theorem DP.append{T T':List AV}{vs vs':List Value}(h:DP ρ H O w T vs)(h':DP ρ H O w T' vs'):DP ρ H O w (T++T') (vs++vs'):=by
 refine⟨by simp[h.len,h'.len],λt=> ?_⟩;by_cases ht:t<T.length;have:=h.get t;simp only[List.getD]at this ⊢;rwa[getElem?_append_left ht,getElem?_append_left (h.len▸ht)];have:=h'.get (t - T.length);simp only[List.getD]at this ⊢;rwa[getElem?_append_right (by omega),getElem?_append_right (by have:=h.len;omega),<-h.len]
theorem DP.drop{T:List AV}{vs:List Value}(h:DP ρ H O w T vs)(n:Nat):DP ρ H O w (T.drop n) (vs.drop n):=
 ⟨by simp[h.len],λt=>by have:=h.get (n+t);simpa[List.getD]using this⟩
theorem DP.take{T:List AV}{vs:List Value}(h:DP ρ H O w T vs)(n:Nat):DP ρ H O w (T.take n) (vs.take n):=by
 refine⟨by simp[h.len],λt=> ?_⟩;have:=h.get t;simp only[List.getD,getElem?_take]at this ⊢;split;exact this;unfold af;trivial
theorem DP.set{T:List AV}{vs:List Value}(h:DP ρ H O w T vs)(d:Nat){x:AV}{v:Value}(hx:af ρ H O w x v):DP ρ H O w (T.set d x) (vs.set d v):=by
 refine⟨by simp[h.len],λt=> ?_⟩;rw[cZ,cZ,h.len];split;exact hx;exact h.get t
theorem DP.aug(n:Nat):DP ρ H O w (replicate n (.bt [])) (replicate n undef):=by
 induction n with
 |zero=>exact DP.nil|succ n ih=>exact DP.cons cC ih
theorem DP.ofL:∀{aQ:List AV} {vs:List Value},bM ρ H O w aQ vs->DP ρ H O w aQ vs
 |[],vs,h=>by rw[ba.1 h];exact DP.nil
 |x::aQ,vs,h=>by
  obtain⟨v,rest,rfl,h1,h2⟩:=aE.1 h;exact DP.cons h1 (DP.ofL h2)
theorem DP.split{T1 T2:List AV}{v1 v2:List Value}(h:DP ρ H O w (T1++T2) (v1++v2))(hl:T1.length=v1.length):DP ρ H O w T1 v1/\DP ρ H O w T2 v2:=by
 have h1:=h.take T1.length;have h2:=h.drop T1.length;rw[List.take_left' rfl,hl,List.take_left' rfl]at h1;rw[List.drop_left' rfl,hl,List.drop_left' rfl]at h2;exact⟨h1,h2⟩
theorem DP.mj:∀(ps:List Tmp) {args:List AV} {us:List Value} {T:List AV} {vs:List Value},DP ρ H O w T vs->bM ρ H O w args us->DP ρ H O w (mj T ps args) (mj vs ps us)
 |[],args,us,T,vs,h,_=>h|p::ps,[],us,T,vs,h,hl=>by rw[ba.1 hl];exact h
 |p::ps,x::args,us,T,vs,h,hl=>by
  obtain⟨u,rest,rfl,h1,h2⟩:=aE.1 hl;exact DP.mj ps (h.set p h1) h2
theorem age:∀(ps:List Tmp) (us:List Value) (vs:List Value),(ps.toArray.zip us.toArray).foldl (λ(tmps:Array Value) (x:Tmp×Value)=>tmps.setIfInBounds x.1 x.2) vs.toArray=(mj vs ps us).toArray:=by
 intro ps us vs;rw[<-Array.foldl_toList];simp only[Array.toList_zip]
 have:∀(l:List (Tmp×Value)) (vs:List Value),l.foldl (λ(tmps:Array Value) (x:Tmp×Value)=>tmps.setIfInBounds x.1 x.2) vs.toArray=(l.foldl (λt x=>t.set x.1 x.2) vs).toArray:=by
  intro l
  induction l with
  |nil=>intro vs;rfl
  |cons x l ih=>intro vs;simp only[List.foldl_cons,List.setIfInBounds_toArray];exact ih _
 exact this _ _
theorem apU{o:Oper}{ev:Operand->AV}{e:Operand->Value}{g:AV}{args:List AV}(h:r7 o ev=some (g,args))(hd:∀x∈o.op.operands,af ρ H O w (ev x) (e x)):
 ∃(vf:Value) (us:List Value),af ρ H O w g vf/\bM ρ H O w args us/\
  (∀f vs,vf=.func (.func f) #[] vs.toArray->jE P f=true->(execOp e o).run P w=.ok (.enter f (us++vs).toArray) w)/\
  (∀l,vf=cv l->∀r,w.heap[l]? =some (.loop r)->us.length=r.params.size->(execOp e o).run P w=.ok (.round l r.fn ((r.params.zip us.toArray).foldl (λtmps (t,a)=>tmps.setIfInBounds t a) r.tmps) r.assign r.body) w):=by
 unfold r7 at h;split at h;rename_i c ho;split at h;rename_i f hc;simp only[Option.some.injEq,Prod.mk.injEq]at h;obtain⟨rfl,rfl⟩:=h;have hf:=mA (hd f (by simp[ho,Op.operands,Call.operands,hc]));have hl:=oO c.args.toList (ev:=λx=>qu (ev x)) (e:=e) (λx hx=>mA (hd x (by simp[ho,Op.operands,Call.operands,hc,Array.mem_toList_iff.1 hx])));have e1:(c.args.toList.map e).toArray=c.args.map e:=by apply toList_inj.1;simp
 refine⟨e f,c.args.toList.map e,hf,hl,λg vs hv gE=> ?_,λl hv r hr hs=> ?_⟩;have e2:(c.args.toList.map e++vs).toArray=c.args.map e++vs.toArray:=by apply toList_inj.1;simp
 rw[e2];simp[execOp,ho,resolve,hc,hv,Deferred.ofValue,invoke,iG gE];rw[e1];have hy:=run_yield (P:=P) (args:=c.args.map e) hr (by rw[<-hs];simp);simp only[cv]at hv;simp[execOp,ho,resolve,hc,hv,Deferred.ofValue,invoke,hy];cases h;cases h
def fF(P:Program)(f:FuncId)(R:Ending->World->Prop)(top:Frame)(fs:List Frame)(w:World):Prop:=
 ∀cs,∃e w' fr,R e w'/\Comes P (lone top (fs++cs) w) (lone fr cs w') e/\fr.fn=f/\fr.leaving P w' e
theorem fF.steps{f:FuncId}{R:Ending->World->Prop}{top awK:Frame}{fs rH:List Frame}(hs:∀cs,Steps P (lone top (fs++cs) w) (lone awK (rH++cs) w'))(h:fF P f R awK rH w'):fF P f R top fs w:=by
 intro cs;have⟨e,w2,fr,h1,h2,h3⟩:=h cs;exact⟨e,w2,fr,h1,Comes.of_steps (hs cs) h2,h3⟩
theorem vC{f0 f:FuncId}{c:bP}{args:List AV}{us:List Value}{wait:tH}{go:bP->Tree}{fs:List Frame}(h:(oS P c f args wait go).Holds K C)(oY:∀c',(go c').Holds K C->Safe P f0 X K c')
 (gN:∀b,X.G b->G b) (ib:∀b,G b->X.G b\/X.w.heap.size<=b) (hr:cp (X.at G E) ρ ⟨c.tmps,c.H⟩ a w) (hl:bM ρ (St.look ⟨c.tmps,c.H⟩) (aW ρ (St.look ⟨c.tmps,c.H⟩) G) w args us) (hn:(E.map (·.1)).Nodup)
 (hw:WfS f0 (wait::c.stk.below) a.tmps.toList E fs):jE P f=true/\fF P f0 (kx X K) (Frame.enter P f us.toArray .normal) fs w:=by
 unfold oS at h;split at h;rename_i g hg;rw[cond_eq_ite]at h;split at h;rename_i hb;simp only[and_eq_true]at hb;have⟨gE,bC⟩:=hb;refine⟨gE, ?_⟩;have bC:args.length<=g.ntmps:=le_of_ble_eq_true bC;have hul:us.length=args.length:=(DP.ofL hl).len.symm
 have hb:g.body.isSome=true:=by
  unfold jE at gE;rw[hg]at gE;simp only[and_eq_true]at gE;exact gE.1
 have⟨cd,hcd⟩:=isSome_iff_exists.1 hb;have eI:=hr.cT (((DP.ofL hl).append (DP.aug (g.ntmps - args.length))).append hr.dp);have key:=oY _ h G E ρ _ w gN ib eI {(default:Frame)with fn:=f,kind:=.normal,roundOf:=none} {tmps:=(us++replicate (g.ntmps - args.length) undef).toArray,defers:=[]} fs
  ⟨hn,us++replicate (g.ntmps - args.length) undef,[],a.tmps.toList,[],[],E,by simp,rfl,rfl,⟨⟨none,rfl,rfl,rfl⟩,rfl,rfl⟩,hw⟩
 have fY:Frame.enter P f us.toArray .normal=Frame.atR {(default:Frame)with fn:=f,kind:=.normal,roundOf:=none} {tmps:=(us++replicate (g.ntmps - args.length) undef).toArray,defers:=[]} [.code (g.body.getD .skip)]:=by
  simp[Frame.enter,Frame.atR,hg,hcd,hul]
 rw[fY];exact key;exact h.elim;exact h.elim
theorem adu{f0:FuncId}{c:bP}{id:Nat}{args:List AV}{us:List Value}{wait:tH}{go:bP->Tree}{fs:List Frame}{E0 E1:List (Nat×Obj)}{vs1:List Value}{fs1:List Frame}{v:Value}(h:(abL c id args wait go).Holds K C)(oY:∀c',(go c').Holds K C->Safe P f0 X K c')
 (gN:∀b,X.G b->G b) (ib:∀b,G b->X.G b\/X.w.heap.size<=b) (hr:cp (X.at G E) ρ ⟨c.tmps,c.H⟩ a w) (hl:bM ρ (St.look ⟨c.tmps,c.H⟩) (aW ρ (St.look ⟨c.tmps,c.H⟩) G) w args us) (hn:(E.map (·.1)).Nodup)
 (hw:WfS f0 (wait::c.stk.below) a.tmps.toList E fs) (hE:E=E0++E1) (hvs:a.tmps.toList.drop (c.n+c.stk.extra)=vs1) (hb:WfS f0 c.stk.below vs1 E1 fs1) (awL:af ρ (St.look ⟨c.tmps,c.H⟩) (aW ρ (St.look ⟨c.tmps,c.H⟩) G) w (.tag id) v):
 ∃l r,v=cv l/\w.heap[l]? =some (.loop r)/\us.length=r.params.size/\
  fF P f0 (kx X K) (Frame.round l r.fn ((r.params.zip us.toArray).foldl (λtmps (t,a)=>tmps.setIfInBounds t a) r.tmps) r.assign r.body .normal) fs w:=by
 unfold abL at h;split at h;rename_i d L st cT hf;rw[cond_eq_ite]at h;split at h;rename_i hb1;simp only[and_eq_true]at hb1;have bC:args.length=L.ps.length:=Nat.eq_of_beq_eq_true hb1.1
 have hn1:(E1.map (·.1)).Nodup:=by
  rw[hE,map_append]at hn;exact(nodup_append.1 hn).2.1
 have hdp:=hr.dp.drop (c.n+c.stk.extra);rw[hvs]at hdp;have⟨l,D,v0,g1,g2,g3,g4,g5,g6⟩:=pR hf hb hn1 hdp.get;have lQ:=awL;unfold af aO at lQ;have awM:cT.length=d.n:=g5 hdp.len;have kv:(l,Obj.loop (st.gx L (d.f.getD f0) v0.toArray D))∈E:=by rw[hE];exact mem_append_right _ g3
 have iF:=(hr.kept _ kv).2.2;have hul:us.length=args.length:=(DP.ofL hl).len.symm;refine⟨l,st.gx L (d.f.getD f0) v0.toArray D,lQ.1.trans g1,iF,by rw[hul,bC];simp[mK.gx], ?_⟩
 have hsl:DP ρ (St.look ⟨c.tmps,c.H⟩) (aW ρ (St.look ⟨c.tmps,c.H⟩) G) w cT v0:=⟨by rw[awM,g2],λt=>by
  by_cases ht:t<d.n;exact g4 t ht;have e1:cT.getD t (.s .aZ)=.s .aZ:=by rw[List.getD,getElem?_eq_none (by omega)];rfl
  rw[e1];unfold af;trivial⟩
 have eI:=hr.cT ((hsl.mj L.ps hl).append (DP.cons awL hr.dp));have hv:v=cv l:=lQ.1.trans g1;have key:=oY _ h G E ρ _ w gN ib eI {(default:Frame)with fn:=d.f.getD f0,kind:=.normal,roundOf:=some l} {tmps:=(mj v0 L.ps us).toArray,defers:=[]} fs
  ⟨hn,mj v0 L.ps us,[v],a.tmps.toList,[],[],E,by simp,rfl,rfl,⟨⟨some l,rfl,l,by rw[hv],rfl⟩,rfl,rfl⟩,hw⟩
 have eu:Frame.round l (st.gx L (d.f.getD f0) v0.toArray D).fn (((st.gx L (d.f.getD f0) v0.toArray D).params.zip us.toArray).foldl (λtmps (t,a)=>tmps.setIfInBounds t a) (st.gx L (d.f.getD f0) v0.toArray D).tmps) (st.gx L (d.f.getD f0) v0.toArray D).assign (st.gx L (d.f.getD f0) v0.toArray D).body .normal
  =Frame.atR {(default:Frame)with fn:=d.f.getD f0,kind:=.normal,roundOf:=some l} {tmps:=(mj v0 L.ps us).toArray,defers:=[]} [.code L.asg,.beginRound,.code L.body]:=by
  have:=age L.ps us v0;simp only[mK.gx,Frame.round,Frame.atR];rw[<-this]
 rw[eu];exact key;exact h.elim;exact h.elim
end
section
variable{ρ aN:Nat->Value}{H H':aT}{G O O':Nat->Prop}{w w':World}{P:Program}{S:fI}{Z:bm}{X:Ctx}{s:St}{a:Act}{K:List ak->AV->Prop}{C:bP->Prop}
theorem adv{t:TypeId}{va v:Value}{w':World}(h:(Instr.loadAt t va).run P w=.ok v w'):(do loadVar t (<-asAddr va):Sem Value).run P w=.ok v w':=by
 cases va with
 |pointer o=>
  cases o with
  |none=>simp[Instr.loadAt,Instr.sureAddr]at h|some x=>simpa[Instr.loadAt,Instr.sureAddr,asAddr]using h
 |_=>simp[Instr.loadAt,Instr.sureAddr]at h
theorem o9(h:cp X ρ s a w):∀(rs:List ResultVar) {vs:List AV},gF P s rs=some vs->
 ∃us:List Value,(rs.mapM (m:=Sem) λ|.tmp t=>pure (a.tmps.getD t undef)|.cell x t=>do loadVar t (<-asAddr (a.tmps.getD x undef))).run P w=.ok us w/\bM ρ s.look (aW ρ s.look X.G) w vs us
 |[],vs,hv=>by
  simp only[gF,Option.some.injEq]at hv;subst hv;exact⟨[],by simp,ba.2 rfl⟩
 |.tmp t::rs,vs,hv=>by
  simp only[gF,map_eq_some_iff]at hv;obtain⟨vs',h1,rfl⟩:=hv;have⟨us,h2,h3⟩:=o9 h rs h1;refine⟨a.tmps.getD t undef::us, ?_,aE.2 ⟨_,_,rfl,h.den t,h3⟩⟩;simp only[List.mapM_cons,Sem.run_bind,Sem.run_pure,Result.andThen_ok,h2]
 |.cell t T::rs,vs,hv=>by
  simp only[gF]at hv;split at hv;rename_i r vs' hr hrs;split at hv;rename_i e1 e2 e3;simp only[Option.some.injEq]at hv;subst hv;have⟨us,h2,h3⟩:=o9 h rs hrs;have⟨_,_,v,h4,h5⟩:=acW hr (by rw[e1];trivial) h.sat (h.den t);refine⟨v::us, ?_,aE.2 ⟨_,_,rfl,h5 0,h3⟩⟩;have h6:=adv h4;simp only[List.mapM_cons];rw[Sem.run_bind,h6];simp only[Result.andThen_ok,Sem.run_bind,h2,Sem.run_pure];cases hv;cases hv
theorem agf{fn:Func}(h:cp X ρ s a w){vs:List AV}(hv:gF P s fn.results.toList=some vs):∃v,(results fn a.tmps).run P w=.ok v w/\af ρ s.look (aW ρ s.look X.G) w (oneOf vs) v:=by
 have⟨us,h1,h2⟩:=o9 h _ hv
 have key:(results fn a.tmps).run P w=.ok (if h:us.toArray.size=1 then us.toArray[0]else .tuple us.toArray) w:=by
  unfold results;rw[Array.mapM_eq_mapM_toList];simp only[Sem.run_bind,Sem.run_map];erw [h1];rfl
 refine⟨_,key, ?_⟩;unfold oneOf;split;rename_i x;obtain⟨v,rest,rfl,h3,h4⟩:=aE.1 h2;obtain rfl:=ba.1 h4;simpa using h3;rename_i cQ
 have:¬us.toArray.size=1:=by
  intro h0;cases us with
  |nil=>simp at h0|cons u us=>
   cases us with
   |nil=>
    cases vs with
    |nil=>have:=ba.1 h2;cases this
    |cons y ys=>
     have⟨v,rest,e,h3,h4⟩:=aE.1 h2;cases e;cases ys with
     |nil=>exact cQ y rfl|cons z zs=>
      have⟨v',awN,e',_⟩:=aE.1 h4;cases e'
   |cons _ _=>simp at h0
 rw[dif_neg this];unfold af;exact⟨us,rfl,h2⟩
end
section
variable{ρ aN:Nat->Value}{H H':aT}{G G' O O' O2:Nat->Prop}{w w':World}{P:Program}{S:fI}{Z:bm}{X:Ctx}{s:St}{a:Act}{K:List ak->AV->Prop}{C:bP->Prop}{ops:Array Oper}{E E':List (Nat×Obj)}
theorem agh{T:List AV}{vs:List Value}(h:DP ρ H O w T vs)(dst:Option Tmp){x:AV}{v:Value}(hx:af ρ H O w x v):DP ρ H O w (cX T dst x) (match dst with|some d=>vs.set d v|none=>vs):=by
 cases dst with
 |none=>exact h|some d=>exact h.set d hx
theorem vD{f0:FuncId}{c:bP}{v:AV}{u:Value}{below:List tH}{go:bP->Tree}{vs1:List Value}{fs:List Frame}(h:(resume c v below go).Holds K C)(oY:∀c',(go c').Holds K C->Safe P f0 X K c')
 (gN:∀b,X.G b->G b) (ib:∀b,G b->X.G b\/X.w.heap.size<=b) (hr:cp (X.at G E) ρ ⟨c.tmps,c.H⟩ a w) (hvs:a.tmps.toList.drop (c.n+c.stk.extra)=vs1) (hb:WfS f0 below vs1 E fs) (hn:(E.map (·.1)).Nodup)
 (hv:af ρ (St.look ⟨c.tmps,c.H⟩) (aW ρ (St.look ⟨c.tmps,c.H⟩) G) w v u):∃fr fs1,fs=fr::fs1/\fF P f0 (kx X K) (fr.finish u) fs1 w:=by
 unfold resume at h;split at h;rename_i d ds;simp only[]at h;split at h;rename_i ops i rest td hlp od;simp only[cond_eq_ite]at h;split at h;rename_i lP;have⟨v0,rv,v2,Ds,E1,E2,b,t,fs2,lv,lE,todo,e1,e2,e3,h1,h2,h3,h4,h5⟩:=hb;rw[hlp]at h5;obtain⟨rfl,rfl,rfl⟩:=h5;rw[od]at e3;refine⟨_,_,e3, ?_⟩;rw[Frame.finish_atR];have hdp:=agh (hr.dp.drop (c.n+c.stk.extra)) ((ops[i]?).bind (·.dst)) hv;have eI:=hr.cT hdp
 have hdn:∀d',(ops[i]?).bind (·.dst)=some d'->d'<v0.length:=λd' hd=>by
  rw[hd]at lP;rw[h1];simpa[Nat.blt,Nat.lt_iff_add_one_le]using lP
 refine oY _ h G E ρ _ w gN ib eI b (t.put ((ops[i]?).bind (·.dst)) u) fs2 ⟨hn,match(ops[i]?).bind (·.dst)with|some d'=>v0.set d' u|none=>v0,rv,v2,Ds,E1,E2, ?_,by rw[e2];rfl,h2,⟨h3.fr, ?_,h3.ghost⟩,h4⟩;rw[hvs,e1];cases hd:(ops[i]?).bind (·.dst)with
 |none=>simp|some d'=>
  simp only[List.toList_toArray];rw[List.set_append_left _ _ (hdn d' hd)];simp
 rw[h3.act];cases hd:(ops[i]?).bind (·.dst)with
 |none=>rfl|some d'=>simp[Act.put]
 exact h.elim;exact h.elim;exact h.elim
theorem pS{f0:FuncId}{c:bP}{vs:List Value}{v0 rv v2:List Value}{Ds:List Nat}{E1 E2:List (Nat×Obj)}{b:Frame}{t:Act}{fs:List Frame}(hl:c.tmps.length=vs.length)(e:vs=v0++(rv++(Ds.map er++v2)))(hd:Ds.length=c.stk.marks)
 (h3:alR f0 c.stk.round v0 rv Ds E1 b t) {f1:FuncId} (h4:WfS f1 c.stk.below v2 E2 fs):v0.length=c.n/\rv.length=hY c.stk.round/\vs.drop (c.n+c.stk.extra)=v2:=by
 have zG:rv.length=hY c.stk.round:=by
  have⟨r,_,h6⟩:=h3.fr;cases hd:c.stk.round<;>rw[hd]at h6<;>simp only[]at h6;rw[h6.1];rfl;obtain⟨l,rfl,_⟩:=h6;rfl
 have h0:v0.length=c.n:=by
  unfold bP.n;rw[hl,e];simp only[length_append,length_map,zG,hd,h4.len,um.extra];omega
 refine⟨h0,zG, ?_⟩;rw[e,show v0++(rv++(Ds.map er++v2))=(v0++(rv++Ds.map er))++v2 from by simp];exact List.drop_left' (by simp only[length_append,length_map,zG,hd,h0,um.extra])
theorem agi{f0:FuncId}{c:bP}{fn g:Func}{vs:List AV}{go:bP->Tree}{b:Frame}{t:Act}{fs:List Frame}{todo:List Item}(hf:P.funcs[f0]? =some fn)(hg:c.stk.fn P fn=some g)(eu:c.stk.round=false)
 (af9:gF P ⟨c.tmps.take c.n,c.H⟩ g.results.toList=some vs) (h:(ahD c (oneOf vs) go).Holds K C) (oY:∀c',(go c').Holds K C->Safe P f0 X K c')
 (gN:∀b,X.G b->G b) (ib:∀b,G b->X.G b\/X.w.heap.size<=b) (hr:cp (X.at G E) ρ ⟨c.tmps,c.H⟩ a w) (hw:Wf f0 c.stk a.tmps.toList E b t fs):
 fF P f0 (kx X K) {b.atR t todo with mode:=.returning} fs w:=by
 obtain⟨hn,v0,rv,v2,Ds,E1,E2,e1,rfl,hd,h3,h4⟩:=hw;have⟨l0,l1,l2⟩:=pS hr.dp.len e1 hd h3 h4;have hgE:=h3.ghost;subst hgE;have hb:=h3.fr;rw[eu]at hb;obtain⟨r,rfl,zG,hrr⟩:=hb;subst zG hrr;have auh:=h3.act;subst auh;have⟨w',eI,np⟩:=xG (P:=P) Ds (fr:={Frame.atR {(default:Frame)with fn:=c.stk.f.getD f0,kind:=.normal,roundOf:=none} {tmps:=v0.toArray,defers:=Ds.map qy} todo with mode:=.returning}) hn hr rfl rfl
 have tG:(E2.map (·.1)).Nodup:=by
  rw[map_append]at hn;exact(nodup_append.1 hn).2.1
 have re:DP ρ (St.look ⟨c.tmps,c.H⟩) (aW ρ (St.look ⟨c.tmps,c.H⟩) G) w' (c.tmps.take c.n) v0:=by
  have:=eI.dp.take c.n;rw[e1,List.take_left' l0]at this;exact this
 have hrt:=eI.cT re;have⟨u,jh,lQ⟩:=agf (fn:=g) hrt af9
 have hfn:P.funcs[c.stk.f.getD f0]? =some g:=by
  unfold um.fn at hg;split at hg;rename_i h0;rw[h0];cases hg;exact hf;rename_i g' h0;rw[h0];exact hg
 let fr:Frame:={Frame.atR {(default:Frame)with fn:=c.stk.f.getD f0,kind:=.normal,roundOf:=none} {tmps:=v0.toArray,defers:=Ds.map qy} todo with mode:=.returning,defers:=[]};have q9:fr.leaving P w' (.returned u):=⟨rfl,rfl,rfl,g,hfn,jh⟩;refine fF.steps (λcs=>np (fs++cs)) ?_;show fF P f0 (kx X K) fr fs w';have apV:a.tmps.toList.drop (c.n+c.stk.extra)=v2:=l2;unfold ahD at h;split at h;rename_i aui;rw[aui]at h4;obtain⟨_,_,rfl⟩:=h4;intro cs;rw[cond_eq_ite]at h;split at h;rename_i hk;refine⟨.returned u,w',fr,kx.auf gN ib eI lQ h,Steps.refl _ _, ?_,q9⟩;show c.stk.f.getD f0=f0;rw[Option.isNone_iff_eq_none.1 hk];rfl;exact h.elim;rename_i d ds aui;split at h;rename_i hlp;obtain⟨fr1,fs1,rfl,key⟩:=vD h oY gN ib eI apV h4 tG lQ;exact fF.steps (λcs=>.one (step_leave_returned q9)) key;exact h.elim;rename_i L st azz hlp;rw[aui]at h4;have⟨rb,rv',v2',Ds',E1',E2',b',t',fs2,lv,lE,aBs,e1',e2',e3',h1',h2',h3',h4',h5'⟩:=h4;rw[hlp]at h5';obtain⟨l,D,rfl,rfl,rfl⟩:=h5';subst e3' e2';have kv:(l,Obj.loop (st.gx L (d.f.getD f0) rb.toArray D))∈(E1'++([(l,Obj.loop (st.gx L (d.f.getD f0) rb.toArray D))]++E2')):=by simp
 have iF:=(eI.kept _ kv).2.2
 have hnb:(st.gx L (d.f.getD f0) rb.toArray D).state≠.busy:=by
  unfold mK.gx;cases st with
  |busy=>exact absurd rfl (azz)|ready=>simp|done c=>simp
 have apW:=run_endLoop (P:=P) iF hnb
 have hl1:l ∉ E1'.map (·.1):=by
  intro hm;rw[map_append]at tG;exact(nodup_append.1 tG).2.2 l hm l (by simp) rfl
 have hl2:l ∉ E2'.map (·.1):=by
  intro hm;rw[map_append,map_append]at tG;exact(nodup_append.1 (nodup_append.1 tG).2.1).2.2 l (by simp) l hm rfl
 have zH:cp (X.at G (E1'++E2')) ρ ⟨c.tmps,c.H⟩ a (w'.putObj l (.loop {st.gx L (d.f.getD f0) rb.toArray D with state:=.exhausted})):=
  eI.apT kv (λy hy=>.inl (by
   rcases mem_append.1 hy with h6|h6;exact⟨by simp[h6],λe=>hl1 (e▸List.mem_map_of_mem (f:=Prod.fst) h6)⟩;exact⟨by simp[h6],λe=>hl2 (e▸List.mem_map_of_mem (f:=Prod.fst) h6)⟩))
 have hn3:((E1'++E2').map (·.1)).Nodup:=by
  rw[map_append,map_append]at tG;rw[map_append];have⟨n1,n2,n3⟩:=nodup_append.1 tG;exact nodup_append.2 ⟨n1,(nodup_append.1 n2).2.1,λx hx y hy=>n3 x hx y (mem_append_right _ hy)⟩
 have hdp:DP ρ (St.look ⟨c.tmps,c.H⟩) (aW ρ (St.look ⟨c.tmps,c.H⟩) G) (w'.putObj l (.loop {st.gx L (d.f.getD f0) rb.toArray D with state:=.exhausted}))
  ((c.tmps.drop (c.n+c.stk.extra)).take (d.n+hY d.round+d.marks)++(c.tmps.drop (c.n+c.stk.extra)).drop (d.n+hY d.round+d.marks+1)) (rb++(rv'++(Ds'.map er++v2'))):=by
  have awO:rv'.length=hY d.round:=by
   have⟨r,_,h6⟩:=h3'.fr;cases hd:d.round<;>rw[hd]at h6<;>simp only[]at h6;rw[h6.1];rfl;obtain⟨l,rfl,_⟩:=h6;rfl
  have h6:=zH.dp.drop (c.n+c.stk.extra);rw[apV,e1']at h6;have h7:=(h6.take (d.n+hY d.round+d.marks)).append (h6.drop (d.n+hY d.round+d.marks+1));rw[show rb++(rv'++(Ds'.map er++([cv l]++v2')))=(rb++(rv'++Ds'.map er))++([cv l]++v2')from by simp]at h7
  rw[List.take_left' (by simp only[length_append,length_map,awO,h1',h2'];omega),show(rb++(rv'++Ds'.map er))++([cv l]++v2')=((rb++(rv'++Ds'.map er))++[cv l])++v2' from by simp,
   List.drop_left' (by simp only[length_append,length_map,awO,h1',h2',length_cons,length_nil];omega)]at h7
  rw[append_assoc,append_assoc]at h7;exact h7
 have hr3:=zH.cT hdp;have key:=oY _ h G (E1'++E2') ρ _ _ gN ib hr3 b' t' fs2 ⟨hn3,rb,rv',v2',Ds',E1',E2',by simp,rfl,h2',h3',h4'⟩;refine fF.steps (λcs=>.head (step_leave_returned q9) ?_) key;rw[finish_atR_inRangeFunc];refine .one ?_;have:=stepR_endRangeFunc (P:=P) (b:=b') (a:=t') (k:=d.todo) (cs:=fs2++cs) apW;rw[List.append_eq];rw[this];cases st<;>rfl
theorem rf{f0:FuncId}{c:bP}{jump:Option Code}{go:bP->Tree}{b:Frame}{t:Act}{fs:List Frame}{todo:List Item}(eu:c.stk.round=true)
 (h:(adm c jump go).Holds K C) (oY:∀c',(go c').Holds K C->Safe P f0 X K c')
 (gN:∀b,X.G b->G b) (ib:∀b,G b->X.G b\/X.w.heap.size<=b) (hr:cp (X.at G E) ρ ⟨c.tmps,c.H⟩ a w) (hw:Wf f0 c.stk a.tmps.toList E b t fs)
 (awP:∀(l:Nat) (w':World) (c0:Frame) (cs:List Frame),b.roundOf=some l->b.kind=.normal->(Instr.endRound l jump).run P w=.ok (.bool jump.isNone) w'->step P (lone (b.atR t todo) (c0::cs) w)=.next (lone (c0.finish (.bool jump.isNone)) cs w')):
 fF P f0 (kx X K) (b.atR t todo) fs w:=by
 obtain⟨hn,v0,rv,v2,Ds,E1,E2,e1,rfl,hd,h3,h4⟩:=hw;have⟨l0,l1,l2⟩:=pS hr.dp.len e1 hd h3 h4;have hb:=h3.fr;rw[eu]at hb;obtain⟨r,rfl,l,zG,hrr⟩:=hb;subst zG hrr;unfold adm at h;split at h;rename_i id dt;rw[cond_eq_ite]at h;split at h;rename_i hm
 have hD0:Ds=[]:=by
  have:=Nat.eq_of_beq_eq_true hm;exact List.eq_nil_of_length_eq_zero (hd.trans this)
 subst hD0;have hgE:E1=[]:=h3.ghost;subst hgE;split at h;rename_i y hf;have⟨d,L,st,cT⟩:=y;have hdp:=hr.dp.drop (c.n+c.stk.extra);rw[l2]at hdp;have tG:(E2.map (·.1)).Nodup:=by simpa using hn
 have⟨l',D,rb,g1,g2,g3,g4,g5,g6⟩:=pR hf h4 tG hdp.get
 have kZ:a.tmps.toList.getD c.n undef=cv l:=by
  rw[e1,List.getD,getElem?_append_right (by omega),show c.n - v0.length=0 from by omega];rfl
 have lQ:=hr.dp.get c.n;rw[dt,kZ]at lQ;unfold af aO at lQ;have hll:l'=l:=xH (g1.symm.trans lQ.1.symm);subst hll;have iF:=(hr.kept _ (show _∈([]++E2)from g3)).2.2;have apW:=run_endRound (P:=P) jump iF
 have azA:({st.gx L (d.f.getD f0) rb.toArray D with state:=if jump.isNone then .ready else .done,pending:=jump}:Loop)=(match jump with|none=>mK.ready|some j=>mK.done j).gx L (d.f.getD f0) rb.toArray D:=by
  cases jump<;>rfl
 rw[azA]at apW
 have zH:cp (X.at G (upE l' (Obj.loop ((match jump with|none=>mK.ready|some j=>mK.done j).gx L (d.f.getD f0) rb.toArray D)) E2)) ρ ⟨c.tmps,c.H⟩ a (w.putObj l' (Obj.loop ((match jump with|none=>mK.ready|some j=>mK.done j).gx L (d.f.getD f0) rb.toArray D))):=
  hr.apT (show(l',Obj.loop (st.gx L (d.f.getD f0) rb.toArray D))∈([]++E2)from g3) (λy hy=>by
   rcases ahK y hy with h6|h6;exact .inl h6;exact .inr h6)
 obtain⟨fr1,fs1,rfl,key⟩:=vD (u:=.bool jump.isNone) h oY gN ib zH l2 (g6 _) (by rw[ads];exact tG) (aF (.aK _));exact fF.steps (λcs=>.one (awP l' _ fr1 (fs1++cs) rfl rfl apW)) key;exact h.elim;exact h.elim;exact h.elim
theorem vE{f0 f:FuncId}{c:bP}{dw:List AV}{cvs:List Value}{L:Lp}{td:List Item}{go:bP->Tree}{b:Frame}{t:Act}{fs:List Frame}{g:Operand}{asg body:Code}{ps:Array Tmp}(hL:L=⟨ps.toList,asg,body⟩)
 (h:(abM P c f dw L td go).Holds K C) (oY:∀c',(go c').Holds K C->Safe P f0 X K c')
 (gN:∀b,X.G b->G b) (ib:∀b,G b->X.G b\/X.w.heap.size<=b) (hr:cp (X.at G E) ρ ⟨c.tmps,c.H⟩ a w) (hw:Wf f0 c.stk a.tmps.toList E b t fs)
 (hg:t.eval g=.func (.func f) #[] cvs.toArray) (hl:bM ρ (St.look ⟨c.tmps,c.H⟩) (aW ρ (St.look ⟨c.tmps,c.H⟩) G) w dw cvs):
 fF P f0 (kx X K) (b.atR t (.code (.rangeFunc g ps asg body)::td)) fs w:=by
 unfold abM at h;rw[cond_eq_ite]at h;split at h;exact h.elim;rename_i eu;have eu:c.stk.round=false:=by simpa using eu
 obtain⟨hn,v0,rv,v2,Ds,E1,E2,e1,rfl,hd,h3,h4⟩:=hw;have⟨l0,l1,l2⟩:=pS hr.dp.len e1 hd h3 h4;have hb:=h3.fr;rw[eu]at hb;obtain⟨r,rfl,zG,hrr⟩:=hb;subst zG hrr;have hgE:=h3.ghost;subst hgE;have auh:=h3.act;subst auh;let Dn:=w.heap.size;let ln:=w.heap.size+1;let sd:Loop:=mK.ready.gx L (c.stk.f.getD f0) v0.toArray Dn;have⟨r1,s1⟩:=hr.grow (.deferred (some [])) (er Dn);have⟨r2,s2⟩:=r1.grow (.loop sd) (cv ln);have bV:(w.alloc (.deferred (some []))).heap.size=ln:=fW;rw[bV]at r2 s2
 have hold:∀x∈(Ds.map (λD=>(D,Obj.deferred (some [])))++E2).map (·.1),x<Dn:=λx hx=>by
  obtain⟨y,hy,rfl⟩:=mem_map.1 hx;exact(Array.getElem?_eq_some_iff.1 (hr.kept y hy).2.2).1
 have r3:=r2.sub (E':=(Dn::Ds).map (λD=>(D,Obj.deferred (some [])))++([(ln,Obj.loop sd)]++E2)) (λy hy=>by
  simp only[map_cons,cons_append,mem_cons,mem_append,nil_append]at hy ⊢;rcases hy with rfl|hy|rfl|hy;exact .inr (.inl rfl);exact .inr (.inr (.inl hy));exact .inl rfl;exact .inr (.inr (.inr hy)))
 have hn3:(((Dn::Ds).map (λD=>(D,Obj.deferred (some [])))++([(ln,Obj.loop sd)]++E2)).map (·.1)).Nodup:=by
  rw[map_append]at hn;have⟨n1,n2,n3⟩:=nodup_append.1 hn;rw[map_append,map_append];refine nodup_append.2 ⟨?_, ?_, ?_⟩;rw[map_cons,map_cons,List.nodup_cons];exact⟨λhm=>absurd (hold Dn (by rw[map_append];exact List.mem_append_left _ hm)) (Nat.lt_irrefl _),n1⟩;rw[map_cons,map_nil,List.singleton_append,List.nodup_cons];exact⟨λhm=>absurd (hold ln (by rw[map_append];exact mem_append_right _ hm)) (by omega),n2⟩;intro x hx y hy hxy;subst hxy;simp only[map_cons,map_nil,mem_cons,mem_append,List.not_mem_nil,or_false]at hx hy;rcases hx with rfl|hx;rcases hy with hy|hy;omega;exact absurd (hold Dn (by rw[map_append];exact mem_append_right _ hy)) (Nat.lt_irrefl _);rcases hy with rfl|hy;exact absurd (hold ln (by rw[map_append];exact List.mem_append_left _ hx)) (by omega);exact n3 x hx x hy rfl
 let L0:=c.H++[ak.ax]++[ak.ax];let G2:Nat->Prop:=λb=>(G b\/b=w.heap.size)\/b=ln;let gy:=ra (ra ρ c.H.length (er Dn)) (c.H++[ak.ax]).length (cv ln);have aBt:(c.H++[ak.ax]).length=c.H.length+1:=by simp
 have azB:gy (c.H.length+1)=cv ln:=by simp[gy,ra]
 have azC:gy c.H.length=er Dn:=by simp[gy,ra]
 have awQ:(St.look ⟨c.tmps,L0⟩) c.H.length=some .ax:=by simp[St.look,L0]
 have awR:(St.look ⟨c.tmps,L0⟩) (c.H.length+1)=some .ax:=by simp[St.look,L0]
 have d3:=r3.dp
 have azD:af gy (St.look ⟨c.tmps,L0⟩) (aW gy (St.look ⟨c.tmps,L0⟩) G2) ((w.alloc (.deferred (some []))).alloc (.loop sd)) (.tag c.H.length) (er Dn):=by
  unfold af aO;exact⟨azC.symm,rfl,by rw[awQ];rfl⟩
 have awS:af gy (St.look ⟨c.tmps,L0⟩) (aW gy (St.look ⟨c.tmps,L0⟩) G2) ((w.alloc (.deferred (some []))).alloc (.loop sd)) (.tag (c.H.length+1)) (cv ln):=by
  unfold af aO;exact⟨azB.symm,rfl,by rw[awR];rfl⟩
 have azE:DP gy (St.look ⟨c.tmps,L0⟩) (aW gy (St.look ⟨c.tmps,L0⟩) G2) ((w.alloc (.deferred (some []))).alloc (.loop sd))
  (c.tmps.take c.n++.tag c.H.length::((c.tmps.drop c.n).take c.stk.marks++.tag (c.H.length+1)::c.tmps.drop (c.n+c.stk.marks))) (v0++([]++((Dn::Ds).map er++([cv ln]++v2)))):=by
  have e2:a.tmps.toList=v0++(Ds.map er++v2):=by simpa using e1
  have a1:=d3.take c.n;have a2:=(d3.drop c.n).take c.stk.marks;have a3:=d3.drop (c.n+c.stk.marks);rw[e2,List.take_left' l0]at a1;rw[e2,List.drop_left' l0,List.take_left' (by rw[length_map,hd])]at a2;rw[e2,show v0++(Ds.map er++v2)=(v0++Ds.map er)++v2 from by simp,List.drop_left' (by rw[length_append,length_map,hd,l0])]at a3;have:=a1.append (DP.cons azD (a2.append (DP.cons awS a3)));exact this
 have r4:=r3.cT azE;have auj:Step ρ (St.look ⟨c.tmps,c.H⟩) (aW ρ (St.look ⟨c.tmps,c.H⟩) G) w gy (St.look ⟨c.tmps,L0⟩) (aW gy (St.look ⟨c.tmps,L0⟩) G2) ((w.alloc (.deferred (some []))).alloc (.loop sd)):=s1.trans s2
 have gw:bM gy (St.look ⟨c.tmps,L0⟩) (aW gy (St.look ⟨c.tmps,L0⟩) G2) ((w.alloc (.deferred (some []))).alloc (.loop sd)) (.tag (c.H.length+1)::dw) (cv ln::cvs):=
  aE.2 ⟨_,_,rfl,awS,bM.step auj _ _ hl⟩
 have ahL:WfS f0 (⟨c.stk.f,c.n,false,c.stk.marks+1,some (L,.ready),td,((iH L.body).getD 0,0)⟩::c.stk.below) (v0++([]++((Dn::Ds).map er++([cv ln]++v2))))
  ((Dn::Ds).map (λD=>(D,Obj.deferred (some [])))++([(ln,Obj.loop sd)]++E2))
  ((Frame.atR {(default:Frame)with fn:=c.stk.f.getD f0,kind:=.normal,roundOf:=none} {tmps:=v0.toArray,defers:=(Dn::Ds).map qy} (.inRangeFunc ln::td))::fs):=
  ⟨v0,[],v2,Dn::Ds,_,E2,_,_,fs,[cv ln],[(ln,Obj.loop sd)],_,rfl,rfl,rfl,l0,by simp[hd],⟨⟨none,rfl,rfl,rfl⟩,rfl,rfl⟩,h4,⟨ln,Dn,rfl,rfl,rfl⟩⟩
 have key:=vC (us:=cv ln::cvs) h oY (λb hb=>.inl (.inl (gN b hb))) (λb hb=>by
  have hle:X.w.heap.size<=w.heap.size:=hr.ao.size;rcases hb with(hb|hb)|hb;exact ib b hb;exact .inr (by omega);exact .inr (by omega)) r4 gw hn3 (by simpa using ahL)
 have⟨gE,key⟩:=key;refine fF.steps (λcs=>.one ?_) key;have he:=run_enterLoop_outer (P:=P) (w:=w) (c.stk.f.getD f0) v0.toArray ps asg body
 have awT:sd={state:=.ready,pending:=none,fn:=c.stk.f.getD f0,tmps:=v0.toArray,params:=ps,assign:=asg,body:=body,defers:=w.heap.size}:=by
  simp only[sd,mK.gx,hL,Dn]
 rw[<-awT]at he;refine stepR_rangeFunc (b:={(default:Frame)with fn:=c.stk.f.getD f0,kind:=.normal,roundOf:=none}) (a:={tmps:=v0.toArray,defers:=Ds.map qy}) (ps:=ps) (assign:=asg) (body:=body) (w:=w) (l:=ln) (w₁':=(w.alloc (.deferred (some []))).alloc (.loop sd)) (d:={target:=.fn (.func f) cvs.toArray,args:= #[cv ln]}) he ?_ ?_;simp only[resolve,hg];simp[go_sem,cv,ln];have:=iG gE (#[cv ln]++cvs.toArray) ((w.alloc (.deferred (some []))).alloc (.loop sd));simp only[invoke];rw[this];simp
end
section
variable{ρ aN:Nat->Value}{H H':aT}{G O O':Nat->Prop}{w w':World}{P:Program}{S:fI}{Z:bm}{X:Ctx}{s:St}{a:Act}{K:List ak->AV->Prop}{C:bP->Prop}{ops:Array Oper}
def wpC(P:Program)(ops:Array Oper)(Q:Act->World->Prop):Nat->Array Bool->Act->World->Prop
 |0,_,a,w=>Q a w|fuel+1,listed,a,w=>Region.ready .any ops listed≠[]/\∀i∈Region.ready .any ops listed,wpOp P ops (λe a w=>e=.normal/\Q a w) i (wpC P ops Q fuel (listed.setIfInBounds i true)) a w
theorem aj4{Q:Act->World->Prop}:∀(fuel t:Nat) (listed:Array Bool) (a:Act) (w:World),wpC P ops Q fuel listed a w->
 wpOps P ops (λe a w=>e=.normal/\Q a w) (Region.linearise.go .any ops fuel t listed []) a w:=by
 intro fuel
 induction fuel with
 |zero=>intro t listed a w h;simpa[Region.linearise.go,wpOps,wpC]using h
 |succ fuel ih=>
  intro t listed a w h;have⟨h₀,h₁⟩:=h;simp only[Region.linearise.go]
  change wpOps P ops _ (match(Region.ready .any ops listed)[t%(Region.ready .any ops listed).length]? with
   |some i=>Region.linearise.go .any ops fuel (t / (Region.ready .any ops listed).length) (listed.setIfInBounds i true) [i]|none=>[].reverse) a w
  cases hi:(Region.ready .any ops listed)[t%(Region.ready .any ops listed).length]? with
  |none=>
   exfalso;cases hr:Region.ready .any ops listed with
   |nil=>exact h₀ hr|cons x xs=>
    rw[hr]at hi;have bq:t%(x::xs).length<(x::xs).length:=Nat.mod_lt _ (by simp);simp at hi;simp at bq;omega
  |some i=>
   simp only[];rw[linearise_go_acc,List.reverse_singleton,List.singleton_append,wpOps_cons];exact wpOp_mono (λa w=>ih _ _ a w) (h₁ i (List.mem_of_getElem? hi))
theorem gi{listed:Array Bool}{i:Nat}(hi:i∈Region.ready .any ops listed):i<ops.size/\listed.getD i true=false/\∃o,ops[i]? =some o/\∀e∈o.after,Region.binds .any e=true->listed.getD e.on false=true:=by
 simp only[Region.ready,List.mem_filter,mem_range,and_eq_true]at hi;have⟨h1,h2,h3⟩:=hi;refine⟨h1,by simpa using h2, ?_⟩;cases ho:ops[i]? with
 |none=>rw[ho]at h3;simp at h3|some o=>
  rw[ho]at h3;simp only[map_some,getD_some,Array.all_eq_true]at h3;refine⟨o,rfl,λe he hb=> ?_⟩;obtain⟨n,hn,rfl⟩:=Array.mem_iff_getElem.1 he;have:=h3 n hn;rw[hb]at this;simpa using this
theorem xI{listed:Array Bool}(bV:listed.size=ops.size)(heb:dZ ops=true){i:Nat}(hi:i<ops.size)(hn:listed.getD i true=false)(hl:∀k,k<i->listed.getD k true=true):i∈Region.ready .any ops listed:=by
 simp only[Region.ready,List.mem_filter,mem_range,and_eq_true];have ho:ops[i]? =some ops[i]:=Array.getElem?_eq_getElem hi;refine⟨hi,by simpa using hn, ?_⟩;rw[ho];simp only[map_some,getD_some,Array.all_eq_true];intro n hn;have hb:dZ ops=true:=heb;simp only[dZ,all_eq_true,mem_range]at hb;have hb:=hb i hi;rw[ho]at hb;simp only[Array.all_eq_true]at hb;have hb:=hb n hn;cases hbi:Region.binds .any (ops[i].after[n])with
 |false=>simp|true=>
  rw[hbi]at hb;have hon:(ops[i].after[n]).on<i:=by simpa[Nat.blt,Nat.lt_iff_add_one_le]using hb
  have cQ:=hl _ hon;have cP:(ops[i].after[n]).on<listed.size:=by omega
  simp only[Array.getD,cP,dif_pos]at cQ ⊢;simpa using cQ
theorem xJ{j i k:Nat}(h:xz ops j=true)(hi:i<ops.size)(hj:j<=i)(hk:k<i):gL ops i k=true:=by
 have h1:=all_eq_true.1 h i (mem_range.2 hi);rw[Bool.or_eq_true]at h1;rcases h1 with h1|h1;have:i<j:=by simpa[Nat.blt,Nat.lt_iff_add_one_le]using h1
 omega;exact all_eq_true.1 h1 k (mem_range.2 hk)
def Down(ops:Array Oper)(listed:Array Bool):Prop:=∀i o,ops[i]? =some o->listed.getD i false=true->∀e∈o.after,Region.binds .any e=true->listed.getD e.on false=true
theorem aj5{listed:Array Bool}{i:Nat}(h:listed.getD i false=true):listed.getD i true=true:=by
 simp only[getD_eq_getD_getElem?]at h ⊢;cases hx:listed[i]? with
 |none=>rw[hx]at h;simp at h|some b=>rw[hx]at h;simpa using h
theorem pa{listed:Array Bool}(hd:Down ops listed){i k:Nat}(hi:i∈Region.ready .any ops listed)(ha:gL ops i k=true):listed.getD k true=true:=by
 have⟨h1,h2,o,ho,h3⟩:=gi hi;exact aj5 (jz (L:=λi=>listed.getD i false=true) hd 9 ho h3 ha)
theorem Down.set{listed:Array Bool}(hd:Down ops listed){i:Nat}(hi:i∈Region.ready .any ops listed):Down ops (listed.setIfInBounds i true):=by
 have⟨h1,h2,o,ho,h3⟩:=gi hi
 have aBG:∀j,listed.getD j false=true->(listed.setIfInBounds i true).getD j false=true:=λj hj=>by
  simp only[getD_eq_getD_getElem?,Array.getElem?_setIfInBounds]at hj ⊢;split;split<;>simp_all;exact hj
 intro k o' dI fy e he hb;by_cases hif:k=i;subst hif;rw[ho]at dI;cases dI;exact aBG _ (h3 e he hb);refine aBG _ (hd k o' dI ?_ e he hb);simp only[getD_eq_getD_getElem?,Array.getElem?_setIfInBounds,if_neg (Ne.symm hif)]at fy ⊢;exact fy
theorem ahM{listed:Array Bool}(bV:listed.size=ops.size){i k:Nat}(hi:i<ops.size):(listed.setIfInBounds i true).getD k true=if k=i then true else listed.getD k true:=by
 simp only[getD_eq_getD_getElem?,Array.getElem?_setIfInBounds];by_cases hjf:i=k;subst hjf;simp[bV,hi];simp[hjf,Ne.symm hjf]
theorem ahN(heb:dZ ops=true){j:Nat}(hc:xz ops j=true):∀(m t i:Nat) (listed:Array Bool),i+m=ops.size->j<=i->listed.size=ops.size->Down ops listed->(∀k,k<ops.size->(listed.getD k true=false↔i<=k))->
 Region.linearise.go .any ops m t listed []=range' i m
 |0,t,i,listed,_,_,_,_,_=>rfl|m+1,t,i,listed,him,hj,bV,hd,hl=>by
  have hr:Region.ready .any ops listed=[i]:=by
   have kv:i∈Region.ready .any ops listed:=xI bV heb (by omega) ((hl i (by omega)).2 (le_refl _)) (λk hk=>by
    cases h:listed.getD k true with
    |true=>rfl|false=>have:=(hl k (by omega)).1 h;omega)
   have aav:∀k∈Region.ready .any ops listed,k=i:=λk hk=>by
    have⟨h1,h2,_⟩:=gi hk;have h3:=(hl k h1).1 h2;rcases lt_or_ge i k with h4|h4;have:=pa hd hk (xJ hc h1 (by omega) h4);rw[(hl i (by omega)).2 (le_refl _)]at this;cases this;omega
   have ix:(Region.ready .any ops listed).Nodup:=List.Nodup.sublist List.filter_sublist List.nodup_range;generalize Region.ready .any ops listed=l at *
   match l,kv,aav,ix with
   |[x],kv,aav,ix=>rw[aav x (by simp)]
   |x::y::l,kv,aav,ix=>
    have h1:=aav x (by simp);have h2:=aav y (by simp);rw[h1,h2]at ix;simp at ix
  simp only[Region.linearise.go]
  change (match(Region.ready .any ops listed)[t%(Region.ready .any ops listed).length]? with
   |some i=>Region.linearise.go .any ops m (t / (Region.ready .any ops listed).length) (listed.setIfInBounds i true) [i]|none=>[].reverse)=_
  rw[hr];simp only[List.length_singleton,Nat.mod_one,List.getElem?_cons_zero];rw[linearise_go_acc,List.reverse_singleton,List.singleton_append,List.range'_succ];congr 1;have kv:i∈Region.ready .any ops listed:=by rw[hr];simp
  refine ahN heb hc m _ (i+1) _ (by omega) (by omega) (by simp[bV]) (hd.set kv) (λk hk=> ?_);rw[ahM bV (by omega)];by_cases hki:k=i;subst hki;simp;rw[if_neg hki,hl k hk];omega
theorem adw(heb:dZ ops=true){j:Nat}(hj:j<=ops.size)(hc:xz ops j=true):∀(m t:Nat) (listed:Array Bool) (us:List Nat),us.length=m->us.Nodup->(∀i∈us,i<j)->listed.size=ops.size->Down ops listed->
 (∀k,k<ops.size->(listed.getD k true=false↔k∈us\/j<=k))->Region.linearise.go .any ops (m+(ops.size - j)) t listed []=Region.linearise.go .any ops m t listed []++range' j (ops.size - j)
 |0,t,listed,us,hm,_,_,bV,hd,hl=>by
  obtain rfl:us=[]:=List.length_eq_zero_iff.1 hm;rw[zero_add,ahN heb hc (ops.size - j) t j listed (by omega) (le_refl _) bV hd (λk hk=>by rw[hl k hk];simp)];rfl
 |m+1,t,listed,us,hm,ix,bq,bV,hd,hl=>by
  rw[show m+1+(ops.size - j)=(m+(ops.size - j))+1 from by omega];simp only[Region.linearise.go]
  change (match(Region.ready .any ops listed)[t%(Region.ready .any ops listed).length]? with
   |some i=>Region.linearise.go .any ops (m+(ops.size - j)) (t / (Region.ready .any ops listed).length) (listed.setIfInBounds i true) [i]|none=>[].reverse)=(match(Region.ready .any ops listed)[t%(Region.ready .any ops listed).length]? with
   |some i=>Region.linearise.go .any ops m (t / (Region.ready .any ops listed).length) (listed.setIfInBounds i true) [i]|none=>[].reverse)++_
  obtain⟨mn,hmn,auk⟩:∃i∈us,∀k∈us,i<=k:=by
   cases us with
   |nil=>simp at hm|cons x xs=>
    clear ix bq hl hm
    induction xs generalizing x with
    |nil=>exact⟨x,by simp,by simp⟩
    |cons y ys ih=>
     have⟨i,h1,h2⟩:=ih y;rcases Nat.le_total x i with h3|h3
     exact⟨x,by simp,λk hk=>by
      rcases mem_cons.1 hk with rfl|hk;exact le_refl _;exact le_trans h3 (h2 k hk)⟩
     exact⟨i,mem_cons_of_mem _ h1,λk hk=>by
      rcases mem_cons.1 hk with rfl|hk;exact h3;exact h2 k hk⟩
  have hr0:mn∈Region.ready .any ops listed:=by
   have h1:=bq mn hmn;refine xI bV heb (by omega) ((hl mn (by omega)).2 (.inl hmn)) (λk hk=> ?_);cases h:listed.getD k true with
   |true=>rfl|false=>
    rcases(hl k (by omega)).1 h with h2|h2;have:=auk k h2;omega;omega
  cases hi:(Region.ready .any ops listed)[t%(Region.ready .any ops listed).length]? with
  |none=>
   exfalso;cases hr:Region.ready .any ops listed with
   |nil=>rw[hr]at hr0;simp at hr0|cons x xs=>
    rw[hr]at hi;have bq:t%(x::xs).length<(x::xs).length:=Nat.mod_lt _ (by simp);simp at hi;simp at bq;omega
  |some i=>
   simp only[];have kv:=List.mem_of_getElem? hi;have⟨h1,h2,_⟩:=gi kv
   have lR:i∈us:=by
    rcases(hl i h1).1 h2 with h3|h3;exact h3;have h4:=bq mn hmn;have:=pa hd kv (xJ hc h1 h3 (show mn<i by omega));rw[(hl mn (by omega)).2 (.inl hmn)]at this;cases this
   rw[linearise_go_acc _ _ (m+(ops.size - j)),linearise_go_acc _ _ m,append_assoc];congr 1;refine adw heb hj hc m _ _ (us.erase i) (by rw[List.length_erase_of_mem lR];omega) (ix.erase i) (λk hk=>bq k (List.mem_of_mem_erase hk)) (by simp[bV]) (hd.set kv) (λk hk=> ?_);rw[ahM bV h1];by_cases hki:k=i;subst hki;have:=bq k lR;simp only[if_true,Bool.true_eq_false,false_iff,not_or];exact⟨λh=>(List.Nodup.not_mem_erase ix) h,by omega⟩;rw[if_neg hki,hl k hk,List.Nodup.mem_erase_iff ix];simp[hki]
theorem xL(heb:dZ ops=true){j:Nat}(hj:j<=ops.size)(hc:xz ops j=true)(t:Nat):
 Region.linearise .any ops t=Region.linearise.go .any ops j t (Array.replicate ops.size false) []++range' j (ops.size - j):=by
 have:=adw heb hj hc j t (Array.replicate ops.size false) (List.range j) List.length_range List.nodup_range (λi hi=>mem_range.1 hi) (by simp)
  (λi o _ hi=>by rw[getD_eq_getD_getElem?,Array.getElem?_replicate]at hi;split at hi<;>simp at hi) (λk hk=>by
    simp only[getD_eq_getD_getElem?,Array.getElem?_replicate,hk,if_true,getD_some,true_iff,mem_range];omega)
 rw[show j+(ops.size - j)=ops.size from by omega]at this;exact this
theorem abT{j0:Nat}(aj6:xz ops j0=true)(hS:SOk P S Z)(nX:eb Z X)(heb:dZ ops=true){T':List AV}{H':aT}{Q:Act->World->Prop}(hQ:∀aN a' w',mL X aN T' H' a' w'->Q a' w'):
 ∀(fuel:Nat) (listed:Array Bool) (es:List El) (T:List AV) (H:aT) (ρ:Nat->Value) (a:Act) (w:World),es.length=fuel->listed.size=ops.size->es.Pairwise (q8 ops)->
 (∀e∈es,e.i<j0)->(∀i,i<ops.size->(listed.getD i true=false↔(∃e∈es,e.i=i)\/j0<=i))->(∀i o,ops[i]? =some o->listed.getD i false=true->∀e∈o.after,Region.binds .any e=true->listed.getD e.on false=true)->mL X ρ T H a w->oW P S ops T H es T' H'->wpC P ops Q fuel listed a w:=by
 intro fuel
 induction fuel with
 |zero=>
  intro listed es T H ρ a w bC bV hp alZ hl hdc agd hc;obtain rfl:es=[]:=List.length_eq_zero_iff.1 bC;obtain⟨rfl,rfl⟩:=hc;exact hQ _ _ _ agd
 |succ fuel ih=>
  intro listed es T H ρ a w bC bV hp alZ hl hdc agd hc
  have first:∃e∈es,e.i∈Region.ready .any ops listed:=by
   cases es with
   |nil=>simp at bC|cons e es=>
    have ho:=hc.1.op;have bq:e.i<ops.size:=(Array.getElem?_eq_some_iff.1 ho).1;refine⟨e,by simp,xI bV heb bq ((hl e.i bq).2 (.inl ⟨e,by simp,rfl⟩)) (λk hk=> ?_)⟩;have hej:=alZ e (by simp);cases h:listed.getD k true with
    |true=>rfl|false=>
     rcases(hl k (by omega)).1 h with⟨f,hf1,hf2⟩|h2;rcases mem_cons.1 hf1 with rfl|hf1;omega;have:=((pairwise_cons.1 hp).1 f hf1).1;omega;omega
  refine⟨λhr=> ?_,λi hi=> ?_⟩;have⟨e,_,he⟩:=first
  rw[hr]at he;simp at he;have⟨h1,h2,o,ho,h3⟩:=gi hi
  obtain⟨f,hf,rfl⟩:∃e∈es,e.i=i:=by
   rcases(hl i h1).1 h2 with h|h;exact h;have⟨e,he1,he2⟩:=first
   have⟨h4,h5,_⟩:=gi he2;have h6:=alZ e he1;have:=pa hdc hi (xJ aj6 h1 h (show e.i<i by omega));rw[h5]at this;cases this
  obtain⟨pre,post,rfl⟩:=List.append_of_mem hf;have mM:∀e∈pre,q8 ops e f:=λe he=>(List.pairwise_append.1 hp).2.2 e he f (by simp)
  have auc:∀e∈pre,ado ops e f:=by
   intro e he;rcases(mM e he).2 with h4|h4;exfalso;have h8:listed.getD e.i false=true:=jz (L:=λi=>listed.getD i false=true) hdc 9 ho h3 h4;have bq:e.i<ops.size:=by have:=(mM e he).1;omega
   have h9:=(hl e.i bq).2 (.inl ⟨e,by simp[he],rfl⟩);have cP:e.i<listed.size:=by omega
   simp only[Array.getD,cP,dif_pos]at h8 h9;rw[h8]at h9;cases h9;exact h4
  have⟨jY,hch⟩:=front pre hc auc;refine ahG hS nX jY agd (λaN a' w' eI=> ?_)
  have aBG:∀j,listed.getD j false=true->(listed.setIfInBounds f.i true).getD j false=true:=λj hj=>by
   simp only[getD_eq_getD_getElem?,Array.getElem?_setIfInBounds]at hj ⊢;split;split<;>simp_all;exact hj
  have aud:∀i o,ops[i]? =some o->(listed.setIfInBounds f.i true).getD i false=true->∀e∈o.after,Region.binds .any e=true->(listed.setIfInBounds f.i true).getD e.on false=true:=by
   intro i o' dI fy e he hb;by_cases hif:i=f.i;subst hif;rw[ho]at dI;cases dI;exact aBG _ (h3 e he hb);refine aBG _ (hdc i o' dI ?_ e he hb);simp only[getD_eq_getD_getElem?,Array.getElem?_setIfInBounds,if_neg (Ne.symm hif)]at fy ⊢;exact fy
  refine ih _ (pre++post) _ _ aN a' w' ?_ (by simp[bV]) ?_ (λe he=>alZ e (by
   rcases mem_append.1 he with he|he;exact mem_append.2 (.inl he);exact mem_append.2 (.inr (mem_cons_of_mem _ he)))) ?_ aud eI hch
  simp only[length_append,length_cons]at bC ⊢;omega;exact hp.sublist (List.Sublist.append (List.Sublist.refl _) (List.sublist_cons_self _ _));intro j hj
  have alJ:∀e∈pre++post,e.i≠f.i:=by
   intro e he;rcases mem_append.1 he with he|he;have:=(mM e he).1;omega;have:=(pairwise_cons.1 (List.pairwise_append.1 hp).2.1).1 e he;have:=this.1;omega
  have cP:j<listed.size:=by omega
  have aue:(listed.setIfInBounds f.i true).getD j true=if j=f.i then true else listed.getD j true:=by
   simp only[getD_eq_getD_getElem?,Array.getElem?_setIfInBounds];by_cases hjf:f.i=j;subst hjf;simp[cP];simp[hjf,Ne.symm hjf]
  rw[aue];by_cases hjf:j=f.i;subst hjf;have:=alZ f hf;simp only[if_true,Bool.true_eq_false,false_iff,not_or,not_exists,not_and];exact⟨alJ,by omega⟩;rw[if_neg hjf,hl j hj];constructor;rintro(⟨e,he,rfl⟩|h);refine .inl ⟨e, ?_,rfl⟩;simp only[mem_append,mem_cons]at he ⊢;rcases he with he|rfl|he;exact .inl he;exact(hjf rfl).elim;exact .inr he;exact .inr h;rintro(⟨e,he,rfl⟩|h);refine .inl ⟨e, ?_,rfl⟩;simp only[mem_append,mem_cons]at he ⊢;rcases he with he|he;exact .inl he;exact .inr (.inr he);exact .inr h
theorem agj{j0:Nat}(hj0:j0<=ops.size)(aj6:xz ops j0=true)(hS:SOk P S Z)(nX:eb Z X){cont:St->List Touch->Tree}(hso:iJ ops=true)(heb:dZ ops=true)(h:(mi P S ops cont 0 (ops.toList.take j0) s []).Holds K C)(hcl:∀s' rI,(cont s' rI).Holds K C->jj ops rI=true)
 {Q:Act->World->Prop} (hQ:∀aN s' rI a' w',(cont s' rI).Holds K C->cp X aN s' a' w'->Q a' w') (hr:cp X ρ s a w):wpC P ops Q j0 (Array.replicate ops.size false) a w:=by
 have⟨es,s',rI,T',g1,g2,g3,g4,g5,g6⟩:=gM (ops.toList.take j0) 0 s [] s.tmps (λj o hj=>by
  rw[getElem?_take]at hj;split at hj;simpa using hj;cases hj) h rfl (λt=>.inl rfl)
 have hcf:=gU _ (hcl _ _ g1);rw[g6,append_nil,List.pairwise_reverse,List.pairwise_map,List.pairwise_filter]at hcf;have zr:=xF g2
 have ac8:es.Pairwise (λe f=>e.i<f.i):=by
  have:(es.map El.i).Pairwise (· < ·):=by rw[g5];exact List.pairwise_lt_range'
  rwa[List.pairwise_map]at this
 have abR:es.Pairwise (q8 ops):=by
  refine(hcf.and ac8).imp_of_mem (λ{e f} he hf ⟨hc,bq⟩=>⟨bq, ?_⟩);cases hna:gL ops f.i e.i with
  |true=>exact .inl rfl|false=>
   refine .inr ?_;have⟨s1,s2⟩:=vB hso (zr e he) (zr f hf) bq hna
   have hh:(∀id∈e.wr,id ∉ f.rd/\id ∉ f.wr)/\∀id∈f.wr,id ∉ e.rd:=by
    cases hqe:e.q with
    |none=>
     have e1:e.wr=[]:=by simp[El.wr,hqe]
     have e2:=lj g2 e he hqe;exact⟨λid dt=>by rw[e1]at dt;simp at dt,λid _=>by rw[e2];simp⟩
    |some qe=>
     cases hqf:f.q with
     |none=>
      have e1:f.wr=[]:=by simp[El.wr,hqf]
      have e2:=lj g2 f hf hqf;exact⟨λid _=>by rw[e1,e2];simp,λid dt=>by rw[e1]at dt;simp at dt⟩
     |some qf=>
      rcases hc (by rw[hqe];rfl) (by rw[hqf];rfl)with h1|h1;exact Touch.xE (a:=e.nN) (b:=f.nN) h1;exact(by rw[show f.nN.i=f.i from rfl,show e.nN.i=e.i from rfl,hna]at h1;cases h1)
   exact⟨s1,s2,hh.1,hh.2⟩
 have bC:es.length=j0:=by
  have:=congrArg List.length g5;simp only[length_map,List.length_range',length_take,length_toList]at this;omega
 refine abT aj6 hS nX heb (λaN a' w' eI=>hQ aN s' rI a' w' g1 ⟨eI.sat,g3▸eI.size,λt=>(g4 t).den (eI.den t),eI.defers,eI.ao,eI.jN,eI.kept⟩) j0 _ es s.tmps s.look ρ a w bC (by simp) abR (λe he=> ?_) ?_ (λi o _ hi=>by rw[getD_eq_getD_getElem?,Array.getElem?_replicate]at hi;split at hi<;>simp at hi) hr.toF g2;have:e.i∈es.map El.i:=List.mem_map_of_mem he;rw[g5,List.mem_range'_1,length_take]at this;omega;intro i hi;simp only[getD_eq_getD_getElem?,Array.getElem?_replicate,hi,if_true,getD_some,true_iff];rcases lt_or_ge i j0 with h1|h1;have:i∈es.map El.i:=by rw[g5,List.mem_range'_1,length_take,length_toList];omega
 obtain⟨e,he,rfl⟩:=mem_map.1 this;exact .inl ⟨e,he,rfl⟩;exact .inr h1
end
section
variable{ρ aN:Nat->Value}{H H':aT}{G O O':Nat->Prop}{w w':World}{P:Program}{Z:bm}{X:Ctx}{s:St}{a:Act}
theorem xM{id:Nat}{c:aV}{o:ak}:(adl id c o).alive=o.alive:=by cases o<;>rfl
theorem al0{id:Nat}{c:aV}{o:ak}{c':aV}{e':TypeId}(h:adl id c o=.vec c' e'):o=.vec c' e':=by
 cases o<;>simp[adl]at h ⊢;exact h
theorem cp.agk(h:cp X ρ s a w)(id:Nat):cp X ρ (xx s id) a w:=by
 unfold xx;split;rename_i c e ho;have hs:=h.sat;have bq:id<s.H.length:=(List.getElem?_eq_some_iff.1 ho).1;let s':St:=⟨s.tmps.map (oR id c),(s.H.map (adl id c)).set id .ax⟩
 have look:∀j,s'.look j=if j=id then some .ax else(s.look j).map (adl id c):=by
  intro j;show((s.H.map (adl id c)).set id .ax)[j]? =_;rw[getElem?_set];by_cases hj:id=j;subst hj;simp[bq];rw[if_neg hj,if_neg (Ne.symm hj),getElem?_map];rfl
 have rR:∀b,Own ρ s'.look b->Own ρ (aC s.look id .ax) b:=by
  rintro b ⟨j,o,hj,h1,h2⟩;rw[look]at hj;by_cases e1:j=id;rw[if_pos e1]at hj;cases hj;cases h1;rw[if_neg e1]at hj;obtain⟨o0,h3,rfl⟩:=map_eq_some_iff.1 hj;exact⟨j,o0,by simp[aC,e1,h3],by rw[xM]at h1;exact h1,h2⟩
 have aq:∀b,Own ρ s'.look b->Own ρ s.look b:=λb hb=>fl (rR b hb)
 have st:Step ρ s.look (aW ρ s.look X.G) w ρ s'.look (aW ρ s'.look X.G) w:=by
  refine⟨λ_ _ _=>rfl,λj o hj=> ?_,λb hb=>.inl (hb.imp (aq b) (λx=>x)),λ_ _ _=>rfl,le_refl _⟩;by_cases e1:j=id;exact⟨.ax,by rw[look,if_pos e1],λc' e' he=>by cases he⟩;refine⟨adl id c o,by rw[look,if_neg e1,hj];rfl,λc' e' he=> ?_⟩;exact⟨c',e',al0 he,rfl,rfl⟩
 have gone:aX (aW ρ s'.look X.G) w (.ro c) (ρ id):=(r6 hs ho).asF λb hb=>hb.imp (rR b) (λx=>x)
 have eqv:∀{j:Nat} {v:Value},aO ρ s.look (aW ρ s.look X.G) w (.vec j) v->j=id->v=ρ id:=by
  intro j v hv e1;subst e1;unfold aO at hv;have⟨_,o,h1,h2⟩:=hv;have h3:s.look j=some (.vec c e):=ho;rw[h3]at h1;cases h1;exact h2 c e rfl
 have agl:∀x cs,aR ρ s.look (aW ρ s.look X.G) w x cs->aR ρ s'.look (aW ρ s'.look X.G) w (oQ id c x) cs:=by
  intro x cs hx;have np:=aR.step st x cs hx;cases x<;>try exact np
  rename_i j;simp only[oQ,cond_eq_ite];split;rename_i hj;have hj:j=id:=by simpa using hj
  unfold aR at hx ⊢;obtain⟨u,rfl,hu⟩:=hx;exact⟨u,rfl,by rw[eqv hu hj];exact gone⟩;exact np
 have nu:∀(xs:List AV) cs,aA ρ s.look (aW ρ s.look X.G) w xs cs->aA ρ s'.look (aW ρ s'.look X.G) w (xs.map (oQ id c)) cs:=by
  intro xs
  induction xs with
  |nil=>intro cs hx;exact aD.2 (aD.1 hx)
  |cons x xs ih=>
   intro cs hx;obtain⟨c1,c2,rfl,h1,h2⟩:=ag.1 hx;exact ag.2 ⟨c1,c2,rfl,agl _ _ h1,ih _ h2⟩
 have aul:∀x v,af ρ s.look (aW ρ s.look X.G) w x v->af ρ s'.look (aW ρ s'.look X.G) w (oR id c x) v:=by
  intro x v hx;have np:=af.step st x v hx;cases x with
  |agg az=>
   unfold af at hx;obtain⟨cs,rfl,h1⟩:=hx;show af _ _ _ _ (.agg _) _;unfold af;exact⟨cs,rfl,nu _ _ h1⟩
  |vec j=>
   simp only[oR,cond_eq_ite];split;rename_i hj;have hj:j=id:=by simpa using hj
   unfold af at hx;rw[eqv hx hj];exact aF gone;exact np
  |_=>exact np
 refine⟨⟨λj o hj=> ?_,λi j oi oj b h1 h2 h3 h4 h5 h6=> ?_,λb hb=>hs.apart b (aq b hb),hs.low⟩,by rw[<-h.size];exact length_map _,λt=> ?_,h.defers,h.ao.trans st,h.jN,h.kept⟩;have hj:s'.look j=some o:=hj;rw[look]at hj;by_cases e1:j=id;rw[if_pos e1]at hj;cases hj;trivial;rw[if_neg e1]at hj;obtain⟨o0,h3,rfl⟩:=map_eq_some_iff.1 hj;have dU:=hs.obj j o0 h3;cases o0 with
 |aq az e1=>
  have⟨b,cells,fr,g1,g2,g3,g4⟩:=dU;exact⟨b,cells,fr,g1,g2,g3,nu _ _ g4⟩
 |_=>exact dU.step st (λ_ _ _=>rfl)
 have key:∀i oi,s'.look i=some oi->oi.alive=true->∃x,s.look i=some x/\x.alive=true:=by
  intro i oi hi ha;rw[look]at hi;by_cases e1:i=id;rw[if_pos e1]at hi;cases hi;cases ha;rw[if_neg e1]at hi;obtain⟨o0,h3,rfl⟩:=map_eq_some_iff.1 hi;exact⟨o0,h3,by rw[xM]at ha;exact ha⟩
 have⟨x,hx,hxa⟩:=key i oi h1 h3;have⟨y,hy,hya⟩:=key j oj h2 h4;exact hs.inj i j x y b hx hy hxa hya h5 h6
 have e1:(s.tmps.map (oR id c)).getD t (.s .aZ)=oR id c (s.tmps.getD t (.s .aZ)):=by
  rw[List.getD_eq_getElem?_getD,List.getD_eq_getElem?_getD,getElem?_map];cases s.tmps[t]? <;>rfl
 show af _ _ _ _ ((s.tmps.map (oR id c)).getD t (.s .aZ)) _;rw[e1];exact aul _ _ (h.den t);exact h
theorem cp.awU(ids:List Nat):∀{s:St},cp X ρ s a w->cp X ρ (ids.foldl xx s) a w:=by
 induction ids with
 |nil=>intro s h;exact h
 |cons id ids ih=>intro s h;exact ih (h.agk id)
theorem cp.iI(h:cp X ρ s a w)(o:Oper):cp X ρ (iI s o) a w:=by
 unfold Sx.iI;split;exact h.awU _;split;exact h.awU _;exact h;exact h
end
section
variable{ρ aN:Nat->Value}{H H':aT}{G O O':Nat->Prop}{w w':World}{P:Program}{S:fI}{Z:bm}{X:Ctx}{s:St}{a:Act}{K:List ak->AV->Prop}{C:bP->Prop}{ops:Array Oper}{E E':List (Nat×Obj)}
theorem ky.tmp{n:Nat}{rest:List Value}{Ds:List Nat}{a t:Act}(h:ky n rest Ds a t){o:Oper}{i:Nat}(cP:r9 n rest ops)(ho:ops[i]? =some o):Region.wanted o (yielded ops t.tmps)=Region.wanted o (yielded ops a.tmps):=(h.same cP ho).2
theorem nv(hS:SOk P S Z)(nX:eb Z X){f0:FuncId}{R:Ending->World->Prop}{enter:St->Nat->Oper->Option Tree}{cont:St->Tree}{n:Nat}{rest:List Value}{Ds:List Nat}{b:Frame}{k:List Item}{fs:List Frame}
 (ix:iK ops=true) (cP:r9 n rest ops)
 (al1:∀s,(cont s).Holds K C->∀ρ a t w,cp X ρ s a w->ky n rest Ds a t->cO P f0 R b t k fs w)
 (fY:∀s i o tr,enter s i o=some tr->tr.Holds K C->∀ρ a t w,ops[i]? =some o->Region.wanted o (yielded ops a.tmps)=true->cp X ρ s a w->ky n rest Ds a t->
   cO P f0 R b t (.inRegion ops (range' i (ops.size - i))::k) fs w):
 ∀(l:List Oper) (i:Nat) (s:St),(∀j,l[j]? =ops[i+j]?)->i+l.length=ops.size->(lZ P S ops enter cont i l s).Holds K C->∀(ρ:Nat->Value) (a t:Act) (w:World),cp X ρ s a w->ky n rest Ds a t->
  cO P f0 R b t (.inRegion ops (range' i l.length)::k) fs w
 |[],i,s,hl,bV,h,ρ,a,t,w,hr,ht=>cO.step (λ_=>stepR_region_end) (al1 s h ρ a t w hr ht)|o::l,i,s,hl,bV,h,ρ,a,t,w,hr,ht=>by
  have ho:ops[i]? =some o:=by simpa using(hl 0).symm
  have hl':∀j,l[j]? =ops[i+1+j]? :=λj=>by
   have:=hl (j+1);rw[show i+(j+1)=i+1+j from by omega]at this;simpa using this
  have ajB:i+1+l.length=ops.size:=by simp only[length_cons]at bV;omega
  have lP:rest=[]\/∀d,o.dst=some d->d<n:=(cP.op ho).imp id (·.2.1);simp only[length_cons,List.range'_succ];have oY:∀(s:St) (a:Act),cp X ρ s a w->ky n rest Ds a t->Region.wanted o (yielded ops a.tmps)=true->
   (match enter s i o with
     |some t=>t|none=>match(vT P (S (iI s o).H.length) (ji (iI s o).tmps) o).eval (iI s o).look with
      |some r=>bif aat (iI s o).H.length r.up then Tree.aas r.ab (lZ P S ops enter cont (i+1) l ((iI s o).put o.dst r))else .stuck "up"|none=>.stuck (o.pos++ " " ++(vT P (S (iI s o).H.length) (ji (iI s o).tmps) o).why (iI s o).look)).Holds K C->
   cO P f0 R b t (.inRegion ops (i::range' (i+1) l.length)::k) fs w:=by
   intro s a hr ht hw h;split at h;rename_i tr hc;have:=fY s i o tr hc h ρ a t w ho hw hr ht;rwa[show ops.size - i=l.length+1 from by omega,List.range'_succ]at this;have hr:=hr.iI o;generalize iI s o=s at *;split at h;rename_i q hq;rw[cond_eq_ite]at h;split at h;rename_i hup;have⟨hn,h2⟩:=oT _ _ h;have hy:=hr.op hS nX hq hn (alT hup)
   have hy':Yields P o t.eval w (λv w'=>∃aN,cp X aN (s.put o.dst q) (a.put o.dst v) w'):=by
    unfold Yields at *;rw[(ht.same cP ho).1];exact hy
   intro cs;have⟨v,w',⟨aN,eI⟩,np⟩:=ahJ ho (by rw[(ht.same cP ho).2];exact hw) (o8 ix ho) hy' b k (fs++cs) (rest:=range' (i+1) l.length);have⟨e,w2,fr,g1,g2,g3⟩:=nv hS nX ix cP al1 fY l (i+1) _ hl' ajB h2 aN _ _ w' eI (ht.put lP v) cs;exact⟨e,w2,fr,g1,Comes.of_steps np g2,g3⟩;exact h.elim;exact h.elim
  have oZ:∀(s:St) (a:Act),cp X ρ s a w->ky n rest Ds a t->Region.wanted o (yielded ops a.tmps)=false->(lZ P S ops enter cont (i+1) l {s with tmps:=cX s.tmps o.dst (.bt [])}).Holds K C->
   cO P f0 R b t (.inRegion ops (i::range' (i+1) l.length)::k) fs w:=by
   intro s a hr ht hw h;refine cO.step (λcs=>abS ho (by rw[(ht.same cP ho).2];exact hw) b k (fs++cs)) ?_;exact nv hS nX ix cP al1 fY l (i+1) _ hl' ajB h ρ _ _ w (hr.skip o.dst) (ht.put lP undef)
  unfold lZ at h;simp only[]at h;split at h;rename_i hg;exact oY s a hr ht (by simp[Region.wanted,hg]) h;rename_i g want hg;split at h;exact h.elim;rename_i d hd;split at h;rename_i b' hb
  have hy:yielded ops a.tmps g=some b':=by
   simp only[yielded,hd,Option.bind_some,oU hr hb]
  rw[cond_eq_ite]at h;split at h;rename_i hbw;exact oY s a hr ht (by simp only[Region.wanted,hg,hy];simpa using hbw) h;rename_i hbw;exact oZ s a hr ht (by simp only[Region.wanted,hg,hy];simpa using hbw) h;rename_i b' hb;have eI:cp X ρ {s with tmps:=s.tmps.set d (.s (.aK b'))} a w:=hr.refine hb oV
  have bq:d<s.tmps.length:=by
   rcases lt_or_ge d s.tmps.length with h3|h3;exact h3;rw[List.getD,getElem?_eq_none h3]at hb;simp at hb
  have hy:yielded ops a.tmps g=some b':=by
   simp only[yielded,hd,Option.bind_some];rw[oU eI (d:=d) (b:=b') (by simp[List.getD,bq])]
  have⟨h1,h2⟩:=h;cases b';have h2:=h2 rfl;cases want;exact oY _ a eI ht (by simp only[Region.wanted,hg,hy];rfl) h2;exact oZ _ a eI ht (by simp only[Region.wanted,hg,hy];rfl) h2;have h1:=h1 rfl;cases want;exact oZ _ a eI ht (by simp only[Region.wanted,hg,hy];rfl) h1;exact oY _ a eI ht (by simp only[Region.wanted,hg,hy];rfl) h1;rename_i n0 eq hb
  have bq:d<s.tmps.length:=by
   rcases lt_or_ge d s.tmps.length with h3|h3;exact h3;rw[List.getD,getElem?_eq_none h3]at hb;simp at hb
  have hd0:=hr.den d;rw[hb]at hd0
  obtain⟨bb,hbv,hb0⟩:∃bb,a.tmps.getD d undef=.bool bb/\(bb=eq->n0=0):=by
   have h2:=ay (by simp) hd0;generalize a.tmps.getD d undef=u at h2;cases h2;exact⟨_,rfl,by assumption⟩
  have eI:cp X ρ {s with tmps:=s.tmps.set d (.s (.aK bb))} a w:=hr.abO hb (by rw[hbv];exact aF (.aK bb))
  have hy:yielded ops a.tmps g=some bb:=by
   simp only[yielded,hd,Option.bind_some];rw[oU eI (d:=d) (b:=bb) (by simp[List.getD,bq])]
  have⟨h1,h2⟩:=h;cases bb;have h2:=h2 (by cases eq<;>first|exact hb0 rfl|trivial);cases want;exact oY _ a eI ht (by simp only[Region.wanted,hg,hy];rfl) h2;exact oZ _ a eI ht (by simp only[Region.wanted,hg,hy];rfl) h2;have h1:=h1 (by cases eq<;>first|exact hb0 rfl|trivial);cases want;exact oZ _ a eI ht (by simp only[Region.wanted,hg,hy];rfl) h1;exact oY _ a eI ht (by simp only[Region.wanted,hg,hy];rfl) h1;rename_i hb
  have hy:yielded ops a.tmps g=none:=by
   simp only[yielded,hd,Option.bind_some,aj2 hr hb,undef]
  exact oZ s a hr ht (by simp only[Region.wanted,hg,hy];simp) h;exact h.elim
theorem Wf.top{f0:FuncId}{c:bP}{vs:List Value}{b:Frame}{t:Act}{fs:List Frame}(hl:c.tmps.length=vs.length)(hw:Wf f0 c.stk vs E b t fs):∃rest Ds,ky c.n rest Ds ⟨vs.toArray,[]⟩ t/\(c.stk.plain=true->rest=[])/\
 ∀a' t',ky c.n rest Ds a' t'->a'.defers=[]->Wf f0 c.stk a'.tmps.toList E b t' fs:=by
 obtain⟨hn,v0,rv,v2,Ds,E1,E2,rfl,rfl,hd,h3,h4⟩:=hw;have⟨l0,l1,l2⟩:=pS hl rfl hd h3 h4;refine⟨rv++(Ds.map er++v2),Ds,⟨⟨v0,by simp,by rw[h3.act],l0⟩,by rw[h3.act];rfl⟩,λhp=> ?_,λa' t' ht hdf=> ?_⟩;simp only[um.plain,and_eq_true,not_eq_true']at hp;have⟨⟨p1,p2⟩,p3⟩:=hp;have e1:rv=[]:=List.eq_nil_of_length_eq_zero (by rw[l1,p1];rfl);have e2:Ds=[]:=List.eq_nil_of_length_eq_zero (hd.trans (Nat.eq_of_beq_eq_true p2));have e3:c.stk.below=[]:=List.isEmpty_iff.1 p3;rw[e3]at h4;rw[e1,e2,h4.1];rfl;have⟨rb,k1,k2,k3⟩:=ht.sl;refine⟨hn,rb,rv,v2,Ds,E1,E2,k1,rfl,hd,⟨h3.fr, ?_,h3.ghost⟩,h4⟩;have⟨tt,td⟩:=t';have:=ht.df;rw[hdf]at this;simp only[nil_append]at this;simp only at k2 this;rw[k2,this]
theorem Act.eta{a:Act}(h:a.defers=[]):(⟨a.tmps.toList.toArray,[]⟩:Act)=a:=by
 have⟨x,y⟩:=a;simp only at h;subst h;simp
theorem ky.bool{n:Nat}{rest:List Value}{Ds:List Nat}{a t:Act}(h:ky n rest Ds a t){j:Nat}(hj:rest=[]\/j<n):t.eval (.tmp j)=a.tmps.getD j undef:=by
 rw[h.eval (hj.imp id λg=>λi e=>by cases e;exact g)];rfl
theorem adx{p q:Bool}{rest:List Value}{R:Prop}(h:(p||q)=true)(h1:p=true->rest=[])(h2:q=true->R):rest=[]\/R:=by
 rcases Bool.or_eq_true_iff.1 h with h|h;exact .inl (h1 h);exact .inr (h2 h)
theorem agm{a b:Nat}(h:a.blt b=true):a<b:=by simpa[Nat.blt,Nat.lt_iff_add_one_le]using h
theorem abU{f0:FuncId}{c:bP}{id:Nat}{y:tH×Lp×List AV}{b:Frame}{t:Act}{fs:List Frame}{k:List Item}(eu:c.stk.round=true)(dt:c.tmps.getD c.n (.s .aZ)=.tag id)
 (hf:lg id c.stk.below (c.tmps.drop (c.n+c.stk.extra))=some (y.1,y.2.1,.ready,y.2.2))
 (oY:Safe P f0 X K {c with todo:=k,stk:={c.stk with below:=jM id .busy c.stk.below (c.tmps.drop (c.n+c.stk.extra))}})
 (gN:∀b,X.G b->G b) (ib:∀b,G b->X.G b\/X.w.heap.size<=b) (hr:cp (X.at G E) ρ ⟨c.tmps,c.H⟩ a w) (hw:Wf f0 c.stk a.tmps.toList E b t fs):
 cO P f0 (kx X K) b t (.beginRound::k) fs w:=by
 obtain⟨hn,v0,rv,v2,Ds,E1,E2,e1,rfl,hd,h3,h4⟩:=hw;have⟨l0,l1,l2⟩:=pS hr.dp.len e1 hd h3 h4;have hb:=h3.fr;rw[eu]at hb;obtain⟨r,rfl,l,zG,hrr⟩:=hb;subst zG hrr;have hdp:=hr.dp.drop (c.n+c.stk.extra);rw[l2]at hdp
 have tG:(E2.map (·.1)).Nodup:=by
  rw[map_append]at hn;exact(nodup_append.1 hn).2.1
 have⟨l',D,rb,g1,g2,g3,g4,g5,g6⟩:=pR hf h4 tG hdp.get
 have kZ:a.tmps.toList.getD c.n undef=cv l:=by
  rw[e1,List.getD,getElem?_append_right (by omega),show c.n - v0.length=0 from by omega];rfl
 have lQ:=hr.dp.get c.n;rw[dt,kZ]at lQ;unfold af aO at lQ;have hll:l'=l:=xH (g1.symm.trans lQ.1.symm);subst hll;have iF:=(hr.kept _ (show _∈(E1++E2)from mem_append_right _ g3)).2.2;have azF:=run_beginRound (P:=P) iF rfl
 have hl1:l' ∉ E1.map (·.1):=by
  intro hm;rw[map_append]at hn;exact(nodup_append.1 hn).2.2 l' hm l' (List.mem_map_of_mem (f:=Prod.fst) g3) rfl
 have zH:cp (X.at G (E1++upE l' (Obj.loop (mK.busy.gx y.2.1 (y.1.f.getD f0) rb.toArray D)) E2)) ρ ⟨c.tmps,c.H⟩ a (w.putObj l' (Obj.loop (mK.busy.gx y.2.1 (y.1.f.getD f0) rb.toArray D))):=
  hr.apT (show(l',Obj.loop (mK.ready.gx y.2.1 (y.1.f.getD f0) rb.toArray D))∈(E1++E2)from mem_append_right _ g3) (λz hz=>by
   rcases mem_append.1 hz with h6|h6;exact .inl ⟨List.mem_append_left _ h6,λe=>hl1 (e▸List.mem_map_of_mem (f:=Prod.fst) h6)⟩;rcases ahK z h6 with h7|h7;exact .inl ⟨mem_append_right _ h7.1,h7.2⟩;exact .inr h7)
 have key:=oY G _ ρ a _ gN ib zH _ t fs ⟨by rw[map_append,ads,<-map_append];exact hn,v0,[cv l'],v2,Ds,E1,_,e1,rfl,hd,h3,g6 .busy⟩;exact cO.step (λcs=>stepR_beginRound (l:=l') rfl azF) key
theorem gj{f:FuncId}{fn:Func}{stop inl:Nat→Bool}(hS:SOk P S Z)(nX:eb Z X)(hm:P.follows .mixedOrders=true)(hf:P.funcs[f]? =some fn):∀(n:Nat) (fst:Bool) (c:bP),(exec P S fn stop inl n fst c).Holds K (Safe P f X K)→Safe P f X K c
 |0,_,c,h=>h
 |n+1,fst,c,h=>by
  intro G E ρ a w gN ib hr b t fs hw;have oY:∀c',(exec P S fn stop inl n false c').Holds K (Safe P f X K)→Safe P f X K c':=fun c' h'=>gj hS nX hm hf n false c' h';obtain⟨rest,Ds,re,uq,hwf⟩:=hw.top hr.dp.len;rw[Act.eta hr.defers]at re;have hto:∀k,(exec P S fn stop inl n fst {c with todo:=k}).Holds K (Safe P f X K)→cO P f (kx X K) b t k fs w:=fun k hk=>gj hS nX hm hf n fst _ hk G E ρ a w gN ib hr b t fs hw
  have hbr:c.stk.round=false→b.roundOf=none:=fun h0=>by
   obtain⟨_,_,_,_,_,_,_,_,_,_,h3,_⟩:=hw;have:=h3.fr;rw[h0]at this;obtain⟨r,rfl,_,rfl⟩:=this;rfl
  have asH:∀k,(k=[]∨∃k',k=.code .ret::k')→c.stk.round=false→
   (match c.stk.fn P fn with
     |some g=>(match gF P ⟨c.tmps.take c.n,c.H⟩ g.results.toList with
      |some vs=>ahD c (oneOf vs) (fun c=>exec P S fn stop inl n false c)
      |none=>.stuck "results")
     |none=>.stuck "results: whose?").Holds K (Safe P f X K)→cO P f (kx X K) b t k fs w:=by
   intro k hk h0 h;split at h;rename_i g hg;split at h;rename_i vs hv;have key:=agi (todo:=k) hf hg h0 hv h oY gN ib hr hw;refine fF.steps (fun cs=>.one ?_) key;rcases hk with rfl|⟨k',rfl⟩;exact stepR_end (hbr h0);exact stepR_ret (hbr h0);exact h.elim;exact h.elim
  have awV:∀(ff:Bool) (id:Nat) (rs:Array Oper) (i:Nat) (k:List Item),i≤rs.size→
   (bif iK rs&&(c.stk.plain||l5 c.n rs)then
     lZ P S rs (fun s j o=>
      bif stop (alQ c.stk id j)&& !(ff&&j.beq i)then some (.at {c with tmps:=s.tmps,H:=s.H,todo:=.inRegion rs (range' j (rs.size - j))::k,stk:={c.stk with rid:=id}})else
      match r7 o (ji s.tmps)with
      |some (g,args)=>(match g with
      |.s (.rK f)=>bif inl f then some (oS P {c with tmps:=s.tmps,H:=s.H} f args ⟨c.stk.f,c.n,c.stk.round,c.stk.marks,none,.inRegion rs (range' j (rs.size - j))::k,(id,j)⟩ (fun c=>exec P S fn stop inl n false c))else none
      |.fn f dw=>bif inl f then some (oS P {c with tmps:=s.tmps,H:=s.H} f (args++dw) ⟨c.stk.f,c.n,c.stk.round,c.stk.marks,none,.inRegion rs (range' j (rs.size - j))::k,(id,j)⟩ (fun c=>exec P S fn stop inl n false c))else none
      |.tag y=>some (abL {c with tmps:=s.tmps,H:=s.H} y args ⟨c.stk.f,c.n,c.stk.round,c.stk.marks,none,.inRegion rs (range' j (rs.size - j))::k,(id,j)⟩ (fun c=>exec P S fn stop inl n false c))
      |_=>none)
      |none=>bif ahB o then some (.at {c with tmps:=s.tmps,H:=s.H,todo:=.inRegion rs (range' j (rs.size - j))::k,stk:={c.stk with rid:=id}})else none) (fun s=>exec P S fn stop inl n ff {c with tmps:=s.tmps,H:=s.H,todo:=k,stk:={c.stk with rid:=0}}) i (rs.toList.drop i) ⟨c.tmps,c.H⟩
     else .stuck "region: slots").Holds K (Safe P f X K)→
   cO P f (kx X K) b t (.inRegion rs (range' i (rs.size - i))::k) fs w:=by
   intro ff id rs i k hi h;rw[cond_eq_ite]at h;split at h;rename_i hc;simp only[and_eq_true]at hc;have cP:r9 c.n rest rs:=adx hc.2 uq (fun x=>x);have bC:(rs.toList.drop i).length=rs.size - i:=by simp
   have hcn:∀(s:St),s.tmps.length=c.tmps.length→(bP.n {c with tmps:=s.tmps,H:=s.H})=c.n:=fun s hs=>by unfold bP.n;simp only[hs]
   have key:=nv (X:=X.at G E) (b:=b) (fs:=fs) (k:=k) (f0:=f) (R:=kx X K) (n:=c.n) (rest:=rest) (Ds:=Ds) hS (nX.at G E) hc.1 cP (fun s hs aN a' t' w' eI ht'=> ?_) (fun s j o tr zI htr aN a' t' w' ho awW eI ht'=> ?_)
    (rs.toList.drop i) i ⟨c.tmps,c.H⟩ (fun j=>by rw[List.getElem?_drop,Array.getElem?_toList]) (by rw[bC];omega) h ρ a t w hr re
   rw[bC]at key;exact key;exact gj hS nX hm hf n ff _ hs G E aN a' w' gN ib eI b t' fs (hwf a' t' ht' eI.defers);have hw':=hwf a' t' ht' eI.defers;have ix:=o8 hc.1 ho;rw[cond_eq_ite]at zI;split at zI;cases zI;exact htr G E aN a' w' gN ib eI b t' fs hw';by_cases awX:r7 o (ji s.tmps)=none;rw[awX]at zI;simp only[cond_eq_ite]at zI;split at zI;cases zI;exact htr G E aN a' w' gN ib eI b t' fs hw';cases zI;obtain⟨⟨g,args⟩,gE⟩:=Option.ne_none_iff_exists'.1 awX;rw[gE]at zI;simp only[]at zI;obtain⟨vf,us,hvf,hus,hcf,hcy⟩:=apU (P:=P) gE (e:=a'.eval) (fun x _=>eI.ev x);have al2:Region.wanted o (yielded rs t'.tmps)=true:=by rw[(ht'.same cP ho).2];exact awW
   have hj:j<rs.size:=(Array.getElem?_eq_some_iff.1 ho).1
   have uc:range' j (rs.size - j)=j::range' (j+1) (rs.size - (j+1)):=by
    rw[show rs.size - j=rs.size - (j+1)+1 from by omega,List.range'_succ]
   have asI:s.tmps.length=a'.tmps.toList.length:=eI.dp.len
   have azG:c.tmps.length=s.tmps.length:=by
    obtain⟨v0,k1,_,k3⟩:=ht'.sl;obtain⟨rb,k1',_,k3'⟩:=re.sl;rw[asI,k1,hr.dp.len,k1',length_append,length_append,k3,k3']
   have hn':=hcn s azG.symm;obtain⟨hnE,v0,rv,v2,Ds',E1,E2,e1,e2,hd,h3,h4⟩:=hw';obtain⟨q0,q1,q2⟩:=pS (c:={c with tmps:=s.tmps,H:=s.H}) asI e1 hd h3 h4;have ahL:∀key,WfS f (⟨c.stk.f,c.n,c.stk.round,c.stk.marks,none,.inRegion rs (range' j (rs.size - j))::k,key⟩::c.stk.below) a'.tmps.toList E
    (b.atR t' (.inRegion rs (range' j (rs.size - j))::k)::fs):=fun key=>
    ⟨v0,rv,v2,Ds',E1,E2,b,t',fs,[],[],_,by simpa using e1,by simpa using e2,rfl,q0.trans hn',hd,h3,h4,rfl,rfl,rfl⟩
   have push:∀(g':FuncId) (cs:List AV) (vs:List Value),vf=.func (.func g') #[] vs.toArray→bM aN s.look (aW aN s.look G) w' cs vs→
    (oS P {c with tmps:=s.tmps,H:=s.H} g' (args++cs) ⟨c.stk.f,c.n,c.stk.round,c.stk.marks,none,.inRegion rs (range' j (rs.size - j))::k,(id,j)⟩ (fun c=>exec P S fn stop inl n false c)).Holds K (Safe P f X K)→
    cO P f (kx X K) b t' (.inRegion rs (range' j (rs.size - j))::k) fs w':=by
    intro g' cs vs hv qZ htr;obtain⟨aum,key⟩:=vC (c:={c with tmps:=s.tmps,H:=s.H}) (us:=us++vs) htr oY gN ib eI (jL hus qZ) hnE (ahL _);refine fF.steps (fun cs=>.one ?_) key;rw[uc];refine alW ho al2 ix ?_ b k (fs++cs);rw[(ht'.same cP ho).1];exact hcf g' vs hv aum
   split at zI;rename_i g';rw[cond_eq_ite]at zI;split at zI;cases zI;exact push g' [] [] (abJ (ay (by simp) hvf)) (ba.2 rfl) (by rw[append_nil];exact htr);cases zI;rename_i g' dw;rw[cond_eq_ite]at zI;split at zI;cases zI;unfold af at hvf;obtain⟨vs,hv,r5⟩:=hvf;exact push g' dw vs hv r5 htr;cases zI;rename_i y;cases zI;have apV:a'.tmps.toList.drop (bP.n {c with tmps:=s.tmps,H:=s.H}+c.stk.extra)=v2:=q2;obtain⟨l,r,hv,iF,awY,key⟩:=adu (c:={c with tmps:=s.tmps,H:=s.H}) (us:=us) htr oY gN ib eI hus hnE (ahL _) e2 apV h4 hvf;refine fF.steps (fun cs=>.one ?_) key;rw[uc];refine alX ho al2 ix ?_ b k (fs++cs);rw[(ht'.same cP ho).1];exact hcy l hv r iF awY;cases zI;exact h.elim
  unfold exec at h;simp only[]at h;split at h;rename_i od;rw[od];rw[cond_eq_ite]at h;split at h;rename_i eu;exact rf eu h oY gN ib hr hw (fun l w' c0 cs h1 h2 h3=>stepR_round_end h1 h2 h3);rename_i eu;exact asH [] (.inl rfl) (by simpa using eu) h;rename_i k od;rw[od];rw[cond_eq_ite]at h;split at h;rename_i eu;exact rf eu h oY gN ib hr hw (fun l w' c0 cs h1 h2 h3=>stepR_round_ret h1 h2 h3);rename_i eu;exact asH _ (.inr ⟨k,rfl⟩) (by simpa using eu) h;rename_i k od;rw[od];exact cO.step (fun _=>stepR_skip) (hto _ h);rename_i k l od;rw[od];exact cO.step (fun _=>stepR_label) (hto _ h);rename_i k od;rw[od];exact cO.step (fun _=>stepR_inBlock) (hto _ h);rename_i k od;rw[od];exact cO.step (fun _=>step_lone_go (by simp[stepG,stepG.exec,Frame.atR])) (hto _ h);rename_i x y k od;rw[od];exact cO.step (fun _=>stepR_seq) (hto _ h);rename_i id body k od;rw[od];exact cO.step (fun _=>stepR_block) (hto _ h);rename_i body k od;rw[od];exact cO.step (fun _=>step_lone_go (by simp[stepG,stepG.exec,Frame.atR])) (hto _ h);rename_i id k od;rw[od];split at h;rename_i k' hk';exact cO.step (fun _=>stepR_exit hk') (hto _ h);rename_i hk';rw[cond_eq_ite]at h;split at h;rename_i eu;exact rf eu h oY gN ib hr hw (fun l w' c0 cs h1 h2 h3=>stepR_round_exit h1 h2 hk' h3);exact h.elim;rename_i j x y k od;rw[od];rw[cond_eq_ite]at h;split at h;rename_i aun;have cP:rest=[]∨j<c.n:=adx aun uq agm;split at h;rename_i bb hb
  have hev:t.eval (.tmp j)=.bool bb:=by
   rw[re.bool cP];have h1:=oU hr hb;rw[getD_eq_getD_getElem?,h1];rfl
  refine cO.step (fun _=>stepR_cond hev) ?_;have:=hto _ h;cases bb<;>exact this;rename_i bb hb;have eI:cp (X.at G E) ρ ⟨c.tmps.set j (.s (.aK bb)),c.H⟩ a w:=hr.refine hb oV
  have bq:j<c.tmps.length:=by
   rcases lt_or_ge j c.tmps.length with h3|h3;exact h3;rw[List.getD,getElem?_eq_none h3]at hb;simp at hb
  have hev:t.eval (.tmp j)=.bool bb:=by
   rw[re.bool cP];have h1:=oU eI (d:=j) (b:=bb) (by simp[List.getD,bq]);rw[getD_eq_getD_getElem?,h1];rfl
  refine cO.step (fun _=>stepR_cond hev) ?_;obtain⟨h1,h2⟩:=h;cases bb;exact gj hS nX hm hf n _ _ (h2 rfl) G E ρ a w gN ib eI b t fs hw;exact gj hS nX hm hf n _ _ (h1 rfl) G E ρ a w gN ib eI b t fs hw;rename_i n0 eq hb
  have bq:j<c.tmps.length:=by
   rcases lt_or_ge j c.tmps.length with h3|h3;exact h3;rw[List.getD,getElem?_eq_none h3]at hb;simp at hb
  have hd0:=hr.den j;rw[show(St.tmps ⟨c.tmps,c.H⟩).getD j (.s .aZ)=_ from hb]at hd0
  obtain⟨bb,hbv,hb0⟩:∃bb,a.tmps.getD j undef=.bool bb∧(bb=eq→n0=0):=by
   have h2:=ay (by simp) hd0;generalize a.tmps.getD j undef=u at h2;cases h2;exact⟨_,rfl,by assumption⟩
  have eI:cp (X.at G E) ρ ⟨c.tmps.set j (.s (.aK bb)),c.H⟩ a w:=hr.abO hb (by rw[hbv];exact aF (.aK bb));have hev:t.eval (.tmp j)=.bool bb:=by rw[re.bool cP,hbv]
  refine cO.step (fun _=>stepR_cond hev) ?_;obtain⟨h1,h2⟩:=h;cases bb;exact gj hS nX hm hf n _ _ (h2 (by cases eq<;>first|exact hb0 rfl|trivial)) G E ρ a w gN ib eI b t fs hw;exact gj hS nX hm hf n _ _ (h1 (by cases eq<;>first|exact hb0 rfl|trivial)) G E ρ a w gN ib eI b t fs hw;exact h.elim;exact h.elim;rename_i id rs draw k od;rw[od];rw[cond_eq_ite]at h;split at h;have:=h G E ρ a w gN ib hr b t fs hw;rwa[od]at this;cases draw;simp only[cond_false]at h;have key:=awV false id rs 0 k (zero_le _) h;refine cO.step (fun _=>stepR_region) ?_;rw[List.range_eq_range'];simpa using key;simp only[cond_true]at h;rw[cond_eq_ite]at h;split at h;rename_i hso;simp only[and_eq_true]at hso;obtain⟨⟨⟨awZ,auo⟩,ix⟩,hsl⟩:=hso;have cP:r9 c.n rest rs:=adx hsl uq (fun x=>x);rw[cond_eq_ite]at h;split at h;rename_i hcc;simp only[and_eq_true]at hcc;obtain⟨bq,aj6⟩:=hcc;have bq:=agm bq
  have aup:=agj (j0:=cutAt rs) (Nat.le_of_lt bq) aj6 (X:=X.at G E) (Q:=fun a' w'=>∃aN s',(exec P S fn stop inl n false {c with tmps:=s'.tmps,H:=s'.H,todo:=.inRegion rs (range' (cutAt rs) (rs.size - cutAt rs))::k,stk:={c.stk with rid:=id}}).Holds K (Safe P f X K)∧cp (X.at G E) aN s' a' w') hS (nX.at G E) awZ auo h (fun s' rI hh=>by
   rw[cond_eq_ite]at hh;split at hh;rename_i hc;exact hc;exact hh.elim) (fun aN s' rI a' w' hh eI=>by
   rw[cond_eq_ite]at hh;split at hh;exact⟨aN,s',hh,eI⟩;exact hh.elim) hr.drew
  have agn:=fun tt=>aj4 (cutAt rs) tt _ a _ aup;refine cO.step (fun _=>stepR_region_draw) ?_
  have azH:Region.schedule (P.follows .mixedOrders) rs (w.tape w.drawn (.order b.fn id))=Region.linearise.go .any rs (cutAt rs) (w.tape w.drawn (.order b.fn id)) (Array.replicate rs.size false) []++range' (cutAt rs) (rs.size - cutAt rs):=by
   simp only[Region.schedule,hm,Bool.true_or,if_true];exact xL auo (Nat.le_of_lt bq) aj6 _
  rw[azH];have al3:=ia cP (fun e a w hq=>hq.1) _ a t _ re (agn (w.tape w.drawn (.order b.fn id)));intro cs;obtain⟨a1,w1,⟨_,a',⟨_,aN,s',hh,eI⟩,ht'⟩,lq⟩:=fZ ix (fun e a w hq=>hq.1) _ t _ al3 b k (fs++cs);have key:=gj hS nX hm hf n false _ hh G E aN a' w1 gN ib eI b a1 fs (hwf a' a1 ht' eI.defers) cs;obtain⟨e,w2,fr,g1,g2,g3⟩:=key;exact⟨e,w2,fr,g1,Comes.of_steps lq g2,g3⟩
  have aup:=abQ (X:=X.at G E) (Q:=fun a' w'=>∃aN s',(exec P S fn stop inl n false {c with tmps:=s'.tmps,H:=s'.H,todo:=k}).Holds K (Safe P f X K)∧cp (X.at G E) aN s' a' w') hS (nX.at G E) awZ auo h (fun s' rI hh=>by
   rw[cond_eq_ite]at hh;split at hh;rename_i hc;exact hc;exact hh.elim) (fun aN s' rI a' w' hh eI=>by
   rw[cond_eq_ite]at hh;split at hh;exact⟨aN,s',hh,eI⟩;exact hh.elim) hr.drew
  have agn:∀tt,wpOps P rs (fun e a' w'=>e=.normal∧∃aN s',(exec P S fn stop inl n false {c with tmps:=s'.tmps,H:=s'.H,todo:=k}).Holds K (Safe P f X K)∧cp (X.at G E) aN s' a' w') (Region.schedule (P.follows .mixedOrders) rs tt) a {w with drawn:=w.drawn+1}:=fun tt=>by
   simp only[Region.schedule,hm,Bool.true_or,if_true];exact wpAny_sound rs.size tt _ a _ aup
  refine cO.step (fun _=>stepR_region_draw) ?_;have al3:=ia cP (fun e a w hq=>hq.1) _ a t _ re (agn (w.tape w.drawn (.order b.fn id)));intro cs;obtain⟨a1,w1,⟨_,a',⟨_,aN,s',hh,eI⟩,ht'⟩,lq⟩:=hZ ix (fun e a w hq=>hq.1) _ t _ al3 b k (fs++cs);have key:=gj hS nX hm hf n false _ hh G E aN a' w1 gN ib eI b a1 fs (hwf a' a1 ht' eI.defers) cs;obtain⟨e,w2,fr,g1,g2,g3⟩:=key;exact⟨e,w2,fr,g1,Comes.of_steps lq g2,g3⟩;exact h.elim;rename_i rs todo k od;rw[od];rw[cond_eq_ite]at h;split at h;rename_i he;simp only[and_eq_true]at he;have hle:todo.length≤rs.size:=le_of_ble_eq_true he.1;have he:todo=range' (rs.size - todo.length) todo.length:=by simpa using he.2
  have key:=awV fst c.stk.rid rs (rs.size - todo.length) k (by omega) h;rw[show rs.size - (rs.size - todo.length)=todo.length from by omega,←he]at key;exact key;exact h.elim;rename_i k od;rw[od];rw[cond_eq_ite]at h;split at h;rename_i eu;split at h;rename_i id dt;split at h;rename_i d L sl hf';exact abU (y:=(d,L,sl)) eu dt hf' (gj hS nX hm hf n _ _ h) gN ib hr hw;exact h.elim;exact h.elim;exact h.elim;rename_i j ps asg body k od;rw[od];rw[cond_eq_ite]at h;split at h;rename_i aun;have cP:rest=[]∨j<c.n:=adx aun uq agm;split at h;rename_i g hg;have hd0:=hr.den j;rw[show(St.tmps ⟨c.tmps,c.H⟩).getD j (.s .aZ)=_ from hg]at hd0;have hv:=abJ (ay (by simp) hd0);exact vE (g:=.tmp j) (cvs:=[]) rfl h oY gN ib hr hw (by rw[re.bool cP,hv]) (ba.2 rfl);rename_i g dw hg;have hd0:=hr.den j;rw[show(St.tmps ⟨c.tmps,c.H⟩).getD j (.s .aZ)=_ from hg]at hd0;unfold af at hd0;obtain⟨vs,hv,r5⟩:=hd0;exact vE (g:=.tmp j) (cvs:=vs) rfl h oY gN ib hr hw (by rw[re.bool cP,hv]) r5;exact h.elim;exact h.elim;rename_i body k od;rw[od];rw[cond_eq_ite]at h;split at h;exact cO.step (fun _=>stepR_loop) (gj hS nX hm hf n _ _ h G E ρ a w gN ib hr b t fs hw);exact cO.step (fun _=>stepR_loop) (h G E ρ a w gN ib hr b t fs hw);rename_i body k od;rw[od];rw[cond_eq_ite]at h;split at h;exact cO.step (fun _=>stepR_inLoop) (gj hS nX hm hf n _ _ h G E ρ a w gN ib hr b t fs hw);exact cO.step (fun _=>stepR_inLoop) (h G E ρ a w gN ib hr b t fs hw);exact h G E ρ a w gN ib hr b t fs hw
theorem Wf.base(f:FuncId){a:Act}(h:a.defers=[]):Wf f {} a.tmps.toList [] {(default:Frame)with fn:=f,kind:=.normal,roundOf:=none} a []:=
 ⟨List.nodup_nil,a.tmps.toList,[],[],[],[],[],by simp,rfl,rfl,⟨⟨none,rfl,rfl,rfl⟩,(Act.eta h).symm,rfl⟩,rfl,rfl,rfl⟩
theorem Safe.goes{f:FuncId}{c:bP}(h:Safe P f X K c)(hc:c.stk={})(hE:X.E=[])(hr:cp X ρ ⟨c.tmps,c.H⟩ a w):cO P f (kx X K) {(default:Frame)with fn:=f,kind:=.normal,roundOf:=none} a c.todo [] w:=by
 have e:X.at X.G []=X:=by
  have⟨x1,x2,x3,x4,x5⟩:=X;simp only at hE;subst hE;rfl
 exact h X.G [] ρ a w (λ_ h=>h) (λ_ h=>.inl h) (by rw[e];exact hr) _ a [] (by rw[hc];exact Wf.base f hr.defers)
end
def allM{α β:Type}(f:α->Option β):List α->Option (List β)
 |[]=>some []|a::aQ=>match f a,allM f aQ with
  |some b,some bs=>some (b::bs)|_,_=>none
def zt:SV->SV
 |.aS k n=>.int k n|.aK b=>.bool b|x=>x
def rn(g:Nat->Option Nat):Nat->AV->Option AV
 |0,_=>none|d+1,a=>
  match a with
  |.s x=>some (.s (zt x))|.ptr id off=>(g id).map λj=>.ptr j off|.kT id off n i=>(g id).map λj=>.kT j off n i|.kp c m j=>some (.kp c m j)|.vec id=>(g id).map λj=>.vec j|.gR id i j=>(g id).map λl=>.gR l i j|.part id lo n=>(g id).map λl=>.part l lo n|.sub id off n=>(g id).map λl=>.sub l off n|.lO id i j n=>(g id).map λl=>.lO l i j n|.emp=>some .emp|.agg az=>(allM (rn g d) az).map .agg|.ah k n ws=>some (.ah k n ws)|.bt vs=>(allM (rn g d) vs).map .bt|.fn f dw=>(allM (rn g d) dw).map (.fn f)|.fnb f dw=>(allM (rn g d) dw).map (.fnb f)|.fA id=>(g id).map λj=>.fA j|.tag id=>(g id).map λj=>.tag j
def xO(g:Nat->Option Nat):ak->Option ak
 |.aq az e=>(allM (rn g 20) az).map λs=>.aq s e|.vec c e=>some (.vec c e)|.map ck m=>some (.map ck m)|.im ck m gid=>match g gid with
  |some j=>some (.im ck m j)|none=>some (.map ck m)
 |.iter mid gid ck left cur=>match g mid,g gid with
  |some i,some j=>some (.iter i j ck left cur)|_,_=>none
 |.ax=>some .ax
structure Emb (g:Nat->Option Nat) (ρ:Nat->Value) (H:aT) (O:Nat->Prop) (aN:Nat->Value) (H':aT) (O':Nat->Prop):Prop where
 id:∀i j,g i=some j->aN j=ρ i/\∀o,H i=some o->∃o',H' j=some o'/\∀c e,o'=.vec c e->o=.vec c e
 gu:∀b,O' b->O b
section
variable{g:Nat->Option Nat}{ρ aN:Nat->Value}{H H':aT}{G O O':Nat->Prop}{w w':World}{P:Program}{S:fI}{Z:bm}{X:Ctx}{s:St}{a:Act}{K:List ak->AV->Prop}{C:bP->Prop}
theorem allM_cons{α β:Type}{f:α->Option β}{a:α}{aQ:List α}{l:List β}(h:allM f (a::aQ)=some l):∃b bs,f a=some b/\allM f aQ=some bs/\l=b::bs:=by
 unfold allM at h;split at h;rename_i b bs h1 h2;simp only[Option.some.injEq]at h;exact⟨b,bs,h1,h2,h.symm⟩;cases h
theorem ic{α β:Type}{f:α->Option β}:∀{aQ:List α} {l:List β},allM f aQ=some l->l.length=aQ.length
 |[],l,h=>by simp only[allM,Option.some.injEq]at h;subst h;rfl
 |a::aQ,l,h=>by
  obtain⟨b,bs,_,h2,rfl⟩:=allM_cons h;simp[ic h2]
theorem gG{α β:Type}{f:α->Option β}:∀{aQ:List α} {l:List β},allM f aQ=some l->∀(i:Nat) (a:α),aQ[i]? =some a->∃b,f a=some b/\l[i]? =some b
 |[],l,h,i,a,hi=>by simp at hi
 |a::aQ,l,h,i,x,hi=>by
  obtain⟨b,bs,h1,h2,rfl⟩:=allM_cons h;cases i with
  |zero=>simp only[List.getElem?_cons_zero,Option.some.injEq]at hi;subst hi;exact⟨b,h1,rfl⟩|succ i=>simpa using gG h2 i x (by simpa using hi)
theorem aX.less(gu:∀b,O' b->O b){x:SV}{v:Value}(h:aX O w x v):aX O' w x v:=
 h.step (λb hb=>.inl (gu b hb)) (λ_ _ _=>rfl) (le_refl _)
theorem aX.zt{x:SV}{v:Value}(h:aX O w x v):aX O w (zt x) v:=by
 cases h<;>first
  |exact aX.int _ _|exact aX.bool _|(refine aX.ro _ _ _ _ _ _ ?_ ?_ ?_ ?_ ?_<;>assumption)
  |(constructor<;>assumption)
  |constructor
theorem aj7(gu:∀b,O' b->O b){x:SV}{v:Value}(h:af ρ H O w (.s x) v):af aN H' O' w (.s (Sx.zt x)) v:=by
 by_cases hx:x=.aZ;subst hx;unfold af;trivial;have h1:=ay hx h;exact aF (h1.less gu).zt
theorem xP(E:Emb g ρ H O aN H' O'):∀(d:Nat),
 (∀a a' v,rn g d a=some a'->af ρ H O w a v->af aN H' O' w a' v)/\(∀a a' cs,rn g d a=some a'->aR ρ H O w a cs->aR aN H' O' w a' cs):=by
 have isSome:∀{i j:Nat},g i=some j->(H i).isSome=true->(H' j).isSome=true:=by
  intro i j hg hi;have⟨o,ho⟩:=isSome_iff_exists.1 hi;have⟨o',dI,_⟩:=(E.id i j hg).2 o ho;rw[dI];rfl
 have aw0:∀{i j:Nat} {v:Value},g i=some j->aO ρ H O w (.vec i) v->aO aN H' O' w (.vec j) v:=by
  intro i j v hg h;unfold aO at *;have⟨h0,o,ho,h1⟩:=h;have⟨hr,h2⟩:=E.id i j hg;have⟨o',dI,h3⟩:=h2 o ho;exact⟨h0,o',dI,λc e hc=>by rw[hr];exact h1 c e (h3 c e hc)⟩
 have asJ:∀{i j:Nat} {v:Value} {m n:Nat},g i=some j->aO ρ H O w (.gR i m n) v->aO aN H' O' w (.gR j m n) v:=by
  intro i j v m n hg h;unfold aO at *;have⟨h0,o,ho,h1⟩:=h;have⟨hr,h2⟩:=E.id i j hg;have⟨o',dI,h3⟩:=h2 o ho;exact⟨h0,o',dI,λc e hc=>by rw[hr];exact h1 c e (h3 c e hc)⟩
 have asL:∀{i j:Nat} {v:Value} {m n:Nat},g i=some j->aO ρ H O w (.part i m n) v->aO aN H' O' w (.part j m n) v:=by
  intro i j v m n hg h;unfold aO at *;have⟨h0,o,ho,h1⟩:=h;have⟨hr,h2⟩:=E.id i j hg;have⟨o',dI,h3⟩:=h2 o ho;exact⟨h0,o',dI,λc e hc=>by rw[hr];exact h1 c e (h3 c e hc)⟩
 have aw1:∀{i j:Nat} {v:Value} {m n:Nat},g i=some j->aO ρ H O w (.sub i m n) v->aO aN H' O' w (.sub j m n) v:=by
  intro i j v m n hg h;unfold aO at *;have⟨h0,b,a,cap,h1,h2,h4,h3⟩:=h;exact⟨h0,b,a,cap,by rw[(E.id i j hg).1,h1],h2,h4,isSome hg h3⟩
 have asN:∀{i j:Nat} {v:Value} {m n l:Nat},g i=some j->aO ρ H O w (.lO i m n l) v->aO aN H' O' w (.lO j m n l) v:=by
  intro i j v m n l hg h;unfold aO at *;have⟨h0,o,ho,h1⟩:=h;have⟨hr,h2⟩:=E.id i j hg;have⟨o',dI,h3⟩:=h2 o ho;exact⟨h0,o',dI,λc e hc=>by rw[hr];exact h1 c e (h3 c e hc)⟩
 have aw2:∀{i j:Nat} {v:Value} {off:Nat},g i=some j->aO ρ H O w (.ptr i off) v->aO aN H' O' w (.ptr j off) v:=by
  intro i j v off hg h;unfold aO at *;have⟨b,h1,h2,h3⟩:=h;exact⟨b,by rw[(E.id i j hg).1,h1],h2,isSome hg h3⟩
 have aw3:∀{i j:Nat} {v:Value},g i=some j->aO ρ H O w (.fA i) v->aO aN H' O' w (.fA j) v:=by
  intro i j v hg h;unfold aO at *;have⟨b,h1,h2,h3⟩:=h;exact⟨b,by rw[(E.id i j hg).1,h1],h2,isSome hg h3⟩
 have aw4:∀{i j:Nat} {v:Value},g i=some j->aO ρ H O w (.tag i) v->aO aN H' O' w (.tag j) v:=by
  intro i j v hg h;unfold aO at *;have⟨h1,h2,h3⟩:=h;exact⟨by rw[(E.id i j hg).1,h1],h2,isSome hg h3⟩
 have asO:∀{i j:Nat} {v:Value} {off n l:Nat},g i=some j->aO ρ H O w (.kT i off n l) v->aO aN H' O' w (.kT j off n l) v:=by
  intro i j v off n l hg h;unfold aO at *;have⟨h0,b,h1,h2,h3⟩:=h;exact⟨h0,b,by rw[(E.id i j hg).1,h1],h2,isSome hg h3⟩
 have asP:∀{c:aV} {m j:Nat} {v:Value},aO ρ H O w (.kp c m j) v->aO aN H' O' w (.kp c m j) v:=by
  intro c m j v h;unfold aO at *;have⟨b,o,us,h1,h2,h3,h4⟩:=h;exact⟨b,o,us,h1,λh5=>h2 (E.gu b h5),h3,λi hi=>⟨(h4 i hi).1,(h4 i hi).2.less E.gu⟩⟩
 intro d
 induction d with
 |zero=>exact⟨λa a' v h=>by simp[rn]at h,λa a' cs h=>by simp[rn]at h⟩
 |succ d ih=>
  have lst:∀(aQ dN:List AV) (vs:List Value),allM (rn g d) aQ=some dN->bM ρ H O w aQ vs->bM aN H' O' w dN vs:=by
   intro aQ
   induction aQ with
   |nil=>intro dN vs h hd;simp only[allM,Option.some.injEq]at h;subst h;rw[ba.1 hd];exact ba.2 rfl
   |cons a aQ ihl=>
    intro dN vs h hd;obtain⟨b,bs,h1,h2,rfl⟩:=allM_cons h;obtain⟨v,rest,rfl,h3,h4⟩:=aE.1 hd;exact aE.2 ⟨v,rest,rfl,ih.1 a b v h1 h3,ihl bs rest h2 h4⟩
  have sgs:∀(aQ dN:List AV) (cs:List Value),allM (rn g d) aQ=some dN->aA ρ H O w aQ cs->aA aN H' O' w dN cs:=by
   intro aQ
   induction aQ with
   |nil=>intro dN vs h hd;simp only[allM,Option.some.injEq]at h;subst h;rw[aD.1 hd];exact aD.2 rfl
   |cons a aQ ihl=>
    intro dN vs h hd;obtain⟨b,bs,h1,h2,rfl⟩:=allM_cons h;obtain⟨c1,c2,rfl,h3,h4⟩:=ag.1 hd;exact ag.2 ⟨c1,c2,rfl,ih.2 a b c1 h1 h3,ihl bs c2 h2 h4⟩
  refine⟨λa a' v h hd=> ?_,λa a' cs h hd=> ?_⟩;cases a<;>simp only[rn,map_eq_some_iff,Option.some.injEq,reduceCtorEq]at h
  case s x=>subst h;exact aj7 E.gu hd
  case ptr id off=>obtain⟨j,hg,rfl⟩:=h;unfold af at *;exact aw2 hg hd
  case kT id off n i=>obtain⟨j,hg,rfl⟩:=h;unfold af at *;exact asO hg hd
  case kp c m j=>subst h;unfold af at *;exact asP hd
  case vec id=>obtain⟨j,hg,rfl⟩:=h;unfold af at *;exact aw0 hg hd
  case gR id i j=>obtain⟨l,hg,rfl⟩:=h;unfold af at *;exact asJ hg hd
  case part id lo n=>obtain⟨l,hg,rfl⟩:=h;unfold af at *;exact asL hg hd
  case sub id off n=>obtain⟨l,hg,rfl⟩:=h;unfold af at *;exact aw1 hg hd
  case lO id i j n=>obtain⟨l,hg,rfl⟩:=h;unfold af at *;exact asN hg hd
  case emp=>subst h;unfold af at *;exact hd
  case agg az=>obtain⟨l,hl,rfl⟩:=h;unfold af at *;have⟨cs,h1,h2⟩:=hd;exact⟨cs,h1,sgs _ _ _ hl h2⟩
  case ah k n ws=>subst h;unfold af at *;exact hd
  case bt vs=>obtain⟨l,hl,rfl⟩:=h;unfold af at *;have⟨us,h1,h2⟩:=hd;exact⟨us,h1,lst _ _ _ hl h2⟩
  case fn f dw=>obtain⟨l,hl,rfl⟩:=h;unfold af at *;have⟨us,h1,h2⟩:=hd;exact⟨us,h1,lst _ _ _ hl h2⟩
  case fnb f dw=>obtain⟨l,hl,rfl⟩:=h;unfold af at *;have⟨us,h1,h2⟩:=hd;exact⟨us,h1,lst _ _ _ hl h2⟩
  case fA id=>obtain⟨j,hg,rfl⟩:=h;unfold af at *;exact aw3 hg hd
  case tag id=>obtain⟨j,hg,rfl⟩:=h;unfold af at *;exact aw4 hg hd
  cases a<;>simp only[rn,map_eq_some_iff,Option.some.injEq,reduceCtorEq]at h
  case s x=>subst h;unfold aR at *;have⟨u,h1,h2⟩:=hd;exact⟨u,h1,(h2.less E.gu).zt⟩
  case ptr id off=>obtain⟨j,hg,rfl⟩:=h;unfold aR at *;have⟨u,h1,h2⟩:=hd;exact⟨u,h1,aw2 hg h2⟩
  case kT id off n i=>obtain⟨j,hg,rfl⟩:=h;unfold aR at *;have⟨u,h1,h2⟩:=hd;exact⟨u,h1,asO hg h2⟩
  case kp c m j=>subst h;unfold aR at *;have⟨u,h1,h2⟩:=hd;exact⟨u,h1,asP h2⟩
  case vec id=>obtain⟨j,hg,rfl⟩:=h;unfold aR at *;have⟨u,h1,h2⟩:=hd;exact⟨u,h1,aw0 hg h2⟩
  case gR id i j=>obtain⟨l,hg,rfl⟩:=h;unfold aR at *;have⟨u,h1,h2⟩:=hd;exact⟨u,h1,asJ hg h2⟩
  case part id lo n=>obtain⟨l,hg,rfl⟩:=h;unfold aR at *;have⟨u,h1,h2⟩:=hd;exact⟨u,h1,asL hg h2⟩
  case sub id off n=>obtain⟨l,hg,rfl⟩:=h;unfold aR at *;have⟨u,h1,h2⟩:=hd;exact⟨u,h1,aw1 hg h2⟩
  case lO id i j n=>obtain⟨l,hg,rfl⟩:=h;unfold aR at *;have⟨u,h1,h2⟩:=hd;exact⟨u,h1,asN hg h2⟩
  case emp=>subst h;unfold aR at *;exact hd
  case agg az=>unfold aR at hd;exact hd.elim
  case ah k n ws=>subst h;unfold aR at *;exact hd
  case bt vs=>unfold aR at hd;exact hd.elim
  case fn f dw=>obtain⟨l,hl,rfl⟩:=h;unfold aR at *;have⟨u,h1,us,h2,h3⟩:=hd;exact⟨u,h1,us,h2,lst _ _ _ hl h3⟩
  case fnb f dw=>obtain⟨l,hl,rfl⟩:=h;unfold aR at *;have⟨u,h1,us,h2,h3⟩:=hd;exact⟨u,h1,us,h2,lst _ _ _ hl h3⟩
  case fA id=>obtain⟨j,hg,rfl⟩:=h;unfold aR at *;have⟨u,h1,h2⟩:=hd;exact⟨u,h1,aw3 hg h2⟩
  case tag id=>obtain⟨j,hg,rfl⟩:=h;unfold aR at *;have⟨u,h1,h2⟩:=hd;exact⟨u,h1,aw4 hg h2⟩
theorem wx(E:Emb g ρ H O aN H' O'){d:Nat}:∀{aQ dN:List AV} {vs:List Value},allM (rn g d) aQ=some dN->bM ρ H O w aQ vs->bM aN H' O' w dN vs
 |[],dN,vs,h,hd=>by simp only[allM,Option.some.injEq]at h;subst h;rw[ba.1 hd];exact ba.2 rfl
 |a::aQ,dN,vs,h,hd=>by
  obtain⟨b,bs,h1,h2,rfl⟩:=allM_cons h;obtain⟨v,rest,rfl,h3,h4⟩:=aE.1 hd;exact aE.2 ⟨v,rest,rfl,(xP E d).1 a b v h1 h3,wx E h2 h4⟩
theorem xQ(E:Emb g ρ H O aN H' O'){d:Nat}:∀{aQ dN:List AV} {cs:List Value},allM (rn g d) aQ=some dN->aA ρ H O w aQ cs->aA aN H' O' w dN cs
 |[],dN,vs,h,hd=>by simp only[allM,Option.some.injEq]at h;subst h;rw[aD.1 hd];exact aD.2 rfl
 |a::aQ,dN,vs,h,hd=>by
  obtain⟨b,bs,h1,h2,rfl⟩:=allM_cons h;obtain⟨c1,c2,rfl,h3,h4⟩:=ag.1 hd;exact ag.2 ⟨c1,c2,rfl,(xP E d).2 a b c1 h1 h3,xQ E h2 h4⟩
theorem abV(E:Emb g ρ H O aN H' O'){o o':ak}{aa:Value}(h:xO g o=some o')(hs:iA ρ H O w aa o):iA aN H' O' w aa o':=by
 cases o with
 |ax=>simp only[xO,Option.some.injEq]at h;subst h;trivial|map ck m=>simp only[xO,Option.some.injEq]at h;subst h;exact hs|im ck m gid=>
  have⟨b,es,clock,h0,h1,h2,h3,h4⟩:=hs;simp only[xO]at h;split at h;rename_i j hj;simp only[Option.some.injEq]at h;subst h;have⟨e1,e2⟩:=E.id _ _ hj;have⟨o,ho⟩:=isSome_iff_exists.1 h4;have⟨o',dI,_⟩:=e2 o ho;exact⟨b,es,clock,h0,h1,h2,by rw[e1];exact h3,by rw[dI];rfl⟩;simp only[Option.some.injEq]at h;subst h;exact⟨b,es,clock,h0,h1,h2⟩
 |iter mid gid ck left cur=>
  have⟨b,mb,es,clock,seen,h0,h1,h2,h3,h4,h5,h6⟩:=hs;simp only[xO]at h;split at h;rename_i i j hi hj;simp only[Option.some.injEq]at h;subst h;have⟨e1,e2⟩:=E.id _ _ hj;have⟨o,ho⟩:=isSome_iff_exists.1 h4;have⟨o',dI,_⟩:=e2 o ho;have⟨e3,e4⟩:=E.id _ _ hi;have⟨p,hp⟩:=isSome_iff_exists.1 h6;have⟨p',hp',_⟩:=e4 p hp;exact⟨b,mb,es,clock,seen,h0,h1,h2,by rw[e1];exact h3,by rw[dI];rfl,by rw[e3];exact h5,by rw[hp'];rfl⟩;cases h
 |aq az e=>
  simp only[xO,map_eq_some_iff]at h;obtain⟨l,hl,rfl⟩:=h;have⟨b,cells,fr,h0,h1,h2,h3⟩:=hs;exact⟨b,cells,fr,h0,h1,h2,xQ E hl h3⟩
 |vec c e=>
  simp only[xO,Option.some.injEq]at h;subst h;have⟨r,cap,h0,h1,h2,h3⟩:=hs;refine⟨r,cap,h0,h1,h2,h3.imp id ?_⟩;rintro⟨b,f,cells,fr,us,h4,h5,h6,h7,h8⟩;exact⟨b,f,cells,fr,us,h4,h5,h6,h7,λi j hi hj=>⟨(h8 i j hi hj).1,(h8 i j hi hj).2.less E.gu⟩⟩
theorem cU{o o':ak}(h:xO g o=some o'):o'.alive=o.alive/\∀c e,o'=.vec c e->o=.vec c e:=by
 cases o with
 |ax=>simp only[xO,Option.some.injEq]at h;subst h;exact⟨rfl,λc e hc=>by cases hc⟩
 |map ck m=>simp only[xO,Option.some.injEq]at h;subst h;exact⟨rfl,λc e hc=>by cases hc⟩
 |im ck m gid=>
  simp only[xO]at h;split at h<;>simp only[Option.some.injEq]at h<;>subst h<;>exact⟨rfl,λc e hc=>by cases hc⟩
 |iter mid gid ck left cur=>
  simp only[xO]at h;split at h;simp only[Option.some.injEq]at h;subst h;exact⟨rfl,λc e hc=>by cases hc⟩;cases h
 |aq az e=>
  simp only[xO,map_eq_some_iff]at h;obtain⟨l,hl,rfl⟩:=h;exact⟨rfl,λc e hc=>by cases hc⟩
 |vec c e=>simp only[xO,Option.some.injEq]at h;subst h;exact⟨rfl,λc e hc=>hc⟩
def al4:List Nat->Nat->Nat->Option Nat
 |[],_,_=>none|x::xs,k,id=>bif x.beq id then some k else al4 xs (k+1) id
def idx(σ:List Nat)(id:Nat):Option Nat:=al4 σ 0 id
def se(σ:List Nat)(L:List ak):Option (List ak):=allM (λid=>match L[id]? with|some o=>xO (idx σ) o|none=>none) σ
def ur:List Nat->Bool
 |[]=>true|x::xs=> !(xs.any (x.beq ·))&&ur xs
theorem aaw:∀{σ:List Nat} {k id j:Nat},al4 σ k id=some j->k<=j/\σ[j - k]? =some id
 |[],k,id,j,h=>by simp[al4]at h
 |x::xs,k,id,j,h=>by
  simp only[al4,cond_eq_ite]at h;split at h;rename_i hx;obtain rfl:x=id:=Nat.eq_of_beq_eq_true hx;obtain rfl:k=j:=by simpa using h
  exact⟨le_refl _,by simp⟩;have⟨h1,h2⟩:=aaw h;refine⟨by omega, ?_⟩;rw[show j - k=(j - (k+1))+1 from by omega];simpa using h2
theorem ady{σ:List Nat}{id j:Nat}(h:idx σ id=some j):σ[j]? =some id:=by simpa using(aaw h).2
theorem l6:∀{σ:List Nat},ur σ=true->σ.Nodup
 |[],_=>.nil|x::xs,h=>by
  simp only[ur,and_eq_true,not_eq_true',List.any_eq_false]at h;refine List.nodup_cons.2 ⟨λhm=> ?_,l6 h.2⟩;have:=h.1 x hm;simp at this
theorem pT{σ:List Nat}{L L':List ak}(h:se σ L=some L'){j:Nat}{o':ak}(hj:L'[j]? =some o'):∃(id:Nat) (o:ak),σ[j]? =some id/\L[id]? =some o/\xO (idx σ) o=some o':=by
 have bC:=ic h;have bq:j<σ.length:=by rw[<-bC];exact(List.getElem?_eq_some_iff.1 hj).1
 have⟨b,h1,h2⟩:=gG h j σ[j] (getElem?_eq_getElem bq);rw[hj]at h2;simp only[Option.some.injEq]at h2;subst h2;split at h1;rename_i o ho;exact⟨σ[j],o,getElem?_eq_getElem bq,ho,h1⟩;cases h1
theorem adz{σ:List Nat}{L L':List ak}(h:se σ L=some L'){j id:Nat}(hj:σ[j]? =some id):∃o o',L[id]? =some o/\xO (idx σ) o=some o'/\L'[j]? =some o':=by
 have⟨b,h1,h2⟩:=gG h j id hj;split at h1;rename_i o ho;exact⟨o,b,ho,h1,h2⟩;cases h1
def pull(σ:List Nat)(ρ:Nat->Value):Nat->Value:=λj=>ρ (σ.getD j 0)
theorem sf{σ:List Nat}{L L':List ak}(hv:se σ L=some L'){b:Nat}(h:Own (pull σ ρ) (λj=>L'[j]?) b):∃(j id:Nat) (o:ak),σ[j]? =some id/\L[id]? =some o/\o.alive=true/\eZ (ρ id)=some b:=by
 have⟨j,o',dI,ha,hb⟩:=h;have⟨id,o,h1,h2,h3⟩:=pT hv dI;have:pull σ ρ j=ρ id:=by simp[pull,List.getD,h1]
 rw[this]at hb;exact⟨j,id,o,h1,h2,by rw[<-(cU h3).1];exact ha,hb⟩
theorem uu{σ:List Nat}{L L':List ak}{G':Nat->Prop}(hs:Sat ρ (λi=>L[i]?) G w)(hn:σ.Nodup)(hv:se σ L=some L')(hG:∀b,G' b->aW ρ (λi=>L[i]?) G b)(hap:∀b,Own (pull σ ρ) (λj=>L'[j]?) b->¬G' b):
 Sat (pull σ ρ) (λj=>L'[j]?) G' w/\Emb (idx σ) ρ (λi=>L[i]?) (aW ρ (λi=>L[i]?) G) (pull σ ρ) (λj=>L'[j]?) (aW (pull σ ρ) (λj=>L'[j]?) G'):=by
 have pb:∀{j id:Nat},σ[j]? =some id->pull σ ρ j=ρ id:=λh1=>by simp[pull,List.getD,h1]
 have E:Emb (idx σ) ρ (λi=>L[i]?) (aW ρ (λi=>L[i]?) G) (pull σ ρ) (λj=>L'[j]?) (aW (pull σ ρ) (λj=>L'[j]?) G'):=by
  refine⟨λi j lR=> ?_,λb hb=> ?_⟩;have h1:=ady lR;refine⟨pb h1,λo ho=> ?_⟩;have⟨o1,o',h2,h3,h4⟩:=adz hv h1;rw[show L[i]? =some o from ho]at h2;simp only[Option.some.injEq]at h2;subst h2;exact⟨o',h4,(cU h3).2⟩;rcases hb with hb|hb;have⟨j,id,o,h1,h2,h3,h4⟩:=sf hv hb;exact .inl ⟨id,o,h2,h3,h4⟩;exact hG b hb
 refine⟨⟨λj o' dI=> ?_,λi j oi oj b hi hj ai aj bi bj=> ?_,hap,λb hb=>abp hs (hG b hb)⟩,E⟩;have⟨id,o,h1,h2,h3⟩:=pT hv dI;rw[pb h1];exact abV E h3 (hs.obj id o h2);have⟨id,o,h1,h2,h3⟩:=pT hv hi;have⟨id',o',h1',h2',h3'⟩:=pT hv hj;rw[pb h1]at bi;rw[pb h1']at bj;have:=hs.inj id id' o o' b h2 h2' (by rw[<-(cU h3).1];exact ai) (by rw[<-(cU h3').1];exact aj) bi bj;subst this;have fy:=List.getElem?_eq_some_iff.1 h1;have ku:=List.getElem?_eq_some_iff.1 h1';have⟨hi1,hi2⟩:=fy;have⟨hj1,wv⟩:=ku;exact(List.getElem_inj hn).1 (hi2.trans wv.symm)
theorem aax{σ:List Nat}{L L':List ak}{ρ0:Nat->Value}{H0:aT}{O0:Nat->Prop}{w0:World}{m:Nat}(hs:Sat ρ (λi=>L[i]?) G w)(hn:σ.Nodup)(hv:se σ L=some L')(aj8:∀i,i<m->σ[i]? =some i)(h0:∀id,m<=id->H0 id=none)
 (st:Step ρ0 H0 O0 w0 ρ (λi=>L[i]?) (aW ρ (λi=>L[i]?) G) w):Step ρ0 H0 O0 w0 (pull σ ρ) (λj=>L'[j]?) (aW (pull σ ρ) (λj=>L'[j]?) G) w:=by
 have E:=(uu (G':=G) hs hn hv (λb hb=>.inr hb) (λb hb=>by
  have⟨j,id,o,h1,h2,h3,h4⟩:=sf hv hb;exact hs.apart b ⟨id,o,h2,h3,h4⟩)).2
 have bq:∀{id:Nat} {o:ak},H0 id=some o->id<m:=λ{id o} h=>by
  rcases lt_or_ge id m with h1|h1;exact h1;rw[h0 id h1]at h;cases h
 refine⟨λid o ho=> ?_,λid o ho=> ?_,λb hb=>st.gu b (E.gu b hb),st.heap,st.size⟩;rw[show pull σ ρ id=ρ id from by simp[pull,List.getD,aj8 id (bq ho)]];exact st.wX id o ho;have⟨o1,h1,h2⟩:=st.aBG id o ho;have⟨o2,o',h3,h4,h5⟩:=adz hv (aj8 id (bq ho));rw[show L[id]? =some o1 from h1]at h3;simp only[Option.some.injEq]at h3;subst h3;exact⟨o',h5,λc e hc=>h2 c e ((cU h4).2 c e hc)⟩
theorem Good.view{σ:List Nat}{L L':List ak}{m d:Nat}{r r':AV}{v:Value}(h:Good ρ H G w (λi=>L[i]?) r v w')(hn:σ.Nodup)(hv:se σ L=some L')(aj8:∀i,i<m->σ[i]? =some i)(h0:∀id,m<=id->H id=none)(hr:rn (idx σ) d r=some r'):
 Good ρ H G w (λi=>L'[i]?) r' v w':=by
 have⟨aN,h1,h2,h3,h4⟩:=h
 have⟨h5,h6⟩:=uu (G':=G) h1 hn hv (λb hb=>.inr hb) (λb hb=>by
  have⟨j,id,o,h1',h2,h3,h4⟩:=sf hv hb;exact h1.apart b ⟨id,o,h2,h3,h4⟩)
 exact⟨pull σ aN,h5,(xP h6 d).1 r r' v hr h2,aax h1 hn hv aj8 h0 h3,h4⟩
theorem cp.view{σ:List Nat}{tmps vF:List AV}{L L':List ak}{m d:Nat}(h:cp X ρ ⟨tmps,L⟩ a w)(hn:σ.Nodup)(hv:se σ L=some L')(aj8:∀i,i<m->σ[i]? =some i)(h0:∀id,m<=id->X.H id=none)(ht:allM (rn (idx σ) d) tmps=some vF):
 cp X (pull σ ρ) ⟨vF,L'⟩ a w:=by
 have hs:Sat ρ (λi=>L[i]?) X.G w:=h.sat
 have⟨h5,h6⟩:=uu (G':=X.G) hs hn hv (λb hb=>.inr hb) (λb hb=>by
  have⟨j,id,o,h1',h2,h3,h4⟩:=sf hv hb;exact hs.apart b ⟨id,o,h2,h3,h4⟩)
 refine⟨h5,by rw[<-h.size];exact ic ht,λt=> ?_,h.defers,aax hs hn hv aj8 h0 h.ao,h.jN,h.kept⟩;have hd:=h.den t;simp only[]at hd ⊢;rcases lt_or_ge t tmps.length with bq|hge;have⟨b,h1,h2⟩:=gG ht t tmps[t] (getElem?_eq_getElem bq);have e1:tmps.getD t (.s .aZ)=tmps[t]:=by simp[List.getD,bq]
 have e2:vF.getD t (.s .aZ)=b:=by simp[List.getD,h2]
 rw[e1]at hd;rw[e2];exact(xP h6 d).1 _ _ _ h1 hd
 have e2:vF.getD t (.s .aZ)=.s .aZ:=by
  have:=ic ht;simp[List.getD,getElem?_eq_none (show vF.length<=t by omega)]
 rw[e2];unfold af;trivial
def eW(ks:List Nat):Nat->List AV->List AV
 |_,[]=>[]|i,a::aQ=>(bif ks.any (i.beq ·)then a else .s .aZ)::eW ks (i+1) aQ
theorem nO(ks:List Nat):∀(i:Nat) (aQ:List AV),(eW ks i aQ).length=aQ.length
 |_,[]=>rfl|i,a::aQ=>by simp[eW,nO ks (i+1) aQ]
theorem sg(ks:List Nat):∀(i:Nat) (aQ:List AV) (t:Nat),(eW ks i aQ).getD t (.s .aZ)=aQ.getD t (.s .aZ)\/(eW ks i aQ).getD t (.s .aZ)=.s .aZ
 |_,[],t=>.inl rfl|i,a::aQ,0=>by
  simp only[eW,List.getD_cons_zero];cases ks.any (i.beq ·);exact .inr rfl;exact .inl rfl
 |i,a::aQ,t+1=>by
  simp only[eW,List.getD_cons_succ];exact sg ks (i+1) aQ t
theorem cp.eW{tmps:List AV}{L:List ak}(ks:List Nat)(h:cp X ρ ⟨tmps,L⟩ a w):cp X ρ ⟨eW ks 0 tmps,L⟩ a w:=by
 refine⟨h.sat,by rw[<-h.size];exact nO ks 0 tmps,λt=> ?_,h.defers,h.ao,h.jN,h.kept⟩;rcases sg ks 0 tmps t with h1|h1;simp only[];rw[h1];exact h.den t;simp only[];rw[h1];unfold af;trivial
def pU(c:aV)(e:TypeId)(t:Nat)(tmps:List AV)(L:List ak):List AV×List ak:=
 match tmps.getD t (.s .aZ)with
 |.emp=>bif c.n.beq 0 then(tmps.set t (.vec L.length),L++[.vec c e])else(tmps,L)|_=>(tmps,L)
theorem Step.alloc{v:Value}{c:aV}{e:TypeId}{L:List ak}(hb:eZ v=none):
 Step ρ (λi=>L[i]?) (aW ρ (λi=>L[i]?) G) w (λj=>if j=L.length then v else ρ j) (λi=>(L++[.vec c e])[i]?) (aW (λj=>if j=L.length then v else ρ j) (λi=>(L++[.vec c e])[i]?) G) w:=by
 have bq:∀{id:Nat} {o:ak},L[id]? =some o->id<L.length:=λh=>(List.getElem?_eq_some_iff.1 h).1;refine⟨λid o ho=> ?_,λid o ho=> ?_,λb vV=>.inl ?_,λ_ _ _=>rfl,le_refl _⟩;have:=bq ho;rw[if_neg (by omega)];have h1:=bq ho;exact⟨o,by show(L++[.vec c e])[id]? =_;rw[getElem?_append_left h1];exact ho,λc' e' hc=>⟨c',e',hc,rfl,rfl⟩⟩;rcases vV with⟨id,o,ho,ha,hbl⟩|hg;by_cases dt:id=L.length;simp only[dt,if_true]at hbl;rw[hb]at hbl;cases hbl;simp only[dt,if_false]at hbl
 have dI:L[id]? =some o:=by
  have h2:=(List.getElem?_eq_some_iff.1 ho).1;simp only[length_append,length_cons,length_nil]at h2;have h3:id<L.length:=by omega
  have h4:(L++[.vec c e])[id]? =L[id]? :=getElem?_append_left h3;rw[<-h4];exact ho
 exact .inl ⟨id,o,dI,ha,hbl⟩;exact .inr hg
theorem cp.pU{c:aV}{e:TypeId}{t:Nat}{tmps:List AV}{L:List ak}(h:cp X ρ ⟨tmps,L⟩ a w):∃aN,cp X aN ⟨(pU c e t tmps L).1,(pU c e t tmps L).2⟩ a w:=by
 unfold Sx.pU;split;rename_i he;rw[cond_eq_ite];split;rename_i hc;have hc:c.n=0:=Nat.eq_of_beq_eq_true hc;have hd:=h.den t;simp only[]at hd;rw[he]at hd;unfold af at hd;have⟨r,hv⟩:=hd;have mq:eZ (.slice r 0 0)=none:=by cases r<;>simp[eZ]
 let aN:Nat->Value:=λj=>if j=L.length then .slice r 0 0 else ρ j
 have st:Step ρ (λi=>L[i]?) (aW ρ (λi=>L[i]?) X.G) w aN (λi=>(L++[.vec c e])[i]?) (aW aN (λi=>(L++[.vec c e])[i]?) X.G) w:=Step.alloc mq;have hs:Sat ρ (λi=>L[i]?) X.G w:=h.sat
 have old:∀{id:Nat} {o:ak},(L++[.vec c e])[id]? =some o->(id=L.length/\o=.vec c e)\/(id≠L.length/\L[id]? =some o):=by
  intro id o ho;have h2:=(List.getElem?_eq_some_iff.1 ho).1;simp only[length_append,length_cons,length_nil]at h2;by_cases dt:id=L.length;subst dt;simp at ho;exact .inl ⟨rfl,ho.symm⟩;refine .inr ⟨dt, ?_⟩;rwa[getElem?_append_left (by omega)]at ho
 have ej:∀b,Own aN (λi=>(L++[.vec c e])[i]?) b->Own ρ (λi=>L[i]?) b:=by
  rintro b ⟨id,o,ho,ha,hb⟩;rcases old ho with⟨h1,h2⟩|⟨h1,h2⟩;simp only[aN,h1,if_true]at hb;rw[mq]at hb;cases hb;simp only[aN,h1,if_false]at hb;exact⟨id,o,h2,ha,hb⟩
 refine⟨aN,⟨⟨λid o ho=> ?_,λi j oi oj b hi hj ai aj bi bj=> ?_,λb hb=>hs.apart b (ej b hb),hs.low⟩,by simpa using h.size,λu=> ?_,h.defers, ?_,h.jN,h.kept⟩⟩;rcases old ho with⟨h1,h2⟩|⟨h1,h2⟩;subst h2;simp only[aN,h1,if_true];exact⟨r,0,by rw[hc],by omega,zero_le _,.inl rfl⟩;simp only[aN,h1,if_false];exact(hs.obj id o h2).step st (λ_ _ _=>rfl);rcases old hi with⟨h1,h2⟩|⟨h1,h2⟩;simp only[aN,h1,if_true]at bi;rw[mq]at bi;cases bi;rcases old hj with⟨h3,h4⟩|⟨h3,h4⟩;simp only[aN,h3,if_true]at bj;rw[mq]at bj;cases bj;simp only[aN,h1,if_false]at bi;simp only[aN,h3,if_false]at bj;exact hs.inj i j oi oj b h2 h4 ai aj bi bj;simp only[];rw[cZ];split;rename_i hu;obtain⟨rfl,_⟩:=hu;rw[hv];unfold af aO;refine⟨rfl,.vec c e,by simp[St.look],λc' e' _=> ?_⟩;exact(if_pos rfl).symm;exact af.step st _ _ (h.den u);exact h.ao.trans st;exact⟨ρ,h⟩;exact⟨ρ,h⟩
def ahO:Nat->AV->List Nat
 |0,_=>[]|d+1,a=>match a with
  |.ptr id _|.kT id _ _ _|.vec id|.gR id _ _|.part id _ _|.fA id|.tag id|.sub id _ _|.lO id _ _ _=>[id]|.agg aQ|.bt aQ|.fn _ aQ|.fnb _ aQ=>aQ.flatMap (ahO d)|_=>[]
def al5:Option ak->List Nat
 |some (.aq az _)=>az.flatMap (ahO 20)|some (.iter mid gid _ _ _)=>[mid,gid]|_=>[]
def reach(L:List ak):Nat->List Nat->List Nat->List Nat
 |0,_,acc=>acc|_,[],acc=>acc|n+1,id::todo,acc=>bif acc.any (id.beq ·)then reach L n todo acc else reach L n (todo++al5 L[id]?) (acc++[id])
def auq(m:Nat)(σ:List Nat):Bool:=(List.range m).all λi=>match σ[i]? with|some j=>i.beq j|none=>false
structure Norm where
 qL:List (Nat×aV×TypeId)
 aBG:List Nat
 m:Nat
 cells:List (Nat×Nat×Bool×aV×TypeId)
def gH:List (Nat×aV×TypeId)->List AV->List ak->List AV×List ak
 |[],tmps,L=>(tmps,L)|(t,c,e)::ns,tmps,L=>let p:=pU c e t tmps L;gH ns p.1 p.2
def si(id j:Nat)(c:aV)(e:TypeId)(L:List ak):List ak:=
 match L[id]? with
 |some (.aq az e0)=>(match az[j]? with
  |some .emp=>bif c.n.beq 0 then L.set id (.aq (az.set j (.vec L.length)) e0)++[.vec c e]else L|_=>L)
 |_=>L
def xR(id j:Nat)(c:aV)(L:List ak):List ak:=
 match L[id]? with
 |some (.aq az e0)=>(match az[j]? with
  |some .emp=>bif c.n.beq 0 then L.set id (.aq (az.set j (.s (.ro c))) e0)else L|_=>L)
 |_=>L
def sj(id j:Nat)(L:List ak):List ak:=
 match L[id]? with
 |some (.aq az e0)=>(match az[j]? with
  |some (.vec v)=>(match L[v]? with
   |some (.vec c _)=>(L.set v .ax).set id (.aq (az.set j (.s (.ro c))) e0)|_=>L)
  |_=>L)
 |_=>L
def gI:List (Nat×Nat×Bool×aV×TypeId)->List ak->List ak
 |[],L=>L|(id,j,ro,c,e)::ns,L=>gI ns (bif ro then sj id j (xR id j c L)else si id j c e L)
def roots(L:List ak)(m:Nat)(tmps:List AV):List Nat:=
 reach L 4000 ((List.range m).flatMap (λi=>al5 L[i]?)++tmps.flatMap (ahO 20)) (List.range m)
def gk(m:Nat)(tmps:List AV)(L:List ak):Option (List AV×List ak):=
 let σ:=roots L m tmps
 bif ur σ&&auq m σ then
  match se σ L,allM (rn (idx σ) 20) tmps with
  |some L',some vF=>some (vF,L')|_,_=>none
 else none
def Norm.run(N:Norm)(c:bP):Option bP:=
 match gk N.m (eW N.aBG 0 c.tmps) c.H with
 |some (t1,L1)=>
  let p:=gH N.qL t1 L1
  (match gk N.m p.1 (gI N.cells p.2)with
  |some (t2,L2)=>some ⟨t2,L2,c.todo,c.stk⟩|none=>none)
 |none=>none
theorem xS:∀(az:List AV) (j:Nat) {cells:List Value},az[j]? =some .emp->aA ρ H O w az cells->
 ∃r,∀(aN:Nat->Value) (H':aT) (O':Nat->Prop) (x:AV),(∀a cs,aR ρ H O w a cs->aR aN H' O' w a cs)->aR aN H' O' w x [.slice r 0 0]->aA aN H' O' w (az.set j x) cells
 |[],j,cells,h,hd=>by simp at h
 |a::aQ,0,cells,h,hd=>by
  simp only[List.getElem?_cons_zero,Option.some.injEq]at h;subst h;obtain⟨c1,c2,rfl,h1,h2⟩:=ag.1 hd;unfold aR at h1;obtain⟨u,rfl,r,rfl⟩:=h1;refine⟨r,λaN H' O' x hs hx=> ?_⟩;simp only[List.set_cons_zero];refine ag.2 ⟨_,c2,rfl,hx, ?_⟩;clear hd
  induction aQ generalizing c2 with
  |nil=>rw[aD.1 h2];exact aD.2 rfl|cons b bs ih=>
   obtain⟨d1,d2,rfl,h3,h4⟩:=ag.1 h2;exact ag.2 ⟨d1,d2,rfl,hs _ _ h3,ih d2 h4⟩
 |a::aQ,j+1,cells,h,hd=>by
  obtain⟨c1,c2,rfl,h1,h2⟩:=ag.1 hd;have⟨r,h3⟩:=xS aQ j (by simpa using h) h2;refine⟨r,λaN H' O' x hs hx=> ?_⟩;simp only[List.set_cons_succ];exact ag.2 ⟨c1,c2,rfl,hs _ _ h1,h3 aN H' O' x hs hx⟩
theorem cp.si{id j:Nat}{c:aV}{e:TypeId}{tmps:List AV}{L:List ak}(h:cp X ρ ⟨tmps,L⟩ a w):∃aN,cp X aN ⟨tmps,si id j c e L⟩ a w:=by
 unfold Sx.si;split;rename_i az e0 dt;split;rename_i hj;rw[cond_eq_ite];split;rename_i hc;have hc:c.n=0:=Nat.eq_of_beq_eq_true hc;have hs:Sat ρ (λi=>L[i]?) X.G w:=h.sat;have⟨b,cells,fr,h0,h1,h2,h3⟩:=hs.obj id _ dt;have⟨r,oG⟩:=xS az j hj h3;have mq:eZ (.slice r 0 0)=none:=by cases r<;>simp[eZ]
 have bq:id<L.length:=(List.getElem?_eq_some_iff.1 dt).1;let aN:Nat->Value:=λk=>if k=L.length then .slice r 0 0 else ρ k
 let L':=L.set id (.aq (az.set j (.vec L.length)) e0)++[.vec c e]
 have old:∀{k:Nat} {o:ak},L'[k]? =some o->(k=L.length/\o=.vec c e)\/(k=id/\k≠L.length/\o=.aq (az.set j (.vec L.length)) e0)\/(k≠L.length/\k≠id/\L[k]? =some o):=by
  intro k o ho;have h2:=(List.getElem?_eq_some_iff.1 ho).1;simp only[L',length_append,length_set,length_cons,length_nil]at h2;by_cases hk:k=L.length;subst hk;simp only[L']at ho;rw[getElem?_append_right (by simp)]at ho;simp at ho;exact .inl ⟨rfl,ho.symm⟩;simp only[L']at ho;rw[getElem?_append_left (by simp;omega),getElem?_set]at ho;split at ho;rename_i hki;exact .inr (.inl ⟨hki.symm,hk,by simpa using ho.symm⟩);rename_i hki;exact .inr (.inr ⟨hk,Ne.symm hki,ho⟩)
 have new:∀{k:Nat} {o:ak},L[k]? =some o->∃o',L'[k]? =some o'/\(∀c' e',o'=.vec c' e'->o=.vec c' e'):=by
  intro k o ho;have hk:k<L.length:=(List.getElem?_eq_some_iff.1 ho).1;by_cases hki:k=id;subst hki;refine⟨.aq (az.set j (.vec L.length)) e0, ?_,λc' e' hc=>by cases hc⟩;simp only[L'];rw[getElem?_append_left (by simpa using hk),List.getElem?_set_self hk];refine⟨o, ?_,λc' e' hc=>hc⟩;simp only[L'];rw[getElem?_append_left (by simpa using hk),List.getElem?_set_ne (Ne.symm hki)];exact ho
 have ej:∀b,Own aN (λi=>L'[i]?) b->Own ρ (λi=>L[i]?) b:=by
  rintro b ⟨k,o,ho,ha,hb⟩;rcases old ho with⟨h1,h2⟩|⟨h1,h2,h3⟩|⟨h1,h2,h3⟩;simp only[aN,h1,if_true]at hb;rw[mq]at hb;cases hb;simp only[aN,h2,if_false]at hb;exact⟨id,_,dt,rfl,h1▸hb⟩;simp only[aN,h1,if_false]at hb;exact⟨k,o,h3,ha,hb⟩
 have st:Step ρ (λi=>L[i]?) (aW ρ (λi=>L[i]?) X.G) w aN (λi=>L'[i]?) (aW aN (λi=>L'[i]?) X.G) w:=by
  refine⟨λk o ho=> ?_,λk o ho=> ?_,λb hb=>.inl ?_,λ_ _ _=>rfl,le_refl _⟩;have hk:k<L.length:=(List.getElem?_eq_some_iff.1 ho).1;simp only[aN];rw[if_neg (by omega)];have⟨o',h4,h5⟩:=new ho;exact⟨o',h4,λc' e' hc=>⟨c',e',h5 c' e' hc,rfl,rfl⟩⟩;rcases hb with hb|hb;exact .inl (ej b hb);exact .inr hb
 have rh:aO aN (λi=>L'[i]?) (aW aN (λi=>L'[i]?) X.G) w (.vec L.length) (.slice r 0 0):=by
  unfold aO;refine⟨rfl,.vec c e, ?_,λc' e' _=>(if_pos rfl).symm⟩;simp only[L'];rw[getElem?_append_right (by simp)];simp
 refine⟨aN,⟨⟨λk o ho=> ?_,λi l oi ol b hi hl ai al bi bl=> ?_,λb hb=>hs.apart b (ej b hb),hs.low⟩,h.size,λu=>af.step st _ _ (h.den u),h.defers,h.ao.trans st,h.jN,h.kept⟩⟩;rcases old ho with⟨g1,g2⟩|⟨g1,g2,g3⟩|⟨g1,g2,g3⟩;subst g2;simp only[aN,g1,if_true];exact⟨r,0,by rw[hc],by omega,zero_le _,.inl rfl⟩;subst g3;simp only[aN,g2,if_false];rw[g1,h0];exact⟨b,cells,fr,rfl,h1,h2,oG aN _ _ _ (λa cs hd=>aR.step st a cs hd) (by unfold aR;exact⟨_,rfl,rh⟩)⟩;simp only[aN,g1,if_false];exact(hs.obj k o g3).step st (λ_ _ _=>rfl)
 have low:∀{k:Nat} {o:ak},L'[k]? =some o->o.alive=true->eZ (aN k)=some b->∃o2,L[k]? =some o2/\o2.alive=true/\eZ (ρ k)=some b:=by
  intro k o ho ha hb;rcases old ho with⟨g1,g2⟩|⟨g1,g2,g3⟩|⟨g1,g2,g3⟩;simp only[aN,g1,if_true]at hb;rw[mq]at hb;cases hb;simp only[aN,g2,if_false]at hb;exact⟨_,g1▸dt,rfl,hb⟩;simp only[aN,g1,if_false]at hb;exact⟨o,g3,ha,hb⟩
 have⟨o1,q1,q2,q3⟩:=low hi ai bi;have⟨o2,q4,q5,q6⟩:=low hl al bl;exact hs.inj i l o1 o2 b q1 q4 q2 q5 q3 q6;exact⟨ρ,h⟩;exact⟨ρ,h⟩;exact⟨ρ,h⟩
theorem sk{c:aV}(hc:c.n=0)(r:Option Addr):aX O w (.ro c) (.slice r 0 0):=by
 have:=aX.ro (O:=O) (w:=w) c r 0 (λ_ _=>undef) 0 0 (by omega) (zero_le _) (λh=>by omega) (λi j hi hj=>by omega) (λi j hi hj=>by omega);rwa[hc]at this
theorem cp.xR{id j:Nat}{c:aV}{tmps:List AV}{L:List ak}(h:cp X ρ ⟨tmps,L⟩ a w):cp X ρ ⟨tmps,xR id j c L⟩ a w:=by
 unfold Sx.xR;split;rename_i az e0 dt;split;rename_i hj;rw[cond_eq_ite];split;rename_i hc;have hc:c.n=0:=Nat.eq_of_beq_eq_true hc;have hs:Sat ρ (λi=>L[i]?) X.G w:=h.sat;have⟨b,cells,fr,h0,h1,h2,h3⟩:=hs.obj id _ dt;have⟨r,oG⟩:=xS az j hj h3;have bq:id<L.length:=(List.getElem?_eq_some_iff.1 dt).1;let L':=L.set id (.aq (az.set j (.s (.ro c))) e0)
 have old:∀{k:Nat} {o:ak},L'[k]? =some o->(k=id/\o=.aq (az.set j (.s (.ro c))) e0)\/(k≠id/\L[k]? =some o):=by
  intro k o ho;simp only[L']at ho;rw[getElem?_set]at ho;split at ho;rename_i hki;exact .inl ⟨hki.symm,by simpa using ho.symm⟩;rename_i hki;exact .inr ⟨Ne.symm hki,ho⟩
 have ej:∀b,Own ρ (λi=>L'[i]?) b->Own ρ (λi=>L[i]?) b:=by
  rintro b ⟨k,o,ho,ha,hb⟩;rcases old ho with⟨h1,h2⟩|⟨h1,h2⟩;exact⟨id,_,dt,rfl,h1▸hb⟩;exact⟨k,o,h2,ha,hb⟩
 have st:Step ρ (λi=>L[i]?) (aW ρ (λi=>L[i]?) X.G) w ρ (λi=>L'[i]?) (aW ρ (λi=>L'[i]?) X.G) w:=by
  refine⟨λ_ _ _=>rfl,λk o ho=> ?_,λb hb=>.inl ?_,λ_ _ _=>rfl,le_refl _⟩;by_cases hk:k=id;subst hk;refine⟨.aq (az.set j (.s (.ro c))) e0, ?_,λc' e' hc=> ?_⟩;show(L.set k _)[k]? =_;rw[List.getElem?_set_self bq];cases hc;refine⟨o, ?_,λc' e' hc=>⟨c',e',hc,rfl,rfl⟩⟩;show(L.set id _)[k]? =_;rw[List.getElem?_set_ne (Ne.symm hk)];exact ho;rcases hb with hb|hb;exact .inl (ej b hb);exact .inr hb
 refine⟨⟨λk o ho=> ?_,λi l oi ol b hi hl ai al bi bl=> ?_,λb hb=>hs.apart b (ej b hb),hs.low⟩,h.size,λu=>af.step st _ _ (h.den u),h.defers,h.ao.trans st,h.jN,h.kept⟩;rcases old ho with⟨g1,g2⟩|⟨g1,g2⟩;subst g2;rw[g1,h0];exact⟨b,cells,fr,rfl,h1,h2,oG ρ _ _ _ (λa cs hd=>aR.step st a cs hd) (by unfold aR;exact⟨_,rfl,sk hc r⟩)⟩;exact(hs.obj k o g2).step st (λ_ _ _=>rfl)
 have low:∀{k:Nat} {o:ak},L'[k]? =some o->o.alive=true->∃o2,L[k]? =some o2/\o2.alive=true:=by
  intro k o ho ha;rcases old ho with⟨g1,g2⟩|⟨g1,g2⟩;exact⟨_,g1▸dt,rfl⟩;exact⟨o,g2,ha⟩
 have⟨o1,q1,q2⟩:=low hi ai;have⟨o2,q4,q5⟩:=low hl al;exact hs.inj i l o1 o2 b q1 q4 q2 q5 bi bl;exact h;exact h;exact h
theorem adA:∀(az:List AV) (j:Nat) {cells:List Value} {a:AV},az[j]? =some a→aA ρ H O w az cells→
 ∃cs,aR ρ H O w a cs∧∀(aN:Nat→Value) (H':aT) (O':Nat→Prop) (x:AV),(∀a cs,aR ρ H O w a cs→aR aN H' O' w a cs)→aR aN H' O' w x cs→aA aN H' O' w (az.set j x) cells
 |[],j,cells,a,h,hd=>by simp at h
 |b::aQ,0,cells,a,h,hd=>by
  simp only[List.getElem?_cons_zero,Option.some.injEq]at h;subst h;obtain⟨c1,c2,rfl,h1,h2⟩:=ag.1 hd;refine⟨c1,h1,fun aN H' O' x hs hx=> ?_⟩;simp only[List.set_cons_zero];refine ag.2 ⟨_,c2,rfl,hx, ?_⟩;clear hd
  induction aQ generalizing c2 with
  |nil=>rw[aD.1 h2];exact aD.2 rfl
  |cons b bs ih=>
   obtain⟨d1,d2,rfl,h3,h4⟩:=ag.1 h2;exact ag.2 ⟨d1,d2,rfl,hs _ _ h3,ih d2 h4⟩
 |b::aQ,j+1,cells,a,h,hd=>by
  obtain⟨c1,c2,rfl,h1,h2⟩:=ag.1 hd;obtain⟨cs,h3,h4⟩:=adA aQ j (by simpa using h) h2;refine⟨cs,h3,fun aN H' O' x hs hx=> ?_⟩;simp only[List.set_cons_succ];exact ag.2 ⟨c1,c2,rfl,hs _ _ h1,h4 aN H' O' x hs hx⟩
theorem aj9(hs:Sat ρ H G w){id:Nat}{c:aV}{e:TypeId}(ho:H id=some (.vec c e)):aX (aW ρ (aC H id .ax) G) w (.ro c) (ρ id):=by
 have dU:=hs.obj id _ ho;have⟨a,cap,hr,h2,h3,h4⟩:=dU;have alO:∀b,aW ρ (aC H id .ax) G b->aW ρ H G b:=λb hb=>hb.imp fl (λx=>x);rw[hr];by_cases hc:cap=0;have h0:c.n=0:=by omega
 have:=aX.ro (O:=aW ρ (aC H id .ax) G) (w:=w) c a cap (λ_ _=>undef) 0 0 h2 h3 (λh=>by omega) (λi j hi hj=>by omega) (λi j hi hj=>by omega);exact this;obtain⟨b,o,cells,fr,us,rfl,g1,g2,g3,g4⟩:=h4.resolve_left hc;have mq:eZ (ρ id)=some b:=by rw[hr];simp only[eZ];rw[if_neg hc]
 refine aX.ro c _ cap us b o h2 h3 (λ_=>⟨rfl,λhb=> ?_,(Array.getElem?_eq_some_iff.1 g1).1⟩) (λi j hi hj=> ?_) (λi j hi hj=> ?_);rcases hb with⟨j,x,hx,ha,hb⟩|hb;by_cases hj:j=id;subst hj;simp only[aC,if_true,Option.some.injEq]at hx;subst hx;cases ha;simp only[aC,hj,if_false]at hx;exact hj (hs.inj j id x _ b hx ho ha rfl hb mq);exact hs.apart b ⟨id,_,ho,rfl,mq⟩ hb;rw[dg g1];exact(g4 i j hi hj).1;exact(g4 i j hi hj).2.less alO
theorem ahP{L:List ak}{v:Nat}{o x:ak}(h:L[v]? =some o):(λi=>(L.set v x)[i]?)=aC (λi=>L[i]?) v x:=by
 funext i;simp only[aC,getElem?_set];by_cases hi:v=i;subst hi;rw[if_pos rfl,if_pos rfl,if_pos (List.getElem?_eq_some_iff.1 h).1];rw[if_neg hi,if_neg (Ne.symm hi)]
theorem cp.sj{id j:Nat}{tmps:List AV}{L:List ak}(h:cp X ρ ⟨tmps,L⟩ a w):cp X ρ ⟨tmps,sj id j L⟩ a w:=by
 unfold Sx.sj;split;rename_i az e0 dt;split;rename_i v hj;split;rename_i c e hv;have cQ:v≠id:=λe1=>by rw[e1,dt]at hv;cases hv
 have hs:Sat ρ (λi=>L[i]?) X.G w:=h.sat;have⟨b,cells,fr,h0,h1,h2,h3⟩:=hs.obj id _ dt;have⟨cs,hc,oG⟩:=adA az j hj h3
 have qZ:cs=[ρ v]:=by
  unfold aR at hc;obtain⟨u,rfl,hd⟩:=hc;unfold aO at hd;have⟨_,o,ho,hu⟩:=hd;rw[show o=.vec c e from by simpa[hv]using ho.symm]at hu;rw[hu _ _ rfl]
 have azI:(L.set v .ax)[id]? =some (.aq az e0):=by rw[List.getElem?_set_ne cQ];exact dt
 have hro:=aj9 hs hv;have s1:=hs.kill hv;have st1:=fk (ρ:=ρ) (G:=X.G) (w:=w) (H:=λi=>L[i]?) hv;show cp X ρ ⟨tmps,(L.set v .ax).set id (.aq (az.set j (.s (.ro c))) e0)⟩ a w
 have e1:(St.look ⟨tmps,(L.set v .ax).set id (.aq (az.set j (.s (.ro c))) e0)⟩)=aC (aC (λi=>L[i]?) v .ax) id (.aq (az.set j (.s (.ro c))) e0):=by
  show(λi=>((L.set v .ax).set id _)[i]?)=_;rw[ahP azI,ahP hv]
 generalize hH1:aC (λi=>L[i]?) v .ax=H1 at *;have asQ:H1 id=some (.aq az e0):=by rw[<-hH1];simp only[aC];rw[if_neg (Ne.symm cQ)];exact dt
 have ej:∀b,Own ρ (aC H1 id (.aq (az.set j (.s (.ro c))) e0)) b->Own ρ H1 b:=by
  rintro b ⟨k,o,ho,ha,hb⟩;simp only[aC]at ho;split at ho;rename_i hk;exact⟨id,_,asQ,rfl,hk▸hb⟩;exact⟨k,o,ho,ha,hb⟩
 have st2:Step ρ H1 (aW ρ H1 X.G) w ρ (aC H1 id (.aq (az.set j (.s (.ro c))) e0)) (aW ρ (aC H1 id (.aq (az.set j (.s (.ro c))) e0)) X.G) w:=by
  refine⟨λ_ _ _=>rfl,λk o ho=> ?_,λb hb=>.inl (hb.imp (ej b) (λx=>x)),λ_ _ _=>rfl,le_refl _⟩;by_cases hk:k=id;exact⟨.aq (az.set j (.s (.ro c))) e0,by simp[aC,hk],λc' e' hc=>by cases hc⟩;exact⟨o,by simp only[aC];rw[if_neg hk];exact ho,λc' e' hc=>⟨c',e',hc,rfl,rfl⟩⟩
 have st:=st1.trans st2;refine⟨?_,h.size,λu=> ?_,h.defers, ?_,h.jN,h.kept⟩;rw[e1];refine⟨λk o ho=> ?_,λi l oi ol b hi hl ai al bi bl=> ?_,λb hb=>s1.apart b (ej b hb),hs.low⟩
 replace ho:aC H1 id (.aq (az.set j (.s (.ro c))) e0) k=some o:=ho
 unfold aC at ho;split at ho;rename_i hk;cases ho;rw[hk,h0];refine⟨b,cells,fr,rfl,h1,h2,oG ρ _ _ _ (λa cs hd=>aR.step st a cs hd) ?_⟩;rw[qZ];unfold aR;exact⟨_,rfl,hro.less (λb hb=>hb.imp (ej b) (λx=>x))⟩;exact(s1.obj k o ho).step st2 (λ_ _ _=>rfl)
 have low:∀{k:Nat} {o:ak},aC H1 id (.aq (az.set j (.s (.ro c))) e0) k=some o->o.alive=true->∃o2,H1 k=some o2/\o2.alive=true:=by
  intro k o ho ha;simp only[aC]at ho;split at ho;rename_i hk;exact⟨_,hk▸asQ,rfl⟩;exact⟨o,ho,ha⟩
 have⟨o1,q1,q2⟩:=low hi ai;have⟨o2,q4,q5⟩:=low hl al;exact s1.inj i l o1 o2 b q1 q4 q2 q5 bi bl;rw[e1];exact af.step st _ _ (h.den u);rw[e1];exact h.ao.trans st;exact h;exact h;exact h
theorem cp.gI:∀(ns:List (Nat×Nat×Bool×aV×TypeId)) {ρ:Nat->Value} {tmps:List AV} {L:List ak},cp X ρ ⟨tmps,L⟩ a w->∃aN,cp X aN ⟨tmps,gI ns L⟩ a w
 |[],ρ,tmps,L,h=>⟨ρ,h⟩|(id,j,ro,c,e)::ns,ρ,tmps,L,h=>by
  cases ro;have⟨aN,h'⟩:=h.si (c:=c) (e:=e) (id:=id) (j:=j);exact cp.gI ns h';exact cp.gI ns ((h.xR (c:=c) (id:=id) (j:=j)).sj (id:=id) (j:=j))
theorem cp.gH:∀(ns:List (Nat×aV×TypeId)) {ρ:Nat->Value} {tmps:List AV} {L:List ak},cp X ρ ⟨tmps,L⟩ a w->∃aN,cp X aN ⟨(gH ns tmps L).1,(gH ns tmps L).2⟩ a w
 |[],ρ,tmps,L,h=>⟨ρ,h⟩|(t,c,e)::ns,ρ,tmps,L,h=>by
  have⟨aN,h'⟩:=h.pU (c:=c) (e:=e) (t:=t);exact cp.gH ns h'
theorem aka{m:Nat}{σ:List Nat}(h:auq m σ=true):∀i,i<m->σ[i]? =some i:=by
 intro i hi;simp only[auq,all_eq_true,mem_range]at h;have:=h i hi;split at this;rename_i j hj;rw[hj,Nat.eq_of_beq_eq_true this];cases this
theorem cp.gk{m:Nat}{tmps t1:List AV}{L L1:List ak}(h0:∀id,m<=id->X.H id=none)(h:gk m tmps L=some (t1,L1))(hr:cp X ρ ⟨tmps,L⟩ a w):∃aN,cp X aN ⟨t1,L1⟩ a w:=by
 unfold Sx.gk at h;simp only[cond_eq_ite]at h;split at h;rename_i hb;simp only[and_eq_true]at hb;split at h;rename_i L' vF hL ht;simp only[Option.some.injEq,Prod.mk.injEq]at h;obtain⟨rfl,rfl⟩:=h;exact⟨_,hr.view (l6 hb.1) hL (aka hb.2) h0 ht⟩;cases h;cases h
theorem Norm.safe{N:Norm}{f:FuncId}{c c':bP}(h0:∀id,N.m<=id->X.H id=none)(h:N.run c=some c')(hs:Safe P f X K c'):Safe P f X K c:=by
 intro G E ρ a w gN ib hr b a' fs hw;unfold Norm.run at h;split at h;rename_i t1 L1 h1;simp only[]at h;split at h;rename_i t2 L2 h2;simp only[Option.some.injEq]at h;subst h;have⟨jO,r1⟩:=cp.gk (X:=X.at G E) h0 h1 (cp.eW N.aBG hr);have⟨gy,r2⟩:=cp.gH N.qL r1;have⟨ρ3,r3⟩:=cp.gI N.cells r2;have⟨ρ4,r4⟩:=cp.gk (X:=X.at G E) h0 h2 r3;exact hs G E _ a w gN ib r4 b a' fs hw;cases h;cases h
end
end Go.Sx
