/- Lemmas: SxArr, SxZeros, SxOverlaps, SxEq, SxOp, SxCfg, SxRun, SxSeq, SxDrawn, SxFrames, SxFrames2, SxFrames3, SxResult, SxFrames4, SxSplit, SxThaw, SxExecOk, SxView. -/
import Derived.Laws.IdiomStrings
import Derived.Lib.Overlaps
import Derived.Orders
import Derived.RangeFuncIn
import Derived.RangeFuncRecord
import Derived.RangeFuncNested
import Derived.Test.YtikelbaeckehgaaGreatPA
open Go.IntKind (i64 u64 u8)
open Array (getD_eq_getD_getElem? length_toList toList_inj)
open Bool (and_eq_true)
open List (all_cons all_eq_true append_assoc append_nil cons_append getElem?_append_left getElem?_eq_getElem getElem?_eq_none getElem?_map getElem?_take length_append length_cons length_drop length_map length_nil length_take map_append map_cons mem_append mem_cons mem_map mem_range nodup_append range' replicate)
open Nat (add_mul add_zero beq_eq le_of_ble_eq_true le_refl le_trans lt_or_ge zero_add zero_le)
open Option (bind_eq_some_iff bind_some getD_some isSome_iff_exists map_eq_some_iff map_some)
noncomputable section
namespace Go.Sx
open Go
section
variable{ρ aO:Nat->Value}{H H':aJ}{G O O':Nat->Prop}{w w':World}{P:Program}
theorem Good.block(hs:Sat ρ H G w){w1:World}(hw:w1.heap=w.heap)(ht:w1.tape=w.tape)(hos:w1.os=w.os)(gW:w1.output=w.output){obj:Obj}{r:AV}{v:Value}
 (hr:ae ρ H (aV ρ H G) (w1.alloc obj) r v):Good ρ H G w H r v (w1.alloc obj):=by
 have cn:(w1.alloc obj).heap.size=w.heap.size+1:=by rw[dN,hw]
 have hold:∀i,i<w.heap.size->(w1.alloc obj).heap[i]? =w.heap[i]? :=λi hi=>by rw[gH (by rw[hw];exact hi),hw]
 have st:Step ρ H (aV ρ H G) w ρ H (aV ρ H G) (w1.alloc obj):=
  ⟨λ_ _ _=>rfl,λ_ o ho=>⟨o,ho,λc' e' e=>⟨c',e',e,rfl,rfl⟩⟩,λb hb=>.inl hb,λb hb _=>hold b hb,by omega⟩
 exact⟨ρ,⟨λj x hx=>(hs.obj j x hx).step st (λb ha hb=>hold b (gf hs ⟨j,x,hx,ha,hb⟩)),hs.inj,hs.apart,λb hb=>by have:=hs.low b hb;omega⟩,hr,st,hos,ht,gW,λb hb _=>hold b hb⟩
theorem afy{e:TypeId}{k:IntKind}(hk:kindOf P e=some k):P.underlying e=some (.int k):=by
 unfold kindOf at hk;split at hk<;>first|(cases hk;assumption)|cases hk
theorem aax(s:ByteArray):(lV s).length=s.size:=by simp[lV]
theorem aay{src dst:TypeId}{x:AV}{vx:Value}{q:bK}(h:(tV P src dst x).eval H=some q)(hn:bd q.aa)(hs:Sat ρ H G w)(hd:ae ρ H (aV ρ H G) w x vx)(base:Nat):
 ∃v w',(convert src dst vx).run P w=.ok v w'/\Good ρ H G w (cL H q.up base q.new) (q.r base) v w':=by
 unfold tV at h;split at h;rename_i e s od kf;obtain rfl:=gr hd;split at h;rename_i hk;have he:=afy hk;simp only[plain,RM.eval,Option.some.injEq]at h;subst h;have hsm:s.size<=4294967296:=hn.1;refine⟨_,_,run_bytes_of_string w src dst e s od kf he, ?_⟩;rw[lg];refine Good.block (w1:=w.drew) hs rfl rfl rfl rfl (aC ?_);have hc:(aS.ay .u8 (lV s)).n=s.size:=aax s;have key:=aX.ro (O:=aV ρ H G) (w:=w.drew.alloc (.cells (bytesRow s (grownCap w s.size 0 e)) e ((bytesRow s (grownCap w s.size 0 e)).size,(bytesRow s (grownCap w s.size 0 e)).size+1)))
  (aS.ay .u8 (lV s)) (some ⟨w.heap.size,0,none⟩) (grownCap w s.size 0 e) (λi _=>.int .u8 ((lV s).getD i 0)) w.heap.size 0 (by rw[hc];exact grownCap_ge w _ _ _)
  (grownCap_le_maxLen w _ _ _ (by simp only[maxLen];omega)) (λ_=>⟨rfl,λhh=>Nat.lt_irrefl _ (ua hs hh),by rw[dN];exact Nat.lt_succ_self _⟩) (λi j hi hj=> ?_) (λi j hi hj=>by simp only[aS.cell];exact .int _ _)
 rw[hc]at key;exact key;simp only[aS.size]at hj;obtain rfl:j=0:=by omega
 rw[hc]at hi;have hb:(w.drew.alloc (.cells (bytesRow s (grownCap w s.size 0 e)) e ((bytesRow s (grownCap w s.size 0 e)).size,(bytesRow s (grownCap w s.size 0 e)).size+1))).heap[w.heap.size]? =
  some (.cells (bytesRow s (grownCap w s.size 0 e)).toList.toArray e ((bytesRow s (grownCap w s.size 0 e)).size,(bytesRow s (grownCap w s.size 0 e)).size+1)):=kY (w:=w.drew)
 rw[cX hb];have ep:i<s.data.size:=hi;have xd:i<s.data.toList.length:=by simpa using ep
 simp only[bytesRow,lV,aS.size,Nat.mul_one,add_zero,zero_add,Array.toList_append,Array.toList_map];rw[getElem?_append_left (by rw[length_map];exact xd),getElem?_map,getElem?_eq_getElem xd];simp[List.getD];rw[Array.getElem?_eq_getElem ep];rfl;cases h;cases h
theorem aaz{t:TypeId}{x:AV}{vx:Value}{q:bK}(h:(tW P t x).eval H=some q)(hn:bd q.aa)(hd:ae ρ H O w x vx):eR P ρ H O w q (Instr.arrayAt t vx):=by
 unfold tW at h;split at h;rename_i n e k zs ht;rw[Bool.cond_eq_ite]at h;split at h;rename_i h1;have h1:=le_of_ble_eq_true h1;have hx:=aw (by simp) hd;cases hx with
 |ro _ a cap us b o g1 g2 g3 g4 g5=>
  refine aE h (λcG=> ?_) hn;have hnz:n<=zs.length:=cG.1;obtain⟨rfl,h8,h9⟩:=g3 (by simp only[aS.n];omega);refine⟨.pointer (some ⟨b,o,none⟩), ?_, ?_⟩;have:¬zs.length<n:=by omega
  simp[Instr.arrayAt,run_underlying ht,aS.n,this];unfold ae aH;refine⟨b,o,λj=>us j 0,rfl,h8,h9,λl hl=> ?_⟩;have hl':l<n:=hl;have e1:=g4 l 0 (by simp only[aS.n];omega) Nat.one_pos;have e2:=g5 l 0 (by simp only[aS.n];omega) Nat.one_pos;simp only[aS.size,Nat.mul_one,add_zero]at e1;refine⟨e1, ?_⟩
  have e3:(aS.ab [.arr k n] [(zs.take n,())]).cell 0 l=.int k (zs.getD l 0):=by
   show(bif l.blt n then SV.int k (List.getD (zs.take n) l 0)else .aF)=_;rw[jP hl'];simp[List.getD,getElem?_take,hl']
  rw[e3];exact e2
 cases h;cases h
theorem uA{x:AV}{k:IntKind->List Int->Prop->RM bK}{v:Value}{q:bK}(h:(sZ x k).eval H=some q)(hs:Sat ρ H G w)(hd:ae ρ H (aV ρ H G) w x v):
 ∃kk zs p,(k kk zs p).eval H=some q/\(p->(Builtin.lenOf v).run P w=.ok zs.length w/\∀m,m<=zs.length->(Builtin.firstCells 1 m v).run P w=.ok ((zs.take m).map (Value.int kk)).toArray w):=by
 unfold sZ at h;split at h;rename_i s;obtain rfl:=gr hd;refine⟨_,_,_,h,λ_=>⟨by simp[Builtin.lenOf],λm hm=> ?_⟩⟩;simp only[Builtin.firstCells,Sem.run_pure];congr 1;apply toList_inj.1;rw[Array.toList_map];simp[ByteArray.data_extract];rfl;rename_i id off n;simp only[RM.eval]at h;split at h;rename_i kk m ws e ho;unfold ae aH at hd;obtain⟨_,b,a,cap,hb,rfl,ha,_⟩:=hd;refine⟨_,_,_,h,λhp=> ?_⟩;have⟨hl,hc⟩:=xx hs ho hb hp;refine⟨by rw[hl];simp[Builtin.lenOf],λl hm=> ?_⟩;rw[hl]at hm;rcases Nat.eq_zero_or_pos n with h0|h0;have:l=0:=by omega
 subst this;cases a with
 |none=>simp[Builtin.firstCells]|some a=>simp[Builtin.firstCells];rfl
 rw[ha (by omega)];simp only[Builtin.firstCells,Nat.mul_one]
 have e1:(((ws.drop off).take n).take l).map (Value.int kk)=(List.range l).map λi=>Value.int kk (((ws.drop off).take n).getD i 0):=by
  apply List.ext_getElem?;intro i;simp only[getElem?_map,List.getElem?_range'];by_cases hi:i<l;have:i<((ws.drop off).take n).length:=by omega
  rw[getElem?_take,if_pos hi,getElem?_eq_getElem this,getElem?_eq_getElem (by simpa using hi)];simp[List.getD,getElem?_eq_getElem this];rw[getElem?_take,if_neg hi,getElem?_eq_none (by simp;omega)];rfl
 rw[e1];refine run_loadCells w _ _ (λi=>Value.int kk (((ws.drop off).take n).getD i 0)) (λj hj=> ?_);rw[a7];exact hc j (by omega);cases h;cases h
theorem uB{k:IntKind}{m:Nat}(x:CL [.arr k m])(j:Nat):CL.cell [.arr k m] x j=bif j.blt m then .int k ((aaf x).getD j 0)else .aF:=rfl
theorem uC{cs:List CK}(xs:List (CL cs))(i j:Nat):(aS.ab cs xs).cell i j=CL.cell cs (xs.getD i (CL.d cs)) j:=rfl
theorem sf{k:IntKind}{m:Nat}(ws:List Int):aaf (ahN ws:CL [.arr k m])=ws:=rfl
theorem pJ{α:Type}{xs:List α}{i:Nat}{x d:α}(h:i<xs.length):(xs.set i x).getD i d=x:=by simp[List.getD,h]
theorem acA{α:Type}{xs:List α}{i i':Nat}{x d:α}(h:i'≠i):(xs.set i x).getD i' d=xs.getD i' d:=by simp[List.getD,List.getElem?_set_ne (Ne.symm h)]
theorem aib{α:Type}{l:List α}{i:Nat}{d:α}(h:i<l.length):l.getD i d=l[i]:=by simp[List.getD,h]
theorem afz(hs:Sat ρ H G w){id i j b f n cap:Nat}{c c':aS}{e:TypeId}(ho:H id=some (.vec c e))(dS:ρ id=.slice (some ⟨b,f,none⟩) n cap)(hi:i<c.n){vs:List Value}(hj:j+vs.length<=c.size)(hp:0<c.size)
 (k1:c'.n=c.n) (k2:c'.size=c.size) (rr:∀v∈vs,v.oneCell'=true) (k4:∀l u,vs[l]? =some u->aX (aV ρ H G) w (c'.cell i (j+l)) u)
 (k5:∀i' j',i'<c.n->j'<c.size->¬(i'=i/\j<=j'/\j'<j+vs.length)->c'.cell i' j'=c.cell i' j') (z:Int):
 ∃w',(storeCells ⟨b,f+i*c.size+j,none⟩ vs 0).run P w=.ok () w'/\Good ρ H G w (aK H id (.vec c' e)) (.s (.int .i64 z)) (.int .i64 z) w':=by
 have⟨a,ae6,h5,h6,h7,h8⟩:=hs.obj id _ ho;rw[dS]at h5;cases h5;rcases h8 with rfl|⟨b',o',cells,fr,us,e1,g1,g2,g3,g4⟩;omega;cases e1
 have ko:eD (ρ id)=some b:=by
  rw[dS];simp only[eD];rw[if_neg (by omega)]
 have hmul:i*c.size+c.size<=cap*c.size:=by
  rw[<-Nat.succ_mul];exact Nat.mul_le_mul_right _ (by omega)
 have bL:f+i*c.size+j+vs.length<=cells.length:=by omega
 have st:=jR (G:=G) (w:=w) (o':=.vec c' e) ho rfl ko (λc1 e1 hc1=>by cases hc1;exact⟨c,e,rfl,k1,k2⟩)
  (.cells (cells.take (f+i*c.size+j)++vs++cells.drop (f+i*c.size+j+vs.length)).toArray e fr)
 refine⟨_,bY (f+i*c.size+j) _ 0 g1 g2.ow (by omega) rr, ?_⟩;simp only[add_zero];refine Good.write hs ho rfl rfl ko (λc1 e1 hc1=>by cases hc1;exact⟨c,e,rfl,k1,k2⟩) ?_ (aC (.int _ _));refine⟨some ⟨b,f,none⟩,cap,by rw[dS,k1],by omega,h7,.inr ⟨b,f,_,fr,λi' j'=>if i'=i/\j<=j'/\j'<j+vs.length then(vs.getD (j' - j) undef)else us i' j',rfl,dM g1,g2.over rr bL, ?_, ?_⟩⟩;simp only[length_append,length_take,length_drop];rw[k2];omega;intro i' j' ep js;rw[k1]at ep;rw[k2]at js;rw[k2,yx _ _ _ bL];dsimp only;by_cases c9:i'=i/\j<=j'/\j'<j+vs.length;obtain⟨rfl,h9,iz⟩:=c9;rw[if_pos ⟨by omega,by omega⟩,if_pos ⟨rfl,h9,iz⟩];have hx1:j' - j<vs.length:=by omega
 refine⟨by rw[show f+i'*c.size+j' - (f+i'*c.size+j)=j' - j from by omega];exact gZ _ _ _ hx1, ?_⟩;have:=k4 (j' - j) _ (gZ _ _ undef hx1);rw[show j+(j' - j)=j' from by omega]at this;exact this.step st.ft st.heap st.size;rw[if_neg c9]
 have gW:¬(f+i*c.size+j<=f+i'*c.size+j'/\f+i'*c.size+j'<f+i*c.size+j+vs.length):=by
  rintro⟨h9,iz⟩;have hd:f+i*c.size+(f+i'*c.size+j' - (f+i*c.size))=f+i'*c.size+j':=by omega
  have⟨oe,oW⟩:=ah1 (f:=f) (i:=i) (i':=i') (j:=f+i'*c.size+j' - (f+i*c.size)) (by omega) js hd;subst oe;exact c9 ⟨rfl,by omega,by omega⟩
 rw[if_neg gW,k5 i' j' ep js c9];have⟨h9,iz⟩:=g4 i' j' ep js;exact⟨h9,iz.step st.ft st.heap st.size⟩
theorem aaA{α β:Type}(f:α->β)(xs ys:List α)(lo k:Nat):(over xs lo k ys).map f=(xs.map f).take lo++(ys.take k).map f++(xs.map f).drop (lo+k):=by
 simp[over,List.map_take,List.map_drop]
theorem afA{t t' ty:TypeId}{x y:AV}{vx vy:Value}{q:bK}(h:(acf P t x y).eval H=some q)(hn:bd q.aa)(hs:Sat ρ H G w)
 (hx:ae ρ H (aV ρ H G) w x vx) (hy:ae ρ H (aV ρ H G) w y vy):
 ∃v w',(Builtin.copy_ #[t,t'] ty #[vx,vy]).run P w=.ok v w'∧∀base,Good ρ H G w (cL H q.up base q.new) (q.r base) v w':=by
 unfold acf at h;split at h;rename_i e ht;split at h;rename_i sz cn;rw[Bool.cond_eq_ite]at h;split at h;rename_i h1;obtain rfl:sz=1:=by simpa using h1
 split at h;rename_i id off n;obtain⟨kk,zs,p,h2,od⟩:=uA (P:=P) h hs hy;simp only[RM.eval]at h2;split at h2;rename_i k m ws e' ho;rw[Bool.cond_eq_ite]at h2;split at h2;rename_i hk;obtain rfl:=bf hk;simp only[RM.eval,Option.some.injEq]at h2;subst h2;obtain⟨hp,hnm,_⟩:=hn;obtain⟨bL,jS⟩:=od hp;unfold ae aH at hx;obtain⟨_,b,a,cap,hb,rfl,ha,_⟩:=hx;obtain⟨cells,fr,g1,g2,g3⟩:=nx hs ho hb;obtain⟨c1,c2,rfl,e3,e4⟩:=ah.1 g3;obtain⟨e5,rfl⟩:=cT.1 e3;obtain rfl:=aB.1 e4;rw[append_nil]at g1 g2 g3;have jm:=jS (min zs.length n) (Nat.min_le_left _ _);have pn:((zs.take (min zs.length n)).map (Value.int kk)).length=min zs.length n:=by rw[length_map,length_take];omega
 have rr:∀v∈(zs.take (min zs.length n)).map (Value.int kk),v.oneCell'=true:=fun v hv=>by obtain⟨y,_,rfl⟩:=mem_map.1 hv;rfl
 have q7:=bY (P:=P) off ((zs.take (min zs.length n)).map (Value.int kk)) 0 g1 g2 (by rw[pn,length_map];omega) rr
 have aqS:((ws.map (Value.int kk)).take (off+0)++(zs.take (min zs.length n)).map (Value.int kk)++(ws.map (Value.int kk)).drop (off+0+((zs.take (min zs.length n)).map (Value.int kk)).length))=(over ws off (min zs.length n) zs).map (Value.int kk):=by
  rw[aaA,pn,add_zero]
 rw[aqS]at q7;have hwl:(over ws off (min zs.length n) zs).length=m:=by rw[gJ _ _ (by omega) (Nat.min_le_left _ _)];exact e5
 have alR:∀base,Good ρ H G w (cL H [(id,.ad [.ay kk m (over ws off (min zs.length n) zs)] e')] base []) (.s (.int .i64 ((min zs.length n:Nat):Int))) (.int .i64 ((min zs.length n:Nat):Int)) (World.cc w b (.cells ((over ws off (min zs.length n) zs).map (Value.int kk)).toArray e' fr)):=fun base=>by
  simp only[fT];have ko:eD (ρ id)=some b:=by rw[hb];rfl
  have hd':aA ρ H (aV ρ H G) w [.ay kk m (over ws off (min zs.length n) zs)] ((over ws off (min zs.length n) zs).map (Value.int kk)):=
   ah.2 ⟨_,[],(append_nil _).symm,cT.2 ⟨hwl,rfl⟩,aB.2 rfl⟩
  have st:=jR (G:=G) (w:=w) (o':=.ad [.ay kk m (over ws off (min zs.length n) zs)] e') ho rfl ko (by simp) (.cells ((over ws off (min zs.length n) zs).map (Value.int kk)).toArray e' fr);exact Good.write hs ho rfl rfl ko (by simp) ⟨b,_,fr,hb,dM g1,by rw[length_map,hwl,←e5,←length_map (Value.int kk)];exact g2,hd'.step st⟩ (aC (.int _ _))
 rcases Nat.eq_zero_or_pos n with h0|h0;subst h0;have e6:(over ws off (min zs.length 0) zs).map (Value.int kk)=ws.map (Value.int kk):=by rw[aaA];simp
 have e7:World.cc w b (.cells ((over ws off (min zs.length 0) zs).map (Value.int kk)).toArray e' fr)=w:=by rw[e6];exact rX g1
 refine⟨_,w,lu ht cn bL jm (fun x hx=> ?_) (fun _=>rfl),fun base=>by have:=alR base;rw[e7]at this;exact this⟩;simp[storeCells];rw[ha (by omega)];exact⟨_,_,lu ht cn bL jm (fun x hx=>by cases hx;exact q7) (fun hx=>by cases hx),alR⟩;cases h2;cases h2;rename_i id i j n;obtain⟨kk,zs,p,h2,od⟩:=uA (P:=P) h hs hy;simp only[RM.eval]at h2;split at h2;rename_i k m xs e' ho;rw[Bool.cond_eq_ite]at h2;split at h2;rename_i hk;simp only[and_eq_true]at hk;obtain⟨hk,hm0⟩:=hk;have hm0:=le_of_ble_eq_true hm0;obtain rfl:=bf hk;simp only[RM.eval,Option.some.injEq]at h2;subst h2;obtain⟨hp,hxl,_⟩:=hn;obtain⟨bL,jS⟩:=od hp;unfold ae aH at hx;obtain⟨_,o,c5,hv⟩:=hx;rw[ho]at c5;cases c5;obtain⟨hi,hj,b,f,n',cap,a,ae6,dS,rfl,ha⟩:=hv _ _ rfl;have hi:i<xs.length:=hi;have hj:j+n≤m:=hj;have jm:=jS (min zs.length n) (Nat.min_le_left _ _);have pn:((zs.take (min zs.length n)).map (Value.int kk)).length=min zs.length n:=by rw[length_map,length_take];omega
 have rr:∀v∈(zs.take (min zs.length n)).map (Value.int kk),v.oneCell'=true:=fun v hv=>by obtain⟨y,_,rfl⟩:=mem_map.1 hv;rfl
 generalize alS:min zs.length n=hD at *;obtain⟨w',s1,s2⟩:=afz (P:=P) (c':=.ab [.arr kk m] (xs.set i (ahN (over (aaf (xs.getD i (CL.d [.arr kk m]))) j hD zs)))) hs ho dS hi (vs:=(zs.take hD).map (Value.int kk)) (by rw[pn];show j+hD≤m;omega) hm0
  List.length_set rfl rr (fun l u hu=>by
   obtain⟨a8,hu⟩:=List.getElem?_eq_some_iff.1 hu;rw[pn]at a8;rw[uC,pJ hi,uB,sf,jP (by omega),jI _ _ _ (by omega) (by omega),if_pos ⟨by omega,by omega⟩,←hu];simp only[List.getElem_map,List.getElem_take,cond_true];rw[show j+l - j=l from by omega,aib (by omega)];exact .int _ _)
  (fun i' j' ep js uw=>by
    have ep:i'<xs.length:=ep;have js:j'<m:=js;rw[pn]at uw;rw[uC,uC];by_cases hii:i'=i;subst hii;rw[pJ hi,uB,uB,sf,jI _ _ _ (by omega) (by omega),if_neg (fun hc=>uw ⟨rfl,hc⟩)];rw[acA hii]) ((hD:Nat):Int)
 rcases Nat.eq_zero_or_pos n with h0|h0;have hc0:hD=0:=by omega
 have e7:w'=w:=by
  subst hc0;simp[storeCells]at s1;exact s1.symm
 subst e7;refine⟨_,_,lu ht cn bL (by rw[alS];exact jm) (fun x hx=> ?_) (fun _=>rfl),fun base=>by simp only[fT,alS];exact s2⟩;subst hc0;simp[storeCells];rw[ha (by omega)];exact⟨_,_,lu ht cn bL (by rw[alS];exact jm) (fun x hx=>by cases hx;exact s1) (fun hx=>by cases hx),fun base=>by simp only[fT,alS];exact s2⟩;cases h2;cases h2;cases h;cases h;cases h;cases h
theorem aic{es es':Array MapEntry}{c c':Nat}(h:ae9 es c=ae9 es' c'):es=es'/\c=c':=by
 simp only[ae9,Value.tuple.injEq,Array.mk.injEq,List.cons.injEq,Value.int.injEq,true_and,and_true]at h;have⟨h1,h2⟩:=h;refine⟨?_,by omega⟩
 have aid:∀a b:MapEntry,Value.tuple #[a.key,a.val,.int .i64 (a.born:Int)]=Value.tuple #[b.key,b.val,.int .i64 (b.born:Int)]->a=b:=λa b e=>by
  simp only[Value.tuple.injEq,Array.mk.injEq,List.cons.injEq,Value.int.injEq,true_and,and_true]at e;have⟨e1,e2,e3⟩:=e;cases a;cases b;simp only at e1 e2 e3;rw[e1,e2,Int.ofNat.inj e3]
 apply toList_inj.1;have h3:=congrArg Array.toList h2;simp only[Array.toList_map]at h3;exact List.map_inj_right (λa b=>aid a b) |>.1 h3
theorem find_born{es:List MapEntry}(hb:(es.map (·.born)).Nodup){e:MapEntry}(he:e∈es):es.find? (λx=>x.born==e.born)=some e:=by
 induction es with
 |nil=>simp at he|cons x es ih=>
  simp only[map_cons,List.nodup_cons]at hb;rw[List.find?_cons];rcases mem_cons.1 he with rfl|he;simp
  have:(x.born==e.born)=false:=by
   rw[beq_eq_false_iff_ne];exact λh=>hb.1 (mem_map.2 ⟨e,he,h.symm⟩)
  rw[this];exact ih hb.2 he
theorem aie(hs:Sat ρ H G w){id mid gid b:Nat}{ck ck':CK}{left:List (Int×ck.V)}{cur:Option (Int×ck.V)}{m:List (Int×ck'.V)}(ho:H id=some (.iter mid gid ck left cur))(hm:H mid=some (.wZ ck' m gid))
 (hb:ρ id=.pointer (some ⟨b,0,none⟩)):∃mb es clock seen,w.heap[b]? =some (.mapIter (some mb) clock seen clock)/\w.heap[mb]? =some (.map es clock)/\tZ ck left cur es clock seen/\iQ ck' m es.toList clock/\
   ρ mid=.map (some mb)/\ρ gid=ae9 es clock/\(H gid).isSome=true:=by
 have⟨b',mb,es,clock,seen,h1,h2,h3,h4,h5,h6,h7⟩:=hs.obj id _ ho;rw[hb]at h1;cases h1;have⟨mb',es',uz,g1,g2,g3,g4,_⟩:=hs.obj mid _ hm;rw[h6]at g1;cases g1;rw[h4]at g4;obtain⟨rfl,rfl⟩:=aic g4;exact⟨mb,es,clock,seen,h2,g2,h3,g3,h6,h4,h5⟩
theorem aif{ck:CK}(h:ck.plain=true)(v:ck.V):ck.av v≠.s .aF:=by
 cases ck<;>simp only[CK.plain,Bool.false_eq_true]at h<;>simp[CK.av]
theorem afB{x:AV}{vx:Value}{q:bK}(h:(aci x).eval H=some q)(hn:bd q.aa)(hs:Sat ρ H G w)(hd:ae ρ H (aV ρ H G) w x vx):
 eR P ρ H (aV ρ H G) w q (Instr.entry vx):=by
 unfold aci at h;split at h;rename_i id;simp only[RM.eval]at h;split at h;rename_i mid gid ck left cur ho;simp only[RM.eval]at h;split at h;rename_i ck' m aqM hm;rw[Bool.cond_eq_ite]at h;split at h;rename_i hc;simp only[and_eq_true,beq_eq]at hc;obtain⟨rfl,hp⟩:=hc;split at h;rename_i p;unfold ae aH at hd;obtain⟨b,hb,rfl,_⟩:=hd;have⟨mb,es,clock,seen,h1,h2,h3,_⟩:=aie hs ho hm hb;have⟨hf,e,he,k1,k2,k3⟩:=h3.cur p rfl;have e1:(getObj b).run P w=.ok (.mapIter (some mb) clock seen clock) w:=by simp[getObj,Sem.run,h1]
 have e2:(getObj mb).run P w=.ok (.map es clock) w:=by simp[getObj,Sem.run,h2]
 have e3:es.find? (λx=>x.born==e.born)=some e:=by rw[<-Array.find?_toList];exact find_born h3.xv he
 refine aE h (λ_=>⟨.tuple #[.int .i64 p.1,ck.val p.2], ?_, ?_⟩) hn;simp[Instr.entry,e1,e2,k1,e3,k2,k3];unfold ae;refine⟨[.int .i64 p.1,ck.val p.2],rfl,aG.2 ⟨_,_,rfl,aC (.int _ _),aG.2 ⟨_,_,rfl,acy hf ?_,bc.2 rfl⟩⟩⟩;exact aif hp _;cases h;cases h;cases h;cases h;cases h
end
section
variable{ρ aO:Nat->Value}{H H':aJ}{G O O':Nat->Prop}{w w':World}{P:Program}
theorem rD{t t' ty e:TypeId}{kn k:IntKind}{i:TypeInfo}{z:Value}{a:Option Addr}{n cap:Nat}{j:Nat}{olds:List Value}
 (ht:P.underlying t=some (.slice e)) (htn:P.underlying t'=some (.int kn)) (hi:P.info? e=some i) (hz:i.zero=some z)
 (hold:(Builtin.firstCells i.size n (.slice a n cap)).run P w.drew=.ok olds.toArray w.drew) (mV:¬n+j<=cap)
 (hsm:n+j<=4294967296) (hby:i.bytes<=256) (h1:1<=i.size) (h0:0<j):
 ∃mY,n+j<=mY/\mY<=maxLen/\(Builtin.append_ #[t,t'] ty #[.slice a n cap,.int k (j:Int)]).run P w=
  .ok (.slice (some ⟨w.heap.size,0,none⟩) (n+j) mY) (w.drew.alloc (.cells (olds++(Builtin.zeroCells z.cells j).toList++(Builtin.zeroCells z.cells (mY - (n+j))).toList).toArray e)):=by
 refine⟨grownCap w (n+j) cap e,grownCap_ge w _ _ _,grownCap_le_maxLen w _ _ _ (by simp only[maxLen];omega), ?_⟩
 have aas:¬(281474976710656<Builtin.nextslicecap (n+j) cap*i.bytes):=by
  have h1:=nextslicecap_le (aa:=n+j) (old:=cap) (by omega);have h2:Builtin.nextslicecap (n+j) cap*i.bytes<=(2*(n+j)+192)*256:=Nat.mul_le_mul h1 hby;omega
 have ah4:¬(9223372036854775807<(n:Int)+(j:Int)):=by omega
 have hw:i64.wrap (j:Int)=(j:Int):=fw ⟨by omega,by omega⟩;have atF:¬((j:Int)<0):=by omega
 have atG:¬((281474976710656:Int)<(j:Int)*(i.bytes:Int)):=by
  have:j*i.bytes<=4294967296*256:=Nat.mul_le_mul (by omega) hby;have h3:((j*i.bytes:Nat):Int)<=((4294967296*256:Nat):Int):=Int.ofNat_le.2 this;rw[Int.natCast_mul]at h3;omega
 have alM:∀X Y:Array Value,olds.toArray++(X++Y)=(olds++(X.toList++Y.toList)).toArray:=λX Y=>by
  apply toList_inj.1;simp
 have hq:¬((Question.appendCap (n+j) cap e).forced=true):=by simp[Question.forced]
 have cG:¬(j*i.size=0):=by
  have:0<j*i.size:=Nat.mul_pos h0 (by omega);omega
 simp[Builtin.append_,run_underlying ht,run_underlying htn,sizeOf,typeInfo,hi,mV,ah4,aas,hold,zeroValue,hz,newRow,hw,atF,atG,cG,asInt,asIntOf];rw[if_neg hq,alM];rfl
theorem aaB{t t' ty:TypeId}{x y:AV}{vx vy:Value}{q:bK}(h:(tT P t t' x y).eval H=some q)(hn:bd q.aa)(hs:Sat ρ H G w)
 (hx:ae ρ H (aV ρ H G) w x vx) (hy:ae ρ H (aV ρ H G) w y vy) {base:Nat} (hb:∀i,i<q.new.length->H (base+i)=none):
 ∃v w',(Builtin.append_ #[t,t'] ty #[vx,vy]).run P w=.ok v w'/\Good ρ H G w (cL H q.up base q.new) (q.r base) v w':=by
 unfold tT at h;split at h;rename_i e kt c k kd lit j ht ht' hy0;have hvy:=cp hy0 hy;split at h;rename_i i hi;rw[Bool.cond_eq_ite]at h;split at h;rename_i hc;simp only[and_eq_true]at hc;have⟨⟨⟨c1,c2⟩,c3⟩,c4⟩:=hc;have c1:=le_of_ble_eq_true c1;have c2:=le_of_ble_eq_true c2;have c3:c.size=i.size:=Nat.eq_of_beq_eq_true c3
 obtain⟨z,hz,hzf,hzs⟩:∃z,i.zero=some z/\gi (shapeOf P e) z.cells.toList=true/\z.cells.size=i.size:=by
  cases hz:i.zero with
  |none=>simp[hz]at c4|some z=>
   simp only[hz,Option.any_some,and_eq_true,beq_iff_eq]at c4;exact⟨z,rfl,c4.1,c4.2⟩
 simp only[RM.eval,Option.some.injEq]at h;subst h;have⟨hj0,mV,hsm,_⟩:=hn;have jl:H base=none:=by simpa using hb 0 (by simp)
 have hx':=aw (by simp) hx;cases hx' with
 |rot _ _ a n cap hro hk=>
  obtain⟨jn,rfl⟩:∃jn:Nat,j=(jn:Int):=⟨j.toNat,by omega⟩;cases hro with
  |ro _ _ _ us b o q1 q2 q3 q4 q5=>
  have xg:oV (aV ρ H G) w c (.slice a c.n cap):=⟨a,cap,us,rfl,q1,q2,λh0=>⟨b,o,(q3 h0).1,(q3 h0).2.2,λi j hi hj=>⟨q4 i j hi hj,q5 i j hi hj⟩⟩⟩;have⟨olds,ux⟩:=s9 (P:=P) xg c3 c1;have⟨f1,f2⟩:=kq (O:=aV ρ H G) (w:=w) hzf jn;have hzl:z.cells.toList.length=i.size:=by rw[length_toList,hzs]
  have han:(dh c (dr (shapeOf P e) jn)).n=c.n+jn:=by rw[uu,lz]
  have alO:(dh c (dr (shapeOf P e) jn)).size=i.size:=by rw[mU c _ (by rw[f1,hzl,c3]),c3]
  have⟨mY,g1,g2,g3⟩:=rD (ty:=ty) (k:=kd) ht ht' hi hz (ux.first w.drew rfl) (j:=jn) (by omega) (by omega) c2 c1 (by omega);rw[hvy];refine⟨_,_,g3, ?_⟩;simp only[iV,Int.toNat_natCast];rw[<-han]
  have hnl:(Builtin.zeroCells z.cells jn).toList.length=(dr (shapeOf P e) jn).n*i.size:=by
   rw[length_toList,size_zeroCells,hzs,lz]
  have key:=rC (rest:=(Builtin.zeroCells z.cells (mY - (c.n+jn))).toList) (O:=aV ρ H G) (w:=w) c3 (by rw[f1,hzl]) c1 ux.length hnl ux.den (λi' j' ep js=>by
   rw[lz]at ep;have⟨u,k1,k2⟩:=f2 i' j' ep (by omega);refine⟨u, ?_,k2⟩;rw[<-hzs,kI jn ep (by rw[hzs];exact js)];exact k1) []
  simp only[List.nil_append,length_nil,zero_add]at key;rw[<-han]at key;refine lr (w1:=w.drew) hs rfl rfl rfl rfl jl (by rw[han];exact g1) g2 ?_ _ key (λu hu=> ?_);rw[alO];simp only[length_append,ux.length,length_toList,size_zeroCells,hzs];rw[<-add_mul,<-add_mul];exact Nat.mul_le_mul_right _ (by omega);rcases mem_append.1 hu with hu|hu;rcases mem_append.1 hu with hu|hu;exact ux.one u hu;exact iJ hzf jn u hu;exact iJ hzf _ u hu
 cases h;cases h;cases h
end
section
variable{ρ aO:Nat->Value}{H H':aJ}{G O O':Nat->Prop}{w w':World}{P:Program}
theorem uD(hs:Sat ρ H G w){x:AV}{i:Nat}{c:aS}{e:TypeId}(hx:ownRow x=some i)(hi:H i=some (.vec c e))(cn:1<=c.size){v:Value}(hd:ae ρ H (aV ρ H G) w x v):
 ∃(a:Option Addr) (n cap:Nat),v=.slice a n cap/\(n=0\/∃(b o:Nat) (cells:List Value) (fr:Nat×Nat),a=some ⟨b,o,none⟩/\eD (ρ i)=some b/\w.heap[b]? =some (.cells cells.toArray e fr)/\yn fr cells/\o<=cells.length/\0<cells.length):=by
 have⟨a,cap,r1,r2,r3,r4⟩:=hs.obj i _ hi;unfold ownRow at hx;split at hx;rename_i id;cases hx;unfold ae aH at hd;have⟨_,o,ho,hv⟩:=hd;rw[hi]at ho;cases ho;rw[hv c e rfl,r1];refine⟨a,c.n,cap,rfl, ?_⟩;by_cases h0:c.n=0;exact .inl h0;rcases r4 with h4|⟨b,o,cells,fr,us,rfl,q1,q2,q3,q4⟩;omega;have:1*1<=cap*c.size:=Nat.mul_le_mul (by omega) cn;exact .inr ⟨b,o,cells,fr,rfl,by simp only[eD];rw[if_neg (by omega)],q1,q2,by omega,by omega⟩;rename_i id lo n;cases hx;unfold ae aH at hd;have⟨_,o,ho,hv⟩:=hd;rw[hi]at ho;cases ho;obtain⟨hle,a2,uf,a',k1,k2,rfl,k4⟩:=hv c e rfl;rw[r1]at k1;simp only[Value.slice.injEq,true_and]at k1;obtain⟨rfl,rfl⟩:=k1;refine⟨a',n,cap - lo,rfl, ?_⟩;by_cases h0:n=0;exact .inl h0;rcases r4 with h4|⟨b,o,cells,fr,us,rfl,q1,q2,q3,q4⟩;omega;have:lo*c.size<=cap*c.size:=Nat.mul_le_mul_right _ (by omega);have h1:1*1<=cap*c.size:=Nat.mul_le_mul (by omega) cn;refine .inr ⟨b,o+lo*c.size,cells,fr, ?_,by rw[r1];simp only[eD];rw[if_neg (by omega)],q1,q2,by omega,by omega⟩;rw[k4 (by omega),map_some,a7];cases hx
theorem yF{motive:Array Value->Sort 1}{a b:Option Addr}{la ca lb cb:Nat}{h1:(a:Option Addr)->(la cap:Nat)->(b:Option Addr)->(lb cb:Nat)->motive #[.slice a la cap,.slice b lb cb]}{h2:(x:Array Value)->motive x}:
 Extern.SlicesOverlaps.overlaps.match_4 motive #[.slice a la ca,.slice b lb cb] h1 h2=h1 a la ca b lb cb:=rfl
theorem lZ{f:FuncId}{args:List AV}{vs:List Value}{q:bK}(h:(rf P f args).eval H=some q)(hn:bd q.aa)(hs:Sat ρ H G w)(hd:bH ρ H (aV ρ H G) w args vs):
 ∃v,(callFunc f vs.toArray).run P w=.ok (.value v) w/\q.up=[]/\q.new=[]/\∀base,ae ρ H (aV ρ H G) w (q.r base) v:=by
 unfold rf at h;split at h;rename_i x y;split at h;rename_i i j hx hy;rw[Bool.cond_eq_ite]at h;split at h;cases h;rename_i kT;have kT:i≠j:=λe=>kT (by subst e;exact Nat.beq_refl i);simp only[RM.eval]at h;split at h;rename_i c e1 hi;simp only[RM.eval]at h;split at h;rename_i d e2 hj;rw[Bool.cond_eq_ite]at h;split at h;rename_i cn;simp only[and_eq_true]at cn;simp only[plain,RM.eval,Option.some.injEq]at h;subst h;have⟨⟨fn,t,e,tR,size,o1,o2,o3,o4,o5,o6,o7⟩,_⟩:=hn;obtain⟨vx,r1,rfl,dx,hd1⟩:=aG.1 hd;obtain⟨vy,r2,rfl,dy,hd2⟩:=aG.1 hd1;obtain rfl:=bc.1 hd2;obtain⟨a,n,cap,rfl,ha⟩:=uD hs hx hi (le_of_ble_eq_true cn.1) dx;obtain⟨a2,n2,uf,rfl,ha2⟩:=uD hs hy hj (le_of_ble_eq_true cn.2) dy
 have hz:∀w:World,(Go.sizeOf e).run P w=.ok size w:=λw=>by
  obtain⟨inf,hi,rfl⟩:=map_eq_some_iff.1 o7;simp[sizeOf,typeInfo,hi]
 refine⟨.bool false, ?_,rfl,rfl,λ_=>aC (.ao false)⟩;rw[run_callFunc_extern o1 o2 o3 o4 o5]
 have key:(Extern.SlicesOverlaps.overlaps #[t,t] #[tR] #[.slice a n cap,.slice a2 n2 uf]).run P w=.ok (.bool false) w:=by
  have zero:n=0\/n2=0->(Extern.SlicesOverlaps.overlaps #[t,t] #[tR] #[.slice a n cap,.slice a2 n2 uf]).run P w=.ok (.bool false) w:=by
   intro h0;delta Extern.SlicesOverlaps.overlaps;rw[yF];have h1:n=0\/n2=0\/size=0:=by rcases h0 with h0|h0<;>simp[h0]
   cases a with
   |none=>simp[run_underlying o6,hz]|some a=>
    cases a2 with
    |none=>simp[run_underlying o6,hz]|some b=>simp[run_underlying o6,hz,h1]
  rcases ha with h0|⟨b,o,cells,fr,rfl,hb,fF,hu,ho,avg⟩;exact zero (.inl h0);rcases ha2 with h0|⟨b2,o2',aoB,fr2,rfl,hb2,aoC,hu2,ho2,ava⟩;exact zero (.inr h0);have cG:b≠b2:=λe=>kT (hs.inj i j _ _ b hi hj rfl rfl hb (e▸hb2))
  have frz:∀{b:Nat} {cells:List Value} {fr:Nat×Nat} {e:TypeId} (off:Nat),w.heap[b]? =some (.cells cells.toArray e fr)->yn fr cells->off<=cells.length->w.frozen? ⟨b,off,none⟩=false:=by
   intro b cells fr e off h1 h2 h3;have⟨lo,hi⟩:=fr;unfold World.frozen?;simp only[h1];have:=h2.1 off h3;simp only at this;cases hd:(decide (lo<=off)&&decide (off<hi))with
   |false=>rfl|true=>simp only[and_eq_true,decide_eq_true_eq]at hd;exact absurd hd this
  refine Lib.run_overlaps_apart w t tR e o6 size hz ⟨b,o,none⟩ ⟨b2,o2',none⟩ n cap n2 uf cG e1 e2 cells.length aoB.length ?_ ?_ (by omega) (frz o fF hu ho) (frz _ fF hu (le_refl _));simp only[World.shape?,fF];rfl;simp only[World.shape?,aoC];rfl
 rw[key];rfl;cases h;cases h;cases h;cases h;cases h
end
section
variable{ρ:Nat->Value}{H:aJ}{O:Nat->Prop}{w:World}{P:Program}
theorem acB(d:Nat){e:TypeId}{k:IntKind}{i:TypeInfo}(he:P.underlying e=some (.int k))(hs:i.size=1)
 (ws mr:List Int) (w:World) (n:Nat) (h1:ws.length=n) (h2:mr.length=n):∀(m s:Nat),s+m=n->
 (forIn (m:=Sem) (range' s m 1) ((none,()):Option Bool×Unit) λj _=>do
   if(!(<-Op.equalIn (d+1) e (<-part e (ws.map (Value.int k)).toArray (j*i.size)) (<-part e (mr.map (Value.int k)).toArray (j*i.size))))=true then
    pure (ForInStep.done (some false,()))else pure (ForInStep.yield (none,()))).run P w=.ok (if ws.drop s=mr.drop s then(none,())else(some false,())) w:=by
 intro m
 induction m with
 |zero=>
  intro s hs';have e1:ws.drop s=[]:=List.drop_eq_nil_of_le (by omega);have e2:mr.drop s=[]:=List.drop_eq_nil_of_le (by omega);simp[e1,e2]
 |succ m ih=>
  intro s hs';have wY:s<ws.length:=by omega
  have xd:s<mr.length:=by omega
  have p1:∀w,(part e (ws.map (Value.int k)).toArray (s*i.size)).run P w=.ok (.int k ws[s]) w:=by
   intro w;simp[part,isAgg,run_underlying he,hs,wY]
  have p2:∀w,(part e (mr.map (Value.int k)).toArray (s*i.size)).run P w=.ok (.int k mr[s]) w:=by
   intro w;simp[part,isAgg,run_underlying he,hs,xd]
  rw[List.range'_succ,List.forIn_cons];simp only[Sem.run_bind,p1,p2,Result.andThen_ok,run_equalIn_int _ _ _ _ _ _ _ he];rw[List.drop_eq_getElem_cons wY,List.drop_eq_getElem_cons xd];by_cases hq:ws[s]=mr[s];simp only[hq,beq_self_eq_true,Bool.not_true,Bool.false_eq_true,if_false,Sem.run_pure,Result.andThen_ok,List.cons.injEq,true_and];exact ih (s+1) (by omega);have:(ws[s]==mr[s])=false:=by simpa using hq
  have cG:¬(ws[s]::ws.drop (s+1)=mr[s]::mr.drop (s+1)):=λe=>hq (List.cons.inj e).1;rw[if_neg cG];simp only[this,Bool.not_false,if_true,Sem.run_pure,Result.andThen_ok]
theorem si(d:Nat){t e:TypeId}{n:Nat}{k:IntKind}{i:TypeInfo}(ht:P.underlying t=some (.array n e))(he:P.underlying e=some (.int k))(hi:P.info? e=some i)(hs:i.size=1)
 (ws mr:List Int) (h1:ws.length=n) (h2:mr.length=n) (w:World):
 (Op.equalIn (d+2) t (.agg (ws.map (Value.int k)).toArray) (.agg (mr.map (Value.int k)).toArray)).run P w=.ok (decide (ws=mr)) w:=by
 have key:=acB (P:=P) d he hs ws mr w n h1 h2 n 0 (by omega);unfold Op.equalIn;simp only[Sem.run_bind,run_underlying ht,Result.andThen_ok,sizeOf,typeInfo,run_program,hi,Sem.run_pure];rw[Std.Legacy.Range.forIn_eq_forIn_range'];simp only[Std.Legacy.Range.size,Nat.sub_zero,Nat.add_sub_cancel,Nat.div_one];rw[key];by_cases hq:ws=mr<;>simp[hq]
theorem aaC(d:Nat){e:TypeId}{i:TypeInfo}(hs:i.size=1)(pk:∀w,(isAgg e).run P w=.ok false w)(cx cy:List Value)(w:World)(n:Nat)(h1:cx.length=n)(h2:cy.length=n):∀(m s:Nat) (bs:List Bool),s+m=n->bs.length=m->
 (∀j (hj:j<m) (hx:s+j<cx.length) (hy:s+j<cy.length) (hb:j<bs.length),(Op.equalIn (d+1) e cx[s+j] cy[s+j]).run P w=.ok bs[j] w)->
 (forIn (m:=Sem) (range' s m 1) ((none,()):Option Bool×Unit) λj _=>do
   if(!(<-Op.equalIn (d+1) e (<-part e cx.toArray (j*i.size)) (<-part e cy.toArray (j*i.size))))=true then
    pure (ForInStep.done (some false,()))else pure (ForInStep.yield (none,()))).run P w=.ok (if bs.all id then(none,())else(some false,())) w:=by
 intro m
 induction m with
 |zero=>
  intro s bs _ hb _;obtain rfl:bs=[]:=List.length_eq_zero_iff.1 hb;simp
 |succ m ih=>
  intro s bs hs' hb acu;have wY:s<cx.length:=by omega
  have xd:s<cy.length:=by omega
  match bs,hb,acu with
  |b::bs,hb,acu=>
  have p1:∀w,(part e cx.toArray (s*i.size)).run P w=.ok cx[s] w:=by
   intro w;simp[part,pk,hs,wY]
  have p2:∀w,(part e cy.toArray (s*i.size)).run P w=.ok cy[s] w:=by
   intro w;simp[part,pk,hs,xd]
  have h0:(Op.equalIn (d+1) e cx[s] cy[s]).run P w=.ok b w:=by
   have:=acu 0 (by omega) (by omega) (by omega) (by simp);simpa using this
  rw[List.range'_succ,List.forIn_cons];simp only[Sem.run_bind,p1,p2,Result.andThen_ok,h0];cases b with
  |true=>
   simp only[Bool.not_true,Bool.false_eq_true,if_false,Sem.run_pure,Result.andThen_ok]
   have:=ih (s+1) bs (by omega) (by simpa using hb) (λj hj hx hy ue=>by
    have:=acu (j+1) (by omega) (by omega) (by omega) (by simp;omega);simp only[show s+(j+1)=s+1+j from by omega]at this;simpa using this)
   simpa using this
  |false=>simp
theorem alT{x y:AV}{b:Bool}{vx vy:Value}(d:Nat){e:TypeId}(he:∃ms,P.underlying e=some (.interface ms))(h:ahH P x y=some b)(hx:ae ρ H O w x vx)(hy:ae ρ H O w y vy):(Op.equalIn (d+2) e vx vy).run P w=.ok b w:=by
 have⟨ms,he⟩:=he
 have step:∀(t:TypeId) (a c:Value) (r:Bool),(P.info? t).any (·.comparable)=true->(Op.equalIn (d+1) t a c).run P w=.ok r w->(Op.equalIn (d+2) e (.iface t a) (.iface t c)).run P w=.ok r w:=by
  intro t a c r hc hr
  obtain⟨i,hi,hcc⟩:∃i,P.info? t=some i/\i.comparable=true:=by
   cases hi:P.info? t with
   |none=>simp[hi]at hc|some i=>exact⟨i,rfl,by simpa[hi]using hc⟩
  rw[show d+2=(d+1)+1 from rfl];unfold Op.equalIn;simp[run_underlying he,typeInfo,hi,hcc,hr]
 unfold ahH at h;split at h;rename_i t k n t' k' n';rw[Bool.cond_eq_ite]at h;split at h;rename_i hc;simp only[and_eq_true,beq_eq]at hc;obtain⟨⟨⟨rfl,hk⟩,aih⟩,ht⟩:=hc;obtain rfl:=bf hk;simp only[Option.some.injEq]at h;subst h;have h1:=aw (by simp) hx;have h2:=aw (by simp) hy;cases h1;cases h2;unfold ahF at ht;split at ht;rename_i k2 ht2;refine step t _ _ _ aih ?_;unfold Op.equalIn;simp[run_underlying ht2];cases ht;cases h;rename_i t s t' s';rw[Bool.cond_eq_ite]at h;split at h;rename_i hc;simp only[and_eq_true,beq_eq]at hc;obtain⟨⟨rfl,aih⟩,ht⟩:=hc;simp only[Option.some.injEq]at h;subst h;have h1:=aw (by simp) hx;have h2:=aw (by simp) hy;cases h1;cases h2;unfold ahG at ht;split at ht;rename_i ht2;refine step t _ _ _ aih ?_;rw[run_equalIn_string _ _ _ _ _ ht2,ack];cases ht;cases h;rename_i t b1 t' b2;rw[Bool.cond_eq_ite]at h;split at h;rename_i hc;simp only[and_eq_true,beq_eq]at hc;obtain⟨⟨rfl,aih⟩,ht⟩:=hc;simp only[Option.some.injEq]at h;subst h;have h1:=aw (by simp) hx;have h2:=aw (by simp) hy;cases h1;cases h2;unfold adE at ht;split at ht;rename_i ht2;exact step t _ _ _ aih (run_equalIn_bool' _ _ _ _ _ ht2);cases ht;cases h;cases h
theorem aii(d:Nat){e:TypeId}(he:∃ms,P.underlying e=some (.interface ms)):∀{xs ys:List AV} {b:Bool} {cx cy:List Value},eqI P xs ys=some b->aA ρ H O w xs cx->aA ρ H O w ys cy->
 ∃bs:List Bool,bs.length=xs.length/\cx.length=xs.length/\cy.length=ys.length/\bs.all id=b/\∀j (hx:j<cx.length) (hy:j<cy.length) (hb:j<bs.length),(Op.equalIn (d+2) e cx[j] cy[j]).run P w=.ok bs[j] w
 |[],[],b,cx,cy,h,hx,hy=>by
  simp only[eqI,Option.some.injEq]at h;subst h;rw[aB.1 hx,aB.1 hy];exact⟨[],rfl,rfl,rfl,rfl,λj hj=>by simp at hj⟩
 |[],_::_,b,cx,cy,h,hx,hy=>by simp[eqI]at h
 |_::_,[],b,cx,cy,h,hx,hy=>by simp[eqI]at h
 |x::xs,y::ys,b,cx,cy,h,hx,hy=>by
  simp only[eqI]at h;split at h;rename_i b1 b2 h1 h2;simp only[Option.some.injEq]at h;subst h;obtain⟨u1,c1,rfl,g1,g2⟩:=ah.1 hx;obtain⟨u2,c2,rfl,g3,g4⟩:=ah.1 hy;have sx:∃a,x=.s a/\∀c,a≠.ro c:=by unfold ahH at h1;split at h1<;>first|exact⟨_,rfl,by simp⟩|cases h1
  have sy:∃a,y=.s a/\∀c,a≠.ro c:=by unfold ahH at h1;split at h1<;>first|exact⟨_,rfl,by simp⟩|cases h1
  obtain⟨a,rfl,_⟩:=sx;obtain⟨a',rfl,_⟩:=sy;unfold aN at g1 g3;obtain⟨v1,rfl,d1⟩:=g1;obtain⟨v2,rfl,d2⟩:=g3;have k1:=alT (ρ:=ρ) (H:=H) (O:=O) (w:=w) d he h1 (aC d1) (aC d2);have⟨bs,e1,e2,e3,e4,e5⟩:=aii d he h2 g2 g4;refine⟨b1::bs,by simp[e1],by simp[e2],by simp[e3],by simp[e4],λj hx hy hb=> ?_⟩;cases j with
  |zero=>exact k1|succ j=>exact e5 j (by simpa using hx) (by simpa using hy) (by simpa using hb)
  cases h
theorem adM(d:Nat){t e:TypeId}(ht:P.underlying t=some (.pointer e))(b:Option Addr):(Op.equalIn (d+1) t (.pointer none) (.pointer b)).run P w=.ok b.isNone w:=by
 unfold Op.equalIn;simp[run_underlying ht]
theorem alU(d:Nat){t e:TypeId}(ht:P.underlying t=some (.pointer e))(a:Addr):(Op.equalIn (d+1) t (.pointer (some a)) (.pointer none)).run P w=.ok false w:=by
 unfold Op.equalIn;simp[run_underlying ht]
def mk(P:Program)(t:TypeId)(cs:List Value):Value:=
 match gT P t with
 |some true=>.agg cs.toArray|_=>cs.headD undef
theorem yG{d d':Nat}(ih:∀{t:TypeId} {xs ys:List AV} {b:Bool} {cx cy:List Value},eqC P d t xs ys=some b->aA ρ H O w xs cx->aA ρ H O w ys cy->(Op.equalIn d' t (mk P t cx) (mk P t cy)).run P w=.ok b w)
 {xs ys:List AV} {cx cy:List Value} (hx:aA ρ H O w xs cx) (hy:aA ρ H O w ys cy):∀(fs:List Field) {b:Bool},ae7 P (eqC P d) fs xs ys=some b->(Op.eqFields d' cx.toArray cy.toArray fs).run P w=.ok b w
 |[],b,h=>by
  simp only[ae7,Option.some.injEq]at h;subst h;rfl
 |f::fs,b,h=>by
  simp only[ae7,Bool.cond_eq_ite]at h;simp only[Op.eqFields,Sem.run_ite];split at h;rename_i hn;rw[if_neg (by simpa using hn)];exact yG ih hx hy fs h;rename_i hn;rw[if_pos (by simpa using hn)];split at h;rename_i sz w6 cn pk;split at h
  case isFalse=>cases h
  rename_i rr;split at h;rename_i a b' h1 h2;have⟨sa,h3,h4⟩:=bind_eq_some_iff.1 h1;have⟨sb,h5,h6⟩:=bind_eq_some_iff.1 h2;have⟨g1,g2⟩:=fy _ _ h3 hx;have⟨g3,g4⟩:=fz _ _ h4 g2;have⟨k1,k2⟩:=fy _ _ h5 hy;have⟨k3,k4⟩:=fz _ _ h6 k2;split at h;rename_i p q h7 h8;simp only[Option.some.injEq]at h;subst h;have hp:=ih h7 g4 k4
  have ank:∀(cs:List Value),f.offset<=cs.length->sz<=(cs.drop f.offset).length->(part f.type cs.toArray f.offset).run P w=.ok (mk P f.type ((cs.drop f.offset).take sz)) w:=by
   intro cs q1 q2;cases w6;have atH:sz=1:=by simpa using rr
   subst atH;simp only[length_drop]at q2;have a8:f.offset<cs.length:=by omega
   have e1:mk P f.type ((cs.drop f.offset).take 1)=cs[f.offset]:=by
    simp only[mk,pk];rw[List.drop_eq_getElem_cons a8];rfl
   rw[e1];simp[part,gI pk,a8];simp only[mk,pk];simp[part,gI pk,run_sizeOf cn,List.extract_eq_take_drop]
  simp only[Sem.run_bind,ank cx g1 g3,ank cy k1 k3,Result.andThen_ok,hp,Sem.run_ite];cases p;simp;simpa using yG ih hx hy fs h8;cases h;cases h;cases h
theorem aij:∀(d:Nat) {t:TypeId} {xs ys:List AV} {b:Bool} {cx cy:List Value},eqC P d t xs ys=some b->aA ρ H O w xs cx->aA ρ H O w ys cy->∀{d':Nat},d<=d'->(Op.equalIn d' t (mk P t cx) (mk P t cy)).run P w=.ok b w
 |0,t,xs,ys,b,cx,cy,h,_,_,_,_=>by simp[eqC]at h
 |d+1,t,xs,ys,b,cx,cy,h,hx,hy,0,hd=>by omega
 |d+1,t,xs,ys,b,cx,cy,h,hx,hy,d'+1,hd=>by
  simp only[eqC]at h
  have one:∀{x:AV} {cs:List Value},aA ρ H O w [x] cs->(∀k n ws,x≠.ay k n ws)->∃u,cs=[u]/\ae ρ H O w x u:=by
   intro x cs h hx;obtain⟨c1,c2,rfl,h1,h2⟩:=ah.1 h;rw[aB.1 h2];obtain⟨u,rfl,_,h3⟩:=dV h1 (gx hx) hx;exact⟨u,rfl,h3⟩
  split at h;rename_i k0 ht;have ha:gT P t=some false:=by simp[gT,ht]
  split at h;rename_i x y;split at h;rename_i k l a k' l' b' h1 h2;rw[Bool.cond_eq_ite]at h;split at h;rename_i hk;obtain rfl:=bf hk;simp only[Option.some.injEq]at h;subst h;obtain⟨u,rfl,hu⟩:=one hx (by rintro k n ws rfl;simp[AV.gd]at h1);obtain⟨v,rfl,hv⟩:=one hy (by rintro k n ws rfl;simp[AV.gd]at h2);obtain rfl:=cp h1 hu;obtain rfl:=cp h2 hv;simp only[mk,ha,List.headD_cons];exact run_equalIn_int _ _ _ _ _ _ _ ht;cases h;cases h;cases h;rename_i ht;have ha:gT P t=some false:=by simp[gT,ht]
  split at h;rename_i x y;split at h;rename_i l a l' b' h1 h2;simp only[Option.some.injEq]at h;subst h;obtain⟨u,rfl,hu⟩:=one hx (by rintro k n ws rfl;simp[AV.jN]at h1);obtain⟨v,rfl,hv⟩:=one hy (by rintro k n ws rfl;simp[AV.jN]at h2);obtain rfl:=jH h1 hu;obtain rfl:=jH h2 hv;simp only[mk,ha,List.headD_cons];exact run_equalIn_bool' _ _ _ _ _ ht;cases h;cases h;rename_i ht;have ha:gT P t=some false:=by simp[gT,ht]
  split at h;rename_i a b';simp only[Option.some.injEq]at h;subst h;obtain⟨u,rfl,hu⟩:=one hx (by simp);obtain⟨v,rfl,hv⟩:=one hy (by simp);obtain rfl:=gr hu;obtain rfl:=gr hv;simp only[mk,ha,List.headD_cons];rw[run_equalIn_string _ _ _ _ _ ht,ack];cases h;rename_i n e ht;have ha:gT P t=some true:=by simp[gT,ht]
  split at h;rename_i k m ws k' m' mr;split at h;rename_i k'' he;rw[Bool.cond_eq_ite]at h;split at h;rename_i hc;simp only[and_eq_true,beq_iff_eq]at hc;have⟨⟨⟨⟨⟨e0,e1⟩,e2⟩,e3⟩,e4⟩,e5⟩:=hc;have e0:=le_of_ble_eq_true e0;obtain rfl:=bf e1;obtain rfl:=bf e2;subst e3;subst e4;simp only[Option.some.injEq]at h;subst h;obtain⟨c1,c2,rfl,h1,h2⟩:=ah.1 hx;rw[aB.1 h2];obtain⟨c3,c4,rfl,h3,h4⟩:=ah.1 hy;rw[aB.1 h4];unfold aN at h1 h3;obtain⟨l1,rfl⟩:=h1;obtain⟨l2,rfl⟩:=h3
  obtain⟨i,hi,hs⟩:∃i,P.info? e=some i/\i.size=1:=by
   cases hi:P.info? e with
   |none=>simp[hi]at e5|some i=>exact⟨i,rfl,by simpa[hi]using e5⟩
  obtain⟨d2,rfl⟩:∃d2,d'=d2+1:=⟨d' - 1,by omega⟩;simp only[mk,ha,append_nil];exact si d2 ht he hi hs ws mr l1 l2 w;cases h;cases h;cases h;rename_i fs ht;have ha:gT P t=some true:=by simp[gT,ht]
  have hf:P.fieldsOf t=fs:=by simp[Program.fieldsOf,ht]
  rw[Bool.cond_eq_ite]at h;split at h;cases h;rename_i q7;simp only[mk,ha];rw[run_equalIn_struct w d' t _ _ (by rw[hf];exact ht) (by simpa using q7),hf];exact yG (λh1 h2 h3=>aij d h1 h2 h3 (by omega)) hx hy fs.toList h;cases h
theorem aik{t:TypeId}{x y:AV}{vx vy:Value}{q:Bool×Bool}(h:eqR P t x y=some q)(hx:ae ρ H O w x vx)(hy:ae ρ H O w y vy):
 (Op.equal t vx vy).run P w=.ok q.2 w/\(∀op a b,(eqGuard op t a b vx vy).run P w=.ok () w)/\
 (∀op,op=.eql\/op=.neq->(binOp op t vx vy).run P w=((do let b <-Op.equal t vx vy;pure (.bool (if op=.eql then b else !b))):Sem Value).run P w):=by
 have key:∀vx vy:Value,(∀k a,vx≠.int k a)->(∀s,vx≠.string s)->(∀k a,vx≠.float k a)->(∀k a b,vx≠.complex k a b)->
  ∀op,op=.eql\/op=.neq->(binOp op t vx vy).run P w=((do let b <-Op.equal t vx vy;pure (.bool (if op=.eql then b else !b))):Sem Value).run P w:=by
  intro vx vy h1 h2 h3 h4 op hop
  rcases hop with rfl|rfl<;>cases vx<;>cases vy<;>first
   |rfl|(exact(h1 _ _ rfl).elim)|(exact(h2 _ rfl).elim)|(exact(h3 _ _ rfl).elim)|(exact(h4 _ _ _ rfl).elim)
 unfold eqR at h;split at h;rename_i ht;split at h;rename_i lx a ly b h1 h2;simp only[Option.some.injEq]at h;subst h;obtain rfl:=jH h1 hx;obtain rfl:=jH h2 hy;exact⟨run_equal_bool w t a b ht,λop c d=>ym op t c d a b,key _ _ (by simp) (by simp) (by simp) (by simp)⟩;cases h;rename_i n e k m ws k' m' mr ht;split at h;rename_i k'' he;simp only[Bool.cond_eq_ite]at h;split at h;rename_i hc;simp only[and_eq_true,beq_iff_eq,Bool.not_eq_true']at hc;have⟨⟨⟨⟨⟨e1,e2⟩,e3⟩,e4⟩,e5⟩,e6⟩:=hc;obtain rfl:=bf e1;obtain rfl:=bf e2;subst e3;subst e4;simp only[Option.some.injEq]at h;subst h;unfold ae at hx hy;obtain⟨l1,rfl⟩:=hx;obtain⟨l2,rfl⟩:=hy
 obtain⟨i,hi,hs⟩:∃i,P.info? e=some i/\i.size=1:=by
  cases hi:P.info? e with
  |none=>simp[hi]at e5|some i=>exact⟨i,rfl,by simpa[hi]using e5⟩
 exact⟨si 9998 ht he hi hs ws mr l1 l2 w,λop c d=>run_eqGuard_agg w op t c d _ _ e6,key _ _ (by simp) (by simp) (by simp) (by simp)⟩;cases h;cases h;rename_i e ht;simp only[Option.some.injEq]at h;subst h;have h1:=aw (by simp) hx;have h2:=aw (by simp) hy;cases h1;cases h2;exact⟨adM 9999 ht none,λop c d=>mJ op t c d _ _,key _ _ (by simp) (by simp) (by simp) (by simp)⟩;rename_i e id off ht;simp only[Option.some.injEq]at h;subst h;have h1:=aw (by simp) hx;cases h1;unfold ae aH at hy;obtain⟨b,_,rfl,_⟩:=hy;exact⟨adM 9999 ht _,λop c d=>mJ op t c d _ _,key _ _ (by simp) (by simp) (by simp) (by simp)⟩;rename_i e id off ht;simp only[Option.some.injEq]at h;subst h;have h1:=aw (by simp) hy;cases h1;unfold ae aH at hx;obtain⟨b,_,rfl,_⟩:=hx;exact⟨alU 9999 ht _,λop c d=>mJ op t c d _ _,key _ _ (by simp) (by simp) (by simp) (by simp)⟩;rename_i n e xs ys ht;split at h;rename_i ms he;rw[Bool.cond_eq_ite]at h;split at h;rename_i hc;simp only[and_eq_true,beq_iff_eq,Bool.not_eq_true']at hc;have⟨⟨⟨hn1,yr⟩,cn⟩,hg⟩:=hc;obtain⟨b,h1,rfl⟩:=map_eq_some_iff.1 h
 obtain⟨i,hi,hs⟩:∃i,P.info? e=some i/\i.size=1:=by
  cases hi:P.info? e with
  |none=>simp[hi]at cn|some i=>exact⟨i,rfl,by simpa[hi]using cn⟩
 unfold ae at hx hy;obtain⟨cx,rfl,hx⟩:=hx;obtain⟨cy,rfl,hy⟩:=hy;have⟨bs,e1,e2,e3,e4,e5⟩:=aii (P:=P) 9997 ⟨ms,he⟩ h1 hx hy
 have alH:=aaC (P:=P) 9998 (e:=e) hs (λw=>by simp[isAgg,run_underlying he]) cx cy w n (by omega) (by omega) n 0 bs (by omega) (by omega) (λj hj hx hy hb=>by
  simp only[zero_add];exact e5 j (by omega) (by omega) hb)
 refine⟨?_,λop c d=>run_eqGuard_agg w op t c d _ _ hg,key _ _ (by simp) (by simp) (by simp) (by simp)⟩;show(Op.equalIn (9999+1) t _ _).run P w=_;unfold Op.equalIn;simp only[Sem.run_bind,run_underlying ht,Result.andThen_ok,sizeOf,typeInfo,run_program,hi,Sem.run_pure];rw[Std.Legacy.Range.forIn_eq_forIn_range'];simp only[Std.Legacy.Range.size,Nat.sub_zero,Nat.add_sub_cancel,Nat.div_one];rw[alH,<-e4];cases bs.all id<;>simp;cases h;cases h;rename_i fs xs ys ht;rw[Bool.cond_eq_ite]at h;split at h;cases h;rename_i hg;obtain⟨b,h1,rfl⟩:=map_eq_some_iff.1 h;unfold ae at hx hy;obtain⟨cx,rfl,hx⟩:=hx;obtain⟨cy,rfl,hy⟩:=hy;have hk:=aij (P:=P) 20 h1 hx hy (d':=10000) (by omega);have ha:gT P t=some true:=by simp[gT,ht]
 simp only[mk,ha]at hk;exact⟨hk,λop c d=>run_eqGuard_agg w op t c d _ _ (by simpa using hg),key _ _ (by simp) (by simp) (by simp) (by simp)⟩;cases h
theorem aaD{x:AV}{k:IntKind}{v:Value}(h:x.kind? =some k)(hd:ae ρ H O w x v):∃n,v=.int k n:=by
 unfold AV.kind? at h;split at h<;>cases h
 all_goals
  have:=aw (by simp) hd;cases this;exact⟨_,rfl⟩
theorem afC{op:BinOp}{t:TypeId}{k:IntKind}{a b:Int}{r:AV}(h:ab4 op k=some r):∃v,(binOp op t (.int k a) (.int k b)).run P w=.ok v w/\ae ρ H O w r v:=by
 have ar:∀(op:BinOp) (n:Int),tQ op k true true a b=some ([],.s (.aq k n))->∃v,(binOp op t (.int k a) (.int k b)).run P w=.ok v w/\ae ρ H O w (.s (.ax k)) v:=λop n h=>by
  have⟨v,h3,h4⟩:=rh (P:=P) (t:=t) (ρ:=ρ) (H:=H) (O:=O) (w:=w) h trivial;have:=aw (by simp) h4;cases this;exact⟨_,h3,aC (.ax _ _)⟩
 have cm:∀(op:BinOp) (c:Bool),tQ op k true true a b=some ([],.s (.ao c))->∃v,(binOp op t (.int k a) (.int k b)).run P w=.ok v w/\ae ρ H O w (.s (.c7 0 true)) v:=λop c h=>by
  have⟨v,h3,h4⟩:=rh (P:=P) (t:=t) (ρ:=ρ) (H:=H) (O:=O) (w:=w) h trivial;have:=aw (by simp) h4;cases this;exact⟨_,h3,aC (.c7 0 true _ (λ_=>rfl))⟩
 unfold ab4 at h;split at h<;>cases h;exact ar .add _ rfl;exact ar .sub _ rfl;exact ar .mul _ rfl;exact ar .and _ rfl;exact ar .or _ rfl;exact ar .xor _ rfl;exact ar .andNot _ rfl;exact cm .eql _ rfl;exact cm .neq _ rfl;exact cm .lss _ rfl;exact cm .leq _ rfl;exact cm .gtr _ rfl;exact cm .geq _ rfl
theorem adN{op:BinOp}{t:TypeId}{x y:AV}{ox oy:Operand}{vx vy:Value}{q:List Prop×AV}(h:alw P op t x y=some q)(hn:bd q.1)
 (hx:ae ρ H O w x vx) (hy:ae ρ H O w y vy):
 ∃v,(do eqGuard op t ox oy vx vy;binOp op t vx vy:Sem Value).run P w=.ok v w/\ae ρ H O w q.2 v:=by
 unfold alw at h;split at h;rename_i a b;obtain rfl:=gr hx;obtain rfl:=gr hy;have⟨v,h1,h2⟩:=ae8 (P:=P) (t:=t) (ρ:=ρ) (H:=H) (O:=O) (w:=w) h hn;exact⟨v,by simp[aah,h1],h2⟩;split at h;rename_i k lx a k' ly b h1 h2;obtain rfl:=cp h1 hx;obtain rfl:=cp h2 hy;split at h;have⟨v,h3,h4⟩:=xu (P:=P) (t:=t) (k':=k') (ρ:=ρ) (H:=H) (O:=O) (w:=w) h hn;exact⟨v,by simp[gG,h3],h4⟩;have⟨v,h3,h4⟩:=xu (P:=P) (t:=t) (k':=k') (ρ:=ρ) (H:=H) (O:=O) (w:=w) h hn;exact⟨v,by simp[gG,h3],h4⟩;rw[Bool.cond_eq_ite]at h;split at h;rename_i hk;obtain rfl:=bf hk;have⟨v,h3,h4⟩:=rh (P:=P) (t:=t) (ρ:=ρ) (H:=H) (O:=O) (w:=w) h hn;exact⟨v,by simp[gG,h3],h4⟩;cases h;split at h;rename_i k k' hk1 hk2;rw[Bool.cond_eq_ite]at h;split at h;rename_i hk;obtain rfl:=bf hk;obtain⟨a,rfl⟩:=aaD hk1 hx;obtain⟨b,rfl⟩:=aaD hk2 hy;simp only[map_eq_some_iff]at h;obtain⟨r,hr,rfl⟩:=h;have⟨v,h3,h4⟩:=afC (P:=P) (t:=t) (ρ:=ρ) (H:=H) (O:=O) (w:=w) (a:=a) (b:=b) hr;exact⟨v,by simp[gG,h3],h4⟩;cases h;split at h;simp only[map_eq_some_iff]at h;obtain⟨⟨l,b⟩,h1,rfl⟩:=h;have⟨h2,h3,h4⟩:=aik h1 hx hy;exact⟨.bool b,by simp[h3,h4 .eql (.inl rfl),h2],oS _ _⟩;simp only[map_eq_some_iff]at h;obtain⟨⟨l,b⟩,h1,rfl⟩:=h;have⟨h2,h3,h4⟩:=aik h1 hx hy;exact⟨.bool (!b),by simp[h3,h4 .neq (.inr rfl),h2],oS _ _⟩;cases h
theorem alV{t:TypeId}{x:AV}{vx:Value}{q:bK}(h:(aor P t x).eval H=some q)(hn:bd q.aa)(hx:ae ρ H O w x vx):eR P ρ H O w q (Instr.makeInterface t vx):=by
 have run:∀(v:Value) {u:TypeDesc},P.underlying t=some u->(∀ms,u≠.interface ms)->(Instr.makeInterface t v).run P w=.ok (.iface t v) w:=by
  intro v u hu hni;unfold Instr.makeInterface;simp only[Sem.run_bind,run_underlying hu,Result.andThen_ok,Sem.run_pure]
 unfold aor at h;split at h;simp[RM.eval]at h;rename_i u k n cG hu;have h1:=aw (by simp) hx;cases h1;exact aE h (λ_=>⟨_,run _ hu (λms e=>cG ms e),aC (.ifi t k n)⟩) hn;rename_i u k n cG hu;have h1:=aw (by simp) hx;cases h1;exact aE h (λ_=>⟨_,run _ hu (λms e=>cG ms e),aC (.ifi t k n)⟩) hn;rename_i u s cG hu;have h1:=aw (by simp) hx;cases h1;exact aE h (λ_=>⟨_,run _ hu (λms e=>cG ms e),aC (.ifs t s)⟩) hn;rename_i u b cG hu;have h1:=aw (by simp) hx;cases h1;exact aE h (λ_=>⟨_,run _ hu (λms e=>cG ms e),aC (.ifb t b)⟩) hn;rename_i u b cG hu;have h1:=aw (by simp) hx;cases h1;exact aE h (λ_=>⟨_,run _ hu (λms e=>cG ms e),aC (.ifb t b)⟩) hn;simp[RM.eval]at h
end
def Yields(P:Program)(o:Oper)(e:Operand->Value)(w:World)(R:Value->World->Prop):Prop:=
 match(execOp e o).run P w with
 |.ok (.value v) w'=>R v w'|.ok .skip w'=>R undef w'|.ok (.enter f args) w'=>Calls P f args w' λen w''=>∃v,en=.returned v/\R v w''|_=>False
structure aP where
 bs:List Nat
 ok:World->Prop
 low:∀w,ok w->∀b,b∈bs->b<w.heap.size
 eT:∀w w',ok w->(∀b,b∈bs->w'.heap[b]? =w.heap[b]?)->ok w'
def aP.any:aP:=⟨[],λ_=>True,λ_ _ b hb=>by simp at hb,λ_ _ _ _=>trivial⟩
def ZAt(Z:aP)(ρ:Nat->Value)(H:aJ)(w:World):Prop:=Z.ok w/\∀b,b∈Z.bs->¬Own ρ H b
def SOk(P:Program)(S:fa)(Z:aP):Prop:=
 ∀(base:Nat) (f:FuncId) (args:List AV) (H:aJ) (q:bK),di P f=true->(S base f args).eval H=some q->bd q.aa->∀(ρ:Nat->Value) (G:Nat->Prop) (w:World) (vs:List Value),
  (∀i,i<q.new.length->H (base+i)=none)->ZAt Z ρ H w->Sat ρ H G w->bH ρ H (aV ρ H G) w args vs->
  Calls P f vs.toArray w λen w'=>∃v,en=.returned v/\Good ρ H G w (cL H q.up base q.new) (q.r base) v w'
section
variable{ρ aO:Nat->Value}{H H':aJ}{G O O':Nat->Prop}{w w':World}{P:Program}{S:fa}{Z:aP}
theorem nC{why:String}{p:Option (List Prop×AV)}{q:bK}(h:(oL why p).eval H=some q):∃x,p=some x/\q=⟨x.1,[],[],λ_=>x.2⟩:=by
 cases p with
 |none=>simp[oL,RM.eval]at h|some x=>simp only[oL,plain,RM.eval,Option.some.injEq]at h;exact⟨x,rfl,h.symm⟩
theorem bm{o:Oper}{e:Operand->Value}{q:bK}{s:Sem Value}(hs:Sat ρ H G w)(h:eR P ρ H (aV ρ H G) w q s)(he:(execOp e o).run P w=(do pure (Next.value (<-s)):Sem Next).run P w)(base:Nat):
 Yields P o e w (λv w'=>Good ρ H G w (cL H q.up base q.new) (q.r base) v w'):=by
 have⟨h1,h2,v,h3,h4⟩:=h;unfold Yields;rw[he,h1,h2,lg];simp only[Sem.run_bind,h3,Result.andThen_ok,Sem.run_pure];exact Good.val hs (h4 base)
theorem dO{o:Oper}{e:Operand->Value}{R:Value->World->Prop}{s:Sem Value}(h:∃v w',s.run P w=.ok v w'/\R v w')(he:(execOp e o).run P w=(do pure (Next.value (<-s)):Sem Next).run P w):Yields P o e w R:=by
 have⟨v,w',h1,h2⟩:=h;unfold Yields;rw[he];simp only[Sem.run_bind,h1,Result.andThen_ok,Sem.run_pure];exact h2
theorem jT{ev:Operand->AV}{e:Operand->Value}:∀(l:List Operand),(∀x∈l,ae ρ H O w (ev x) (e x))->bH ρ H O w (l.map ev) (l.map e)
 |[],_=>bc.2 rfl|x::l,h=>aG.2 ⟨e x,l.map e,rfl,h x (by simp),jT l (λy hy=>h y (by simp[hy]))⟩
theorem iW{aI bs:List AV}{us vs:List Value}(h1:bH ρ H O w aI us)(h2:bH ρ H O w bs vs):bH ρ H O w (aI++bs) (us++vs):=by
 induction aI generalizing us with
 |nil=>rw[bc.1 h1];exact h2|cons a aI ih=>
  obtain⟨v,rest,rfl,h3,h4⟩:=aG.1 h1;exact aG.2 ⟨v,rest++vs,rfl,h3,ih h4⟩
theorem dW{f:FuncId}(h:di P f=true)(args:Array Value)(w:World):(callFunc f args).run P w=.ok (.enter f args) w:=by
 unfold di at h;split at h;rename_i fn hf;simp only[and_eq_true,Bool.not_eq_true',beq_eq_false_iff_ne,ne_eq]at h
 have hb:¬fn.body=none:=by
  intro hb;rw[hb]at h;simp at h
 simp[callFunc,hf,h.2,hb];cases h
theorem yH{f:FuncId}{v:Value}(h:aX O w (.sM f) v):v=.func (.func f) #[] #[]:=by cases h;rfl
theorem acC{ev:Operand->AV}{e:Operand->Value}{l:Option Operand}(h:∀x,l=some x->ae ρ H O w (ev x) (e x)):mO ρ H O w (l.map ev) (l.map e):=by
 cases l with
 |none=>trivial|some x=>exact h x rfl
theorem xE{ps:Array (Nat×Operand)}{p:Nat×Operand}(h:p∈ps):p.2∈(ps.toList.map (·.2)).toArray:=by
 simp only[List.mem_toArray,mem_map];exact⟨p,Array.mem_toList_iff.2 h,rfl⟩
theorem adO(hS:SOk P S Z){base:Nat}{o:Oper}{ev:Operand->AV}{q:bK}(h:(ahO P (S base) ev o).eval H=some q)(hn:bd q.aa)(hz:ZAt Z ρ H w)(hs:Sat ρ H G w){e:Operand->Value}
 (hd:∀x∈o.op.operands,ae ρ H (aV ρ H G) w (ev x) (e x)) (hb:∀i,i<q.new.length->H (base+i)=none):
 Yields P o e w (λv w'=>Good ρ H G w (cL H q.up base q.new) (q.r base) v w'):=by
 unfold ahO at h;split at h;rename_i x ho;have hx:=hd x (by simp[ho,Op.operands]);simp only[plain,RM.eval,Option.some.injEq]at h;subst h;unfold Yields;simp only[execOp,ho,Sem.run_pure,lg];exact Good.val hs hx;rename_i x ho;have hx:=hd x (by simp[ho,Op.operands]);simp only[plain,RM.eval,Option.some.injEq]at h;subst h;unfold Yields;simp only[execOp,ho,Sem.run_pure,lg];exact Good.val hs hx;rename_i c a b ho;obtain⟨⟨n,r⟩,h1,rfl⟩:=nC h;have⟨t,h2,h3⟩:=ahS h1 (hd c (by simp[ho,Op.operands])) (hd a (by simp[ho,Op.operands])) (hd b (by simp[ho,Op.operands]));unfold Yields;simp only[execOp,ho,h2,asBool,lg];cases t<;>simp at h3 ⊢ <;>exact Good.val hs h3;rename_i t ho;exact dO (afn h hs hb (.tuple #[])) (by simp only[execOp,ho]);rename_i t x ho;exact dO (alJ h hs (hd x (by simp[ho,Op.operands])) hb) (by simp only[execOp,ho]);rename_i t x ho;exact bm hs (alV h hn (hd x (by simp[ho,Op.operands]))) (by simp only[execOp,ho]) base;rename_i t ps ho;exact bm hs (afo h hn (λp hp=>hd p.2 (by rw[ho];exact xE hp))) (by simp only[execOp,ho]) base;rename_i t n ps ho;exact dO (uq h hs (λp hp=>hd p.2 (by rw[ho];exact xE hp)) hb) (by simp only[execOp,ho]);rename_i t a ho;exact bm hs (aaj h hn hs (hd a (by simp[ho,Op.operands]))) (by simp only[execOp,ho]) base;rename_i t a x ho;have⟨w',h1,h2⟩:=afm h hs (hd a (by simp[ho,Op.operands])) (hd x (by simp[ho,Op.operands]));unfold Yields;simp only[execOp,ho,Sem.run_bind,h1,Result.andThen_ok,Sem.run_pure];exact h2 base;rename_i x ho;have⟨h1,h2,h3,h4⟩:=yt (P:=P) h hn (hd x (by simp[ho,Op.operands])) e o x ho rfl;unfold Yields;rw[h3,h1,h2,lg];exact Good.val hs (h4 base);rename_i op t x y ty ho;obtain⟨⟨n,r⟩,h1,rfl⟩:=nC h;have⟨v,h2,h3⟩:=adN (ox:=x) (oy:=y) h1 hn (hd x (by simp[ho,Op.operands])) (hd y (by simp[ho,Op.operands]));exact bm hs ⟨rfl,rfl,v,h2,λ_=>h3⟩ (by simp only[execOp,ho]) base;rename_i op t x ho;obtain⟨⟨n,r⟩,h1,rfl⟩:=nC h;have⟨v,h2,h3⟩:=aot (P:=P) h1 hn (hd x (by simp[ho,Op.operands]));exact bm hs ⟨rfl,rfl,v,h2,λ_=>h3⟩ (by simp only[execOp,ho]) base;rename_i a b x ho;rw[Bool.cond_eq_ite]at h;split at h;exact dO (aay h hn hs (hd x (by simp[ho,Op.operands])) base) (by simp only[execOp,ho]);exact bm hs (aao h hn hs (hd x (by simp[ho,Op.operands]))) (by simp only[execOp,ho]) base;rename_i t x ho;exact bm hs (aaz h hn (hd x (by simp[ho,Op.operands]))) (by simp only[execOp,ho]) base;rename_i x ho;exact bm hs (afB h hn hs (hd x (by simp[ho,Op.operands]))) (by simp only[execOp,ho]) base;rename_i fn a b ho;refine bm hs (yu h hn (jT a.toList (λx hx=>hd x (by simp[ho,Op.operands,Array.mem_toList_iff.1 hx]))) (jT b.toList (λx hx=>hd x (by simp[ho,Op.operands,Array.mem_toList_iff.1 hx])))) ?_ base;have e1:∀a:Array Operand,(a.toList.map e).toArray=a.map e:=λa=>by apply toList_inj.1;simp
 simp only[execOp,ho,e1];rename_i t x l hi m ho;refine bm hs (aff hs h hn (hd x (by simp[ho,Op.operands])) (acC (l:=l) (λy hy=>hd y (by simp[ho,Op.operands,hy]))) (acC (l:=hi) (λy hy=>hd y (by simp[ho,Op.operands,hy]))) (acC (l:=m) (λy hy=>hd y (by simp[ho,Op.operands,hy])))) (by simp only[execOp,ho]) base;rename_i t x f ho;exact bm hs (w8 h hn (hd x (by simp[ho,Op.operands]))) (by simp only[execOp,ho]) base;rename_i t x f ho;exact bm hs (afe h hn (hd x (by simp[ho,Op.operands]))) (by simp only[execOp,ho]) base;rename_i t x i ho;exact bm hs (w9 h hn hs (hd x (by simp[ho,Op.operands])) (hd i (by simp[ho,Op.operands]))) (by simp only[execOp,ho]) base;rename_i t x i ho;exact bm hs (afc h hn (hd x (by simp[ho,Op.operands])) (hd i (by simp[ho,Op.operands]))) (by simp only[execOp,ho]) base;rename_i x i ho;exact bm hs (aal h hn (hd x (by simp[ho,Op.operands]))) (by simp only[execOp,ho]) base;rename_i t x i ok ho;exact bm hs (acz h hn hs (hd x (by simp[ho,Op.operands])) (hd i (by simp[ho,Op.operands]))) (by simp only[execOp,ho]) base;rename_i t x i v ho;have⟨w',h1,h2⟩:=oD h hs (hd x (by simp[ho,Op.operands])) (hd i (by simp[ho,Op.operands])) (hd v (by simp[ho,Op.operands]));unfold Yields;simp only[execOp,ho,Sem.run_bind,h1,Result.andThen_ok,Sem.run_pure];exact h2 base;rename_i t x i v ho;have⟨w',h1,h2⟩:=oD h hs (hd x (by simp[ho,Op.operands])) (hd i (by simp[ho,Op.operands])) (hd v (by simp[ho,Op.operands]));unfold Yields;simp only[execOp,ho,Sem.run_bind,h1,Result.andThen_ok,Sem.run_pure];exact h2 base;rename_i t r ho;have⟨h1,h2⟩:=aaw h hs hb
 have hr:r=none:=by cases r with
  |none=>rfl|some x=>cases h1
 subst hr;exact dO h2 (by simp only[execOp,ho];rfl);rename_i t l c ho;exact dO (xf h hn hs (hd l (by simp[ho,Op.operands])) (hd c (by simp[ho,Op.operands])) hb) (by simp only[execOp,ho]);rename_i c ho;split at h;rename_i f hc;have hf:=hd f (by simp[ho,Op.operands,Call.operands,hc]);have ef:∀x∈c.args.toList,ae ρ H (aV ρ H G) w (ev x) (e x):=λx hx=>hd x (by simp[ho,Op.operands,Call.operands,hc,Array.mem_toList_iff.1 hx]);have hl:=jT c.args.toList ef;have e1:(c.args.toList.map e).toArray=c.args.map e:=by apply toList_inj.1;simp
 split at h;rename_i g hg;rw[hg]at hf;have hf':=aw (by simp) hf;unfold xt at h;rw[Bool.cond_eq_ite]at h;have hv:=yH hf';split at h;rename_i er;have key:=hS base g _ H q er h hn ρ G w _ hb hz hs hl;unfold Yields
 have eG:(execOp e o).run P w=.ok (.enter g (c.args.toList.map e).toArray) w:=by
  rw[e1];simp[execOp,ho,resolve,hc,hv,Deferred.ofValue,invoke,dW er]
 rw[eG];exact key;have⟨v,k1,k2,k3,k4⟩:=lZ h hn hs hl;rw[e1]at k1;refine bm (s:=pure v) hs ⟨k2,k3,v,by simp,k4⟩ ?_ base;simp[execOp,ho,resolve,hc,hv,Deferred.ofValue,invoke,k1];rename_i g c8 hg;rw[hg]at hf;unfold ae at hf;have⟨vs,hv,pK⟩:=hf;unfold xt at h;rw[Bool.cond_eq_ite]at h;split at h;rename_i er;have key:=hS base g _ H q er h hn ρ G w _ hb hz hs (iW hl pK);unfold Yields
 have eG:(execOp e o).run P w=.ok (.enter g (c.args.toList.map e++vs).toArray) w:=by
  have e2:(c.args.toList.map e++vs).toArray=c.args.map e++vs.toArray:=by apply toList_inj.1;simp
  rw[e2];simp[execOp,ho,resolve,hc,hv,Deferred.ofValue,invoke,dW er]
 rw[eG];exact key;have⟨v,k1,k2,k3,k4⟩:=lZ h hn hs (iW hl pK);have e2:(c.args.toList.map e++vs).toArray=c.args.map e++vs.toArray:=by apply toList_inj.1;simp
 rw[e2]at k1;refine bm (s:=pure v) hs ⟨k2,k3,v,by simp,k4⟩ ?_ base;simp[execOp,ho,resolve,hc,hv,Deferred.ofValue,invoke,k1];rename_i g c8 hg;rw[hg]at hf;unfold ae at hf;have⟨vs,hv,pK⟩:=hf;unfold xt at h;rw[Bool.cond_eq_ite]at h;split at h;rename_i er;have key:=hS base g _ H q er h hn ρ G w _ hb hz hs (iW pK hl);unfold Yields
 have eG:(execOp e o).run P w=.ok (.enter g (vs++c.args.toList.map e).toArray) w:=by
  have e2:(vs++c.args.toList.map e).toArray=vs.toArray++c.args.map e:=by apply toList_inj.1;simp
  rw[e2];simp[execOp,ho,resolve,hc,hv,Deferred.ofValue,invoke,dW er]
 rw[eG];exact key;have⟨v,k1,k2,k3,k4⟩:=lZ h hn hs (iW pK hl);have e2:(vs++c.args.toList.map e).toArray=vs.toArray++c.args.map e:=by apply toList_inj.1;simp
 rw[e2]at k1;refine bm (s:=pure v) hs ⟨k2,k3,v,by simp,k4⟩ ?_ base;simp[execOp,ho,resolve,hc,hv,Deferred.ofValue,invoke,k1];cases h;rename_i b hc;have ef:∀x∈c.args.toList,ae ρ H (aV ρ H G) w (ev x) (e x):=λx hx=>hd x (by simp[ho,Op.operands,Call.operands,hc,Array.mem_toList_iff.1 hx])
 have eG:(execOp e o).run P w=(builtin b c.argTypes o.type (c.args.map λ|.const _=>true|_=>false) (c.args.map e)).run P w:=by
  simp[execOp,ho,resolve,hc,invoke];rfl
 unfold aag at h;split at h;rename_i t ts x hts hx
 obtain⟨y,hy,rfl⟩:∃y,c.args.toList=[y]/\ev y=x:=by
  cases hl:c.args.toList with
  |nil=>rw[hl]at hx;simp at hx|cons y l=>
   rw[hl]at hx;simp only[map_cons,List.cons.injEq,List.map_eq_nil_iff]at hx;exact⟨y,by rw[hx.2],hx.1⟩
 have ea:c.args.map e= #[e y]:=by apply toList_inj.1;simp[hy]
 have et:c.argTypes=(t::ts).toArray:=by apply toList_inj.1;simp[hts]
 refine bm hs (alE (ty:=o.type) (ts:=ts) h hn hs (ef y (by simp[hy]))) ?_ base;rw[eG,ea,et];rfl;rename_i t ts x hts hx
 obtain⟨y,hy,rfl⟩:∃y,c.args.toList=[y]/\ev y=x:=by
  cases hl:c.args.toList with
  |nil=>rw[hl]at hx;simp at hx|cons y l=>
   rw[hl]at hx;simp only[map_cons,List.cons.injEq,List.map_eq_nil_iff]at hx;exact⟨y,by rw[hx.2],hx.1⟩
 have ea:c.args.map e= #[e y]:=by apply toList_inj.1;simp[hy]
 have et:c.argTypes=(t::ts).toArray:=by apply toList_inj.1;simp[hts]
 refine bm hs (alF (ty:=o.type) (ts:=ts) h hn hs (ef y (by simp[hy]))) ?_ base;rw[eG,ea,et];rfl;rename_i t t' x y hts hx
 obtain⟨x0,y0,hl,rfl,rfl⟩:∃x0 y0,c.args.toList=[x0,y0]/\ev x0=x/\ev y0=y:=by
  match hl:c.args.toList with
  |[]=>rw[hl]at hx;simp at hx|[_]=>rw[hl]at hx;simp at hx|[a,b]=>rw[hl]at hx;simp at hx;exact⟨a,b,rfl,hx.1,hx.2⟩|_::_::_::_=>rw[hl]at hx;simp at hx
 have ea:c.args.map e= #[e x0,e y0]:=by apply toList_inj.1;simp[hl]
 have et:c.argTypes= #[t,t']:=by apply toList_inj.1;simp[hts]
 rw[Bool.cond_eq_ite]at h;split at h;rename_i hz
 have hzero:(∃e',P.underlying t'=some (.slice e'))\/P.underlying t'=some .string:=by
  unfold yk at hz;split at hz;rename_i e' he;exact .inl ⟨e',he⟩;rename_i he;exact .inr he;cases hz
 refine dO (acw (ty:=o.type) h hn hs (ef x0 (by simp[hl])) (ef y0 (by simp[hl])) hzero hb) ?_;rw[eG,ea,et];rfl;refine dO (aaB (ty:=o.type) h hn hs (ef x0 (by simp[hl])) (ef y0 (by simp[hl])) hb) ?_;rw[eG,ea,et];rfl;rename_i x y hx
 obtain⟨x0,y0,hl,rfl,rfl⟩:∃x0 y0,c.args.toList=[x0,y0]/\ev x0=x/\ev y0=y:=by
  match hl:c.args.toList with
  |[]=>rw[hl]at hx;simp at hx|[_]=>rw[hl]at hx;simp at hx|[a,b]=>rw[hl]at hx;simp at hx;exact⟨a,b,rfl,hx.1,hx.2⟩|_::_::_::_=>rw[hl]at hx;simp at hx
 have ea:c.args.map e= #[e x0,e y0]:=by apply toList_inj.1;simp[hl]
 refine bm hs (adK (ts:=c.argTypes) (ty:=o.type) h hn (ef x0 (by simp[hl])) (ef y0 (by simp[hl]))) ?_ base;rw[eG,ea];rfl;rename_i x y hx
 obtain⟨x0,y0,hl,rfl,rfl⟩:∃x0 y0,c.args.toList=[x0,y0]/\ev x0=x/\ev y0=y:=by
  match hl:c.args.toList with
  |[]=>rw[hl]at hx;simp at hx|[_]=>rw[hl]at hx;simp at hx|[a,b]=>rw[hl]at hx;simp at hx;exact⟨a,b,rfl,hx.1,hx.2⟩|_::_::_::_=>rw[hl]at hx;simp at hx
 have ea:c.args.map e= #[e x0,e y0]:=by apply toList_inj.1;simp[hl]
 refine bm hs (adK (ts:=c.argTypes) (ty:=o.type) h hn (ef x0 (by simp[hl])) (ef y0 (by simp[hl]))) ?_ base;rw[eG,ea];rfl;rename_i t t' x y hts hx
 obtain⟨x0,y0,hl,rfl,rfl⟩:∃x0 y0,c.args.toList=[x0,y0]/\ev x0=x/\ev y0=y:=by
  match hl:c.args.toList with
  |[]=>rw[hl]at hx;simp at hx|[_]=>rw[hl]at hx;simp at hx|[a,b]=>rw[hl]at hx;simp at hx;exact⟨a,b,rfl,hx.1,hx.2⟩|_::_::_::_=>rw[hl]at hx;simp at hx
 have ea:c.args.map e= #[e x0,e y0]:=by apply toList_inj.1;simp[hl]
 have et:c.argTypes= #[t,t']:=by apply toList_inj.1;simp[hts]
 rw[Bool.cond_eq_ite]at h;split at h;rw[Bool.cond_eq_ite]at h;split at h;have⟨v,w',h1,h2⟩:=afA (ty:=o.type) (t':=t') h hn hs (ef x0 (by simp[hl])) (ef y0 (by simp[hl]));refine dO ⟨v,w',h1,h2 base⟩ ?_;rw[eG,ea,et];rfl;have⟨v,w',h1,h2⟩:=ah9 (ty:=o.type) (t':=t') h hs (ef x0 (by simp[hl])) (ef y0 (by simp[hl]));refine dO ⟨v,w',h1,h2 base⟩ ?_;rw[eG,ea,et];rfl;cases h;rename_i t ts x hts hx
 obtain⟨y,hy,rfl⟩:∃y,c.args.toList=[y]/\ev y=x:=by
  cases hl:c.args.toList with
  |nil=>rw[hl]at hx;simp at hx|cons y l=>
   rw[hl]at hx;simp only[map_cons,List.cons.injEq,List.map_eq_nil_iff]at hx;exact⟨y,by rw[hx.2],hx.1⟩
 have ea:c.args.map e= #[e y]:=by apply toList_inj.1;simp[hy]
 have et:c.argTypes=(t::ts).toArray:=by apply toList_inj.1;simp[hts]
 have⟨v,w',h1,h2⟩:=afx (ty:=o.type) (ts:=ts) h hs (ef y (by simp[hy]));refine dO ⟨v,w',h1,h2 base⟩ ?_;rw[eG,ea,et];rfl;cases h;cases h;cases h
theorem RM.rE{α:Type}{id:Nat}:∀(m:RM α),(m.ahP id).eval H=m.eval (aK H id .aW)
 |.ret a=>rfl|.look j k=>by
  simp only[RM.ahP,RM.eval,Bool.cond_eq_ite,aK];by_cases h:j=id;subst h;rw[if_pos (Nat.beq_refl _),if_pos rfl];exact RM.rE _;rw[if_neg (by simpa using h),if_neg h];simp only[RM.eval];exact RM.rE _
 |.fail w=>rfl
theorem aX.anl(ft:∀b,O' b->O b){x:SV}{v:Value}(h:aX O w x v):aX O' w x v:=h.step (λb hb=>.inl (ft b hb)) (λ_ _ _=>rfl) (le_refl _)
theorem aaE(hs:Sat ρ H G w){id:Nat}{c:aS}{e:TypeId}(ho:H id=some (.vec c e)):aX (aV ρ (aK H id .aW) G) w (.ro c) (ρ id):=by
 have eW:=hs.obj id _ ho;have⟨a,cap,hr,h2,h3,h4⟩:=eW;have ail:∀b,aV ρ (aK H id .aW) G b->aV ρ H G b:=λb hb=>hb.imp g9 (λx=>x);rw[hr];by_cases hc:cap=0;have h0:c.n=0:=by omega
 have:=aX.ro (O:=aV ρ (aK H id .aW) G) (w:=w) c a cap (λ_ _=>undef) 0 0 h2 h3 (λh=>by omega) (λi j hi hj=>by omega) (λi j hi hj=>by omega);exact this;obtain⟨b,o,cells,fr,us,rfl,g1,g2,g3,g4⟩:=h4.resolve_left hc;have ko:eD (ρ id)=some b:=by rw[hr];simp only[eD];rw[if_neg hc]
 refine aX.ro c _ cap us b o h2 h3 (λ_=>⟨rfl,λhb=> ?_,(Array.getElem?_eq_some_iff.1 g1).1⟩) (λi j hi hj=> ?_) (λi j hi hj=> ?_);rcases hb with⟨j,x,hx,ha,hb⟩|hb;by_cases hj:j=id;subst hj;simp only[aK,if_true,Option.some.injEq]at hx;subst hx;cases ha;simp only[aK,hj,if_false]at hx;exact hj (hs.inj j id x _ b hx ho ha rfl hb ko);exact hs.apart b ⟨id,_,ho,rfl,ko⟩ hb;rw[cX g1];exact(g4 i j hi hj).1;exact(g4 i j hi hj).2.anl ail
theorem RM.pL{id:Nat}:∀(m:RM bK) {q:bK},(m.nv id).eval H=some q->∃q',m.eval H=some q'/\q={q' with up:=(id,.aW)::q'.up}
 |.ret a,q,h=>by
  simp only[RM.nv,RM.eval,Option.some.injEq]at h;exact⟨a,rfl,h.symm⟩
 |.look j k,q,h=>by
  simp only[RM.nv,RM.eval]at h ⊢;exact RM.pL _ h
 |.fail w,q,h=>by simp[RM.nv,RM.eval]at h
theorem Yields.imp{o:Oper}{e:Operand->Value}{R R':Value->World->Prop}(h:Yields P o e w R)(hr:∀v w',R v w'->R' v w'):Yields P o e w R':=by
 unfold Yields at h ⊢;split at h;exact hr _ _ h;exact hr _ _ h;exact h.mono λen w'' ⟨v,he,hv⟩=>⟨v,he,hr _ _ hv⟩;exact h
theorem xF(hS:SOk P S Z){base:Nat}{o:Oper}:∀(ids:List Nat) {H:aJ} {ev:Operand->AV} {q:bK},(giveUp ids ev λev=>ahO P (S base) ev o).eval H=some q->bd q.aa->ZAt Z ρ H w->Sat ρ H G w->
 ∀{e:Operand->Value},(∀x∈o.op.operands,ae ρ H (aV ρ H G) w (ev x) (e x))->(∀i,i<q.new.length->H (base+i)=none)->
 Yields P o e w (λv w'=>Good ρ H G w (cL H q.up base q.new) (q.r base) v w')
 |[],H,ev,q,h,hn,hz,hs,e,hd,hb=>adO hS h hn hz hs hd hb|id::ids,H,ev,q,h,hn,hz,hs,e,hd,hb=>by
  simp only[giveUp,RM.eval]at h;split at h;rename_i c el ho;obtain⟨q',h1,rfl⟩:=RM.pL _ h;rw[RM.rE]at h1;have st:=jJ (ρ:=ρ) (G:=G) (w:=w) ho;have hz1:ZAt Z ρ (aK H id .aW) w:=⟨hz.1,λb hb hO=>hz.2 b hb (g9 hO)⟩
  have hb1:∀j,j<q'.new.length->aK H id .aW (base+j)=none:=λj hj=>by
   have:=hb j hj;simp only[aK];split;rename_i e1;rw[e1,ho]at this;cases this;exact this
  have hd1:∀x∈o.op.operands,ae ρ (aK H id .aW) (aV ρ (aK H id .aW) G) w (ahQ id c ev x) (e x):=λx hx=>by
   have h0:=hd x hx;have h2:=ae.step st _ _ h0;unfold ahQ;split;rename_i j hj;rw[Bool.cond_eq_ite];split;rename_i hji;have hji:j=id:=by simpa using hji
   subst hji;rw[hj]at h0;have⟨a,cap,hv,hr,_⟩:=lX hs ho h0;have:=aaE hs ho;rw[hr]at this;exact aC this;rw[hj]at h2;exact h2;exact h2
  refine(xF hS ids h1 hn hz1 (hs.kill ho) hd1 hb1).imp λv w' hg=> ?_
  have aoD:cL H ((id,.aW)::q'.up) base q'.new=cL (aK H id .aW) q'.up base q'.new:=by
   funext j;simp only[cL,cD,aK];cases cD q'.up j with
   |some x=>rfl|none=>
    simp only[];by_cases hj:j=id;subst hj
    have uw:¬(base<=j/\j<base+q'.new.length):=by
     rintro⟨k1,k2⟩;have:=hb (j - base) (by simp only[];omega);rw[show base+(j - base)=j from by omega,ho]at this;cases this
    simp[uw];simp[hj]
  simp only[];rw[aoD];exact Good.after st (λb hb=>g9 hb) hg;simp[RM.eval]at h
theorem aim(hS:SOk P S Z){base:Nat}{o:Oper}{ev:Operand->AV}{q:bK}(h:(opR P (S base) ev o).eval H=some q)(hn:bd q.aa)(hz:ZAt Z ρ H w)(hs:Sat ρ H G w){e:Operand->Value}
 (hd:∀x∈o.op.operands,ae ρ H (aV ρ H G) w (ev x) (e x)) (hb:∀i,i<q.new.length->H (base+i)=none):
 Yields P o e w (λv w'=>Good ρ H G w (cL H q.up base q.new) (q.r base) v w'):=by
 unfold opR at h;split at h;rename_i op t x y ty ho;have hx:=kZ (hd x (by simp[ho,Op.operands]));have hy:=hd y (by simp[ho,Op.operands]);rw[Bool.cond_eq_ite]at h;split at h;rename_i hi;exact bm hs (alG (ox:=x) (oy:=y) h hn hs hx (ahU hy hi)) (by simp only[execOp,ho]) base;rw[Bool.cond_eq_ite]at h;split at h;exact bm hs (acm (t:=t) (ox:=x) (oy:=y) h hn hx hy) (by simp only[execOp,ho]) base;obtain⟨⟨n,r⟩,h1,rfl⟩:=nC h;have⟨v,h2,h3⟩:=adN (ox:=x) (oy:=y) h1 hn hx hy;exact bm hs ⟨rfl,rfl,v,h2,λ_=>h3⟩ (by simp only[execOp,ho]) base;exact xF hS _ h hn hz hs (λx hx=>kZ (hd x hx)) hb;exact adO hS h hn hz hs (λx hx=>kZ (hd x hx)) hb
end
structure St where
 tmps:List AV
 H:List au
def gy(tmps:List AV):Operand->AV
 |.tmp t=>tmps.getD t (.s .aF)|.const (.slice none 0 0)=>.s .oJ|.const v=>yf v|.global _=>.s .aF|.func f=>.s (.sM f)
def St.look(s:St):aJ:=λid=>s.H[id]?
def l3(H:List au):List (Nat×au)->List au
 |[]=>H|(id,o)::us=>l3 (H.set id o) us
def cO(tmps:List AV):Option Tmp->AV->List AV
 |some d,v=>tmps.set d v|none,_=>tmps
def St.put(s:St)(dst:Option Tmp)(r:bK):St:=
 {tmps:=cO s.tmps dst (r.r s.H.length),H:=l3 s.H r.up++r.new}
structure Lp where
 ps:List Tmp
 yI:Code
 body:Code
inductive lA where
 |ready|busy|done (c:Code)
structure q8 where
 f:Option FuncId
 n:Nat
 round:Bool
 marks:Nat
 lp:Option (Lp×lA)
 todo:List Item
 key:Nat×Nat
structure bt where
 f:Option FuncId:=none
 round:Bool:=false
 marks:Nat:=0
 below:List q8:=[]
 rid:Nat:=0
structure aR where
 tmps:List AV
 H:List au
 todo:List Item
 stk:bt:={}
def hI:Code->Option Nat
 |.region id _ _=>some id|.seq a b=>match hI a with
  |some i=>some i|none=>hI b
 |.cond _ a b=>match hI a with
  |some i=>some i|none=>hI b
 |.block _ c|.loop c|.scope c=>hI c|_=>none
def adP(k:bt)(id:Nat):Nat:=match k.f with
 |none=>id|some g=>(g+1)*100000+id
def gK:Nat:=1000000000
def eb:Nat:=1000000000000000
def gL(b:Bool):Nat:=bif b then 1 else 0
def q8.size(d:q8):Nat:=d.n+gL d.round+d.marks+gL d.lp.isSome
def adQ:List q8->Nat
 |[]=>0|d::ds=>d.size+adQ ds
def bt.extra(k:bt):Nat:=gL k.round+k.marks
def ain(k:bt)(id j:Nat):Nat:=eb+(adP k id*1000+j)
def aR.n(c:aR):Nat:=c.tmps.length - (c.stk.extra+adQ c.stk.below)
def bt.plain(k:bt):Bool:= !k.round&&k.marks.beq 0&&k.below.isEmpty
def bt.fn(P:Program)(fn:Func)(k:bt):Option Func:=match k.f with
 |none=>some fn|some g=>P.funcs[g]?
inductive Tree where
 |aa (p:Prop) (t:Tree)|ite (b:Bool) (t e:Tree)|both (p q:Prop) (t e:Tree)|ret (H:List au) (v:AV)|at(c:aR)|stuck (why:String)
def Tree.xG:List Prop->Tree->Tree
 |[],t=>t|p::ps,t=>.aa p (xG ps t)
def sj(us:List (Nat×au)):List Nat:=us.map (·.1)
def xH(n:Nat)(us:List (Nat×au)):Bool:=us.all λx=>x.1.blt n
structure Touch where
 i:Nat
 rd:List Nat
 wr:List Nat
def Touch.adR(a b:Touch):Bool:=a.wr.any (λx=>b.rd.contains x||b.wr.contains x)||b.wr.any (λx=>a.rd.contains x)
def uE(id:Nat)(c:aS):AV->AV
 |.vec j=>bif j.beq id then .s (.ro c)else .vec j|a=>a
def uF(id:Nat)(c:aS):AV->AV
 |.agg segs=>.agg (segs.map (uE id c))|.vec j=>bif j.beq id then .s (.ro c)else .vec j|a=>a
def aaF(id:Nat)(c:aS):au->au
 |.ad segs e=>.ad (segs.map (uE id c)) e|o=>o
def uG(s:St)(id:Nat):St:=
 match s.H[id]? with
 |some (.vec c _)=>⟨s.tmps.map (uF id c),(s.H.map (aaF id c)).set id .aW⟩|_=>s
def aio:AV->List Nat
 |.agg segs=>segs.filterMap λa=>match a with
  |.vec j=>some j|_=>none
 |.vec j=>[j]|_=>[]
def hJ(s:St)(o:Oper):St:=
 match o.op with
 |.buildSlice _ _ ps=>(ps.toList.flatMap λp=>aio (gy s.tmps p.2)).foldl uG s|.store _ a x=>match gy s.tmps a with
  |.gw _ _ _=>(aio (gy s.tmps x)).foldl uG s|_=>s
 |_=>s
def kJ(P:Program)(S:fa)(ops:Array Oper)(cont:St->List Touch->Tree):Nat->List Oper->St->List Touch->Tree
 |_,[],s,tr=>cont s tr|i,o::rest,s,tr=>
  let go (s:St):Tree:=
   let m:=opR P (S s.H.length) (gy s.tmps) o
   match m.eval s.look with
   |some r=>bif xH s.H.length r.up then .xG r.aa (kJ P S ops cont (i+1) rest (s.put o.dst r) (⟨i,m.ids s.look,sj r.up++(List.range r.new.length).map (s.H.length+·)⟩::tr))else .stuck ""|none=>.stuck (o.pos++ " " ++m.why s.look)
  let skip (s:St):Tree:=kJ P S ops cont (i+1) rest {s with tmps:=cO s.tmps o.dst (.bO [])} tr
  match o.guard with
  |none=>go s|some (g,want)=>
   match(ops[g]?).bind (·.dst)with
   |none=>.stuck ""|some d=>
    match s.tmps.getD d (.s .aF)with
    |.s (.ao b)=>bif b==want then go s else skip s|.s (.bool b)=>.ite b
     (bif want then go {s with tmps:=s.tmps.set d (.s (.ao true))}else skip {s with tmps:=s.tmps.set d (.s (.ao true))})
     (bif want then skip {s with tmps:=s.tmps.set d (.s (.ao false))}else go {s with tmps:=s.tmps.set d (.s (.ao false))})
    |.bO []=>skip s|_=>.stuck ""
def uH(ops:Array Oper):Nat->Nat->Nat->Bool
 |0,_,_=>false|n+1,i,j=>match ops[i]? with
  |some o=>(o.after.any λe=>Region.binds .any e&&e.on.beq j)||(o.after.any λe=>Region.binds .any e&&j.blt e.on&&uH ops n e.on j)|none=>false
def gu(ops:Array Oper)(i j:Nat):Bool:=uH ops 9 i j
def iG(ops:Array Oper):List Touch->Bool
 |[]=>true|b::aI=>aI.all (λa=> !(a.adR b)||gu ops b.i a.i)&&iG ops aI
def hM(ops:Array Oper):Bool:=
 (List.range ops.size).all λi=>(List.range ops.size).all λj=>
   match ops[i]?,ops[j]? with
   |some x,some y=>
    (i==j)||(match x.dst with
      |none=>true|some d=>(!(y.looksAt ops).contains d&& !(y.dst==some d))||(if i<j then gu ops j i else gu ops i j))
   |_,_=>false
def dL(ops:Array Oper):Bool:=
 (List.range ops.size).all λi=>match ops[i]? with
   |some o=>o.after.all λe=> !(Region.binds .any e)||e.on.blt i|none=>true
def uI(ops:Array Oper)(j:Nat):Bool:=(List.range ops.size).all λi=>i.blt j||(List.range i).all λk=>gu ops i k
def anm(ops:Array Oper):Nat->Nat
 |0=>0|i+1=>bif (List.range i).all (λk=>gu ops i k)then anm ops i else i+1
def alW(o:Oper):Bool:=
 match o.op with
 |.call c=>match c.callee with
  |.value _=>true|_=>false
 |_=>false
def cutAt(ops:Array Oper):Nat:=bif ops.toList.any alW then anm ops ops.size else ops.size
def pM(o:Oper)(ev:Operand->AV):Option (AV×List AV):=
 match o.op with
 |.call c=>match c.callee with
  |.value f=>some (ov (ev f),c.args.toList.map λx=>ov (ev x))|_=>none
 |_=>none
def adS(o:Oper):Bool:=
 match o.op with
 |.range _ _|.next _ false=>true|_=>false
def kr(P:Program)(S:fa)(ops:Array Oper)(enter:St->Nat->Oper->Option Tree)(cont:St->Tree):Nat->List Oper->St->Tree
 |_,[],s=>cont s|i,o::rest,s=>
  let go (s:St):Tree:=
   match enter s i o with
   |some t=>t|none=>
    let s:=hJ s o;let m:=opR P (S s.H.length) (gy s.tmps) o
    match m.eval s.look with
    |some r=>bif xH s.H.length r.up then .xG r.aa (kr P S ops enter cont (i+1) rest (s.put o.dst r))else .stuck ""|none=>.stuck (o.pos++ " " ++m.why s.look)
  let skip (s:St):Tree:=kr P S ops enter cont (i+1) rest {s with tmps:=cO s.tmps o.dst (.bO [])}
  match o.guard with
  |none=>go s|some (g,want)=>
   match(ops[g]?).bind (·.dst)with
   |none=>.stuck ""|some d=>
    match s.tmps.getD d (.s .aF)with
    |.s (.ao b)=>bif b==want then go s else skip s|.s (.bool b)=>.ite b
     (bif want then go {s with tmps:=s.tmps.set d (.s (.ao true))}else skip {s with tmps:=s.tmps.set d (.s (.ao true))})
     (bif want then skip {s with tmps:=s.tmps.set d (.s (.ao false))}else go {s with tmps:=s.tmps.set d (.s (.ao false))})
    |.s (.c7 n0 eq)=>.both (bif eq then n0=0 else True) (bif eq then True else n0=0)
     (bif want then go {s with tmps:=s.tmps.set d (.s (.ao true))}else skip {s with tmps:=s.tmps.set d (.s (.ao true))})
     (bif want then skip {s with tmps:=s.tmps.set d (.s (.ao false))}else go {s with tmps:=s.tmps.set d (.s (.ao false))})
    |.bO []=>skip s|_=>.stuck ""
def gk(P:Program)(s:St):List ResultVar->Option (List AV)
 |[]=>some []|.tmp t::rs=>(gk P s rs).map (s.tmps.getD t (.s .aF):: ·)|.cell t T::rs=>match(adF P T (s.tmps.getD t (.s .aF))).eval s.look,gk P s rs with
  |some r,some vs=>match r.aa,r.up,r.new with
   |[],[],[]=>some (r.r 0::vs)|_,_,_=>none
  |_,_=>none
def oneOf:List AV->AV
 |[v]=>v|vs=>.bO vs
def adT(n:Nat)(ops:Array Oper)(o:Oper):Bool:=
 (o.looksAt ops).all (·.blt n)&&o.dst.all (·.blt n)&&(match o.op with|.select _ _=>false|.defer _=>false|_=>true)
def l4(n:Nat)(ops:Array Oper):Bool:=ops.toList.all (adT n ops)
def iK(ops:Array Oper):Bool:=ops.toList.all λo=>match o.op with|.defer _=>false|_=>true
def jU(id:Nat):List q8->List AV->Option (q8×Lp×lA×List AV)
 |[],_=>none|d::ds,vs=>
  match d.lp with
  |some (L,st)=>(match vs.getD (d.n+gL d.round+d.marks) (.s .aF)with
   |.tag j=>bif j.beq id then some (d,L,st,vs.take d.n)else jU id ds (vs.drop d.size)|_=>jU id ds (vs.drop d.size))
  |none=>jU id ds (vs.drop d.size)
def iX(id:Nat)(po:lA):List q8->List AV->List q8
 |[],_=>[]|d::ds,vs=>
  match d.lp with
  |some (L,_)=>(match vs.getD (d.n+gL d.round+d.marks) (.s .aF)with
   |.tag j=>bif j.beq id then{d with lp:=some (L,po)}::ds else d::iX id po ds (vs.drop d.size)|_=>d::iX id po ds (vs.drop d.size))
  |none=>d::iX id po ds (vs.drop d.size)
def kK{α:Type}(cI:List α)(ps:List Tmp)(args:List α):List α:=(ps.zip args).foldl (λt x=>t.set x.1 x.2) cI
def resume(c:aR)(v:AV)(below:List q8)(k:aR->Tree):Tree:=
 match below with
 |d::ds=>
  match d.lp,d.todo with
  |none,.inRegion ops (i::rest)::td=>
   let dst:=(ops[i]?).bind (·.dst)
   bif dst.all (·.blt d.n)then k {tmps:=cO (c.tmps.drop (c.n+c.stk.extra)) dst v,H:=c.H,todo:=.inRegion ops rest::td,stk:=⟨d.f,d.round,d.marks,ds,d.key.1⟩}else .stuck ""
  |_,_=>.stuck ""
 |[]=>.stuck ""
def adU(c:aR)(v:AV)(k:aR->Tree):Tree:=
 match c.stk.below with
 |[]=>bif c.stk.f.isNone then .ret c.H v else .stuck ""|d::ds=>
  match d.lp with
  |none=>resume c v c.stk.below k|some (_,.busy)=>.stuck ""|some (_,st)=>
   let vs:=c.tmps.drop (c.n+c.stk.extra);let m:=d.n+gL d.round+d.marks
   k {tmps:=vs.take m++vs.drop (m+1),H:=c.H,todo:=(match st with|.done j=>[.code j]|_=>[])++d.todo,stk:=⟨d.f,d.round,d.marks,ds,0⟩}
def aaG(c:aR)(jump:Option Code)(k:aR->Tree):Tree:=
 match c.tmps.getD c.n (.s .aF)with
 |.tag id=>bif c.stk.marks.beq 0 then
  match jU id c.stk.below (c.tmps.drop (c.n+c.stk.extra))with
  |some _=>resume c (.s (.ao jump.isNone)) (iX id (match jump with|none=>.ready|some j=>.done j) c.stk.below (c.tmps.drop (c.n+c.stk.extra))) k|none=>.stuck ""
  else .stuck ""
 |_=>.stuck ""
def mZ(P:Program)(c:aR)(f:FuncId)(args:List AV)(wait:q8)(k:aR->Tree):Tree:=
 match P.funcs[f]? with
 |some g=>bif di P f&&args.length.ble g.ntmps then
  k {tmps:=args++replicate (g.ntmps - args.length) (.bO [])++c.tmps,H:=c.H,todo:=[.code (g.body.getD .skip)],stk:=⟨some f,false,0,wait::c.stk.below,0⟩}
  else .stuck ""
 |none=>.stuck ""
def yJ(c:aR)(id:Nat)(args:List AV)(wait:q8)(k:aR->Tree):Tree:=
 match jU id c.stk.below (c.tmps.drop (c.n+c.stk.extra))with
 |some (d,L,_,cI)=>bif args.length.beq L.ps.length&&L.ps.all (·.blt d.n)then
  k {tmps:=kK cI L.ps args++.tag id::c.tmps,H:=c.H,todo:=[.code L.yI,.beginRound,.code L.body],stk:=⟨d.f,true,0,wait::c.stk.below,0⟩}
  else .stuck ""
 |none=>.stuck ""
def yK(P:Program)(c:aR)(f:FuncId)(c8:List AV)(L:Lp)(todo:List Item)(k:aR->Tree):Tree:=
 bif c.stk.round then .stuck "" else
 let id:=c.H.length;let wait:q8:=⟨c.stk.f,c.n,false,c.stk.marks+1,some (L,.ready),todo,((hI L.body).getD 0,0)⟩
 mZ P {c with tmps:=c.tmps.take c.n++.tag id::((c.tmps.drop c.n).take c.stk.marks++.tag (id+1)::c.tmps.drop (c.n+c.stk.marks)),H:=c.H++[.aW]++[.aW]} f (.tag (id+1)::c8) wait k
def exec(P:Program)(S:fa)(fn:Func)(stop:Nat->Bool)(inl:FuncId->Bool):Nat->Bool->aR->Tree
 |0,_,c=>.at c|n+1,first,c=>
  let to (k:List Item):Tree:=exec P S fn stop inl n first {c with todo:=k}
  let go (c:aR):Tree:=exec P S fn stop inl n false c
  let back:Tree:=
   match c.stk.fn P fn with
   |some g=>(match gk P ⟨c.tmps.take c.n,c.H⟩ g.results.toList with
    |some vs=>adU c (oneOf vs) go|none=>.stuck "")
   |none=>.stuck ""
  let ops (first:Bool) (id:Nat) (ops:Array Oper) (i:Nat) (k:List Item):Tree:=
   bif iK ops&&(c.stk.plain||l4 c.n ops)then
    kr P S ops (λs j o=>
     let c':aR:={c with tmps:=s.tmps,H:=s.H};let wait:q8:=⟨c.stk.f,c.n,c.stk.round,c.stk.marks,none,.inRegion ops (range' j (ops.size - j))::k,(id,j)⟩
     bif stop (ain c.stk id j)&& !(first&&j.beq i)then some (.at {c' with todo:=.inRegion ops (range' j (ops.size - j))::k,stk:={c.stk with rid:=id}})else
     match pM o (gy s.tmps)with
     |some (g,args)=>(match g with
      |.s (.sM f)=>bif inl f then some (mZ P c' f args wait go)else none|.fn f c8=>bif inl f then some (mZ P c' f (args++c8) wait go)else none|.tag y=>some (yJ c' y args wait go)|_=>none)
     |none=>bif adS o then some (.at {c' with todo:=.inRegion ops (range' j (ops.size - j))::k,stk:={c.stk with rid:=id}})else none) (λs=>exec P S fn stop inl n first {c with tmps:=s.tmps,H:=s.H,todo:=k,stk:={c.stk with rid:=0}}) i (ops.toList.drop i) ⟨c.tmps,c.H⟩
   else .stuck ""
  match c.todo with
  |[]=>bif c.stk.round then aaG c none go else back|.code .ret::_=>bif c.stk.round then aaG c (some .ret) go else back|.code .skip::k|.code (.label _)::k|.inBlock _::k|.inScope _::k=>to k|.code (.seq a b)::k=>to (.code a::.code b::k)|.code (.block id body)::k=>to (.code body::.inBlock id::k)|.code (.scope body)::k=>to (.code body::.inScope body::k)|.code (.exit id)::k=>match exitTo id k with
   |some k'=>to k'|none=>bif c.stk.round then aaG c (some (.exit id)) go else .stuck ""
  |.code (.cond (.tmp t) a b)::k=>
   bif c.stk.plain||t.blt c.n then
   match c.tmps.getD t (.s .aF)with
   |.s (.ao x)=>to (.code (bif x then a else b)::k)|.s (.bool x)=>.ite x (exec P S fn stop inl n first {c with tmps:=c.tmps.set t (.s (.ao true)),todo:=.code a::k}) (exec P S fn stop inl n first {c with tmps:=c.tmps.set t (.s (.ao false)),todo:=.code b::k})
   |.s (.c7 n0 eq)=>.both (bif eq then n0=0 else True) (bif eq then True else n0=0) (exec P S fn stop inl n first {c with tmps:=c.tmps.set t (.s (.ao true)),todo:=.code a::k}) (exec P S fn stop inl n first {c with tmps:=c.tmps.set t (.s (.ao false)),todo:=.code b::k})
   |_=>.stuck ""
   else .stuck ""
  |.code (.region id rs draw)::k=>
   bif !first&&stop (adP c.stk id)then .at c else
   bif draw then
    (bif hM rs&&dL rs&&iK rs&&(c.stk.plain||l4 c.n rs)then
      bif (cutAt rs).blt rs.size&&uI rs (cutAt rs)then
       kJ P S rs (λs tr=>bif iG rs tr then exec P S fn stop inl n false {c with tmps:=s.tmps,H:=s.H,todo:=.inRegion rs (range' (cutAt rs) (rs.size - cutAt rs))::k,stk:={c.stk with rid:=id}}else .stuck "") 0 (rs.toList.take (cutAt rs)) ⟨c.tmps,c.H⟩ []
      else
      kJ P S rs (λs tr=>bif iG rs tr then exec P S fn stop inl n false {c with tmps:=s.tmps,H:=s.H,todo:=k}else .stuck "") 0 rs.toList ⟨c.tmps,c.H⟩ []
    else .stuck "")
   else ops false id rs 0 k
  |.inRegion rs todo::k=>bif todo.length.ble rs.size&&todo==range' (rs.size - todo.length) todo.length then ops first c.stk.rid rs (rs.size - todo.length) k else .stuck ""
  |.beginRound::k=>bif c.stk.round then
   match c.tmps.getD c.n (.s .aF)with
   |.tag id=>(match jU id c.stk.below (c.tmps.drop (c.n+c.stk.extra))with
    |some (_,_,.ready,_)=>exec P S fn stop inl n first {c with todo:=k,stk:={c.stk with below:=iX id .busy c.stk.below (c.tmps.drop (c.n+c.stk.extra))}}
    |_=>.stuck "")
   |_=>.stuck "" else .stuck ""
  |.code (.rangeFunc (.tmp t) ps yI body)::k=>
   bif c.stk.plain||t.blt c.n then
   match c.tmps.getD t (.s .aF)with
   |.s (.sM f)=>yK P c f [] ⟨ps.toList,yI,body⟩ k go|.fn f c8=>yK P c f c8 ⟨ps.toList,yI,body⟩ k go|_=>.stuck ""
   else .stuck ""
  |.code (.loop body)::k|.inLoop body::k=>bif stop (gK+adP c.stk ((hI body).getD 0))then exec P S fn stop inl n first {c with todo:=.code body::.inLoop body::k}else .at {c with todo:=.code body::.inLoop body::k}
  |_=>.at c
def start(fn:Func)(args:List AV)(H:List au):aR:=
 {tmps:=args++replicate (fn.ntmps - args.length) (.bO []),H:=H,todo:=[.code (fn.body.getD .skip)]}
def cB(P:Program)(f:FuncId)(R:Ending->World->Prop)(b:Frame)(a:Act)(k:List Item)(fs:List Frame)(w:World):Prop:=
 ∀cs,∃e w' fr,R e w'/\Comes P (lone (b.atR a k) (fs++cs) w) (lone fr cs w') e/\fr.fn=f/\fr.leaving P w' e
theorem cB.steps{P:Program}{f:FuncId}{R:Ending->World->Prop}{b b':Frame}{a a':Act}{k k':List Item}{fs fs':List Frame}{w w':World}
 (hs:∀cs,Steps P (lone (b.atR a k) (fs++cs) w) (lone (b'.atR a' k') (fs'++cs) w')) (h:cB P f R b' a' k' fs' w'):cB P f R b a k fs w:=by
 intro cs;have⟨e,w2,fr,h1,h2,h3⟩:=h cs;exact⟨e,w2,fr,h1,Comes.of_steps (hs cs) h2,h3⟩
theorem cB.step{P:Program}{f:FuncId}{R:Ending->World->Prop}{b b':Frame}{a a':Act}{k k':List Item}{fs fs':List Frame}{w w':World}
 (hs:∀cs,step P (lone (b.atR a k) (fs++cs) w)=.next (lone (b'.atR a' k') (fs'++cs) w')) (h:cB P f R b' a' k' fs' w'):cB P f R b a k fs w:=
 cB.steps (λcs=>.one (hs cs)) h
theorem iL{P:Program}{f:FuncId}{fn:Func}{c:Code}{args:Array Value}{w:World}{R:Ending->World->Prop}(hf:P.funcs[f]? =some fn)(hb:fn.body=some c)
 (h:cB P f R {(default:Frame)with fn:=f,kind:=.normal,roundOf:=none} {tmps:=args++Array.replicate (fn.ntmps - args.size) undef,defers:=[]} [.code c] [] w):Calls P f args w R:=by
 intro cs
 have eI:Frame.enter P f args .normal=Frame.atR {(default:Frame)with fn:=f,kind:=.normal,roundOf:=none} {tmps:=args++Array.replicate (fn.ntmps - args.size) undef,defers:=[]} [.code c]:=by
  simp[Frame.enter,Frame.atR,hf,hb]
 have⟨e,w',fr,h1,h2,h3,h4⟩:=h cs;rw[eI];exact⟨e,w',fr,h1,h2,h3,h4⟩
structure Ctx where
 ρ:Nat->Value
 H:aJ
 G:Nat->Prop
 w:World
 E:List (Nat×Obj):=[]
 pan:Ending->World->Prop:=λ_ _=>False
def cE(Z:aP)(X:Ctx):Prop:=Z.ok X.w/\∀b,b∈Z.bs->¬Own X.ρ X.H b
def Ctx.at(X:Ctx)(G:Nat->Prop)(E:List (Nat×Obj)):Ctx:=⟨X.ρ,X.H,G,X.w,E,X.pan⟩
theorem cE.at{Z:aP}{X:Ctx}(h:cE Z X)(G:Nat->Prop)(E:List (Nat×Obj)):cE Z (X.at G E):=h
theorem zed{Z:aP}{X:Ctx}{w:World}{ρ:Nat->Value}{H:aJ}(h:cE Z X)(k:xw X.ρ X.H X.w w)(hs:Sat ρ H X.G w)(st:Step X.ρ X.H (aV X.ρ X.H X.G) X.w ρ H (aV ρ H X.G) w):ZAt Z ρ H w:=by
 refine⟨Z.eT X.w w h.1 λb hb=>k.heap b (Z.low _ h.1 b hb) (h.2 b hb),λb hb ho=> ?_⟩;rcases st.ft b (.inl ho)with(h1|h1)|h1;exact h.2 b hb h1;exact hs.apart b ho h1;have:=Z.low _ h.1 b hb;omega
def Kept(X:Ctx)(w:World):Prop:=∀x∈X.E,X.G x.1/\X.w.heap.size<=x.1/\w.heap[x.1]? =some x.2
theorem Kept.iH{X:Ctx}{ρ:Nat->Value}{H:aJ}{w w':World}(h:Kept X w)(hs:Sat ρ H X.G w)(k:xw ρ H w w'):Kept X w':=λx hx=>by
 have⟨h1,h0,h2⟩:=h x hx;exact⟨h1,h0,by rw[k.heap x.1 (Array.getElem?_eq_some_iff.1 h2).1 (λho=>hs.apart _ ho h1)];exact h2⟩
structure b8 (X:Ctx) (ρ:Nat->Value) (s:St) (a:Act) (w:World):Prop where
 sat:Sat ρ s.look X.G w
 size:s.tmps.length=a.tmps.size
 den:∀t,ae ρ s.look (aV ρ s.look X.G) w (s.tmps.getD t (.s .aF)) (a.tmps.getD t undef)
 defers:a.defers=[]
 cu:Step X.ρ X.H (aV X.ρ X.H X.G) X.w ρ s.look (aV ρ s.look X.G) w
 iH:xw X.ρ X.H X.w w
 kept:Kept X w
def Tree.Holds(K:List au->AV->Prop)(C:aR->Prop):Tree->Prop
 |.aa p t=>p/\t.Holds K C|.ite b t e=>(b=true->t.Holds K C)/\(b=false->e.Holds K C)|.both p q t e=>(p->t.Holds K C)/\(q->e.Holds K C)|.ret H v=>K H v|.at c=>C c|.stuck _=>False
def iY(X:Ctx)(K:List au->AV->Prop)(e:Ending)(w':World):Prop:=
 (∃v,e=.returned v/\∃(L:List au) (r:AV),K L r/\Good X.ρ X.H X.G X.w (λid=>L[id]?) r v w')\/X.pan e w'
def oE(D:Nat):Deferred:={target:=.collected D,args:= #[]}
def dP(D:Nat):Value:=.pointer (some ⟨D,0,none⟩)
def cr(l:Nat):Value:=.func (.yield l) #[] #[]
def lA.gg(st:lA)(L:Lp)(fn:FuncId)(tmps:Array Value)(defers:Nat):Loop:=
 {state:=match st with|.ready=>.ready|.busy=>.busy|.done _=>.done,pending:=match st with|.done c=>some c|_=>none,fn,tmps,params:=L.ps.toArray,assign:=L.yI,body:=L.body,defers}
structure aip (f:FuncId) (round:Bool) (v0 rv:List Value) (Ds:List Nat) (E:List (Nat×Obj)) (b:Frame) (a:Act):Prop where
 fr:∃r,b={(default:Frame)with fn:=f,kind:=.normal,roundOf:=r}/\(match round with|true=>∃l,rv=[cr l]/\r=some l|false=>rv=[]/\r=none)
 act:a={tmps:=v0.toArray,defers:=Ds.map oE}
 ghost:E=Ds.map λD=>(D,.deferred (some []))
def WfS(f0:FuncId):List q8->List Value->List (Nat×Obj)->List Frame->Prop
 |[],vs,E,fs=>vs=[]/\E=[]/\fs=[]|d::ds,vs,E,fs=>∃(v0 rv v2:List Value) (Ds:List Nat) (E1 E2:List (Nat×Obj)) (b:Frame) (a:Act) (fs2:List Frame) (lv:List Value) (lE:List (Nat×Obj)) (todo:List Item),
   vs=v0++(rv++(Ds.map dP++(lv++v2)))/\E=E1++(lE++E2)/\fs=b.atR a todo::fs2/\v0.length=d.n/\Ds.length=d.marks/\
   aip (d.f.getD f0) d.round v0 rv Ds E1 b a/\WfS f0 ds v2 E2 fs2/\
   (match d.lp with
    |none=>lv=[]/\lE=[]/\todo=d.todo|some (L,st)=>∃l D,lv=[cr l]/\lE=[(l,.loop (st.gg L (d.f.getD f0) v0.toArray D))]/\todo=.inRangeFunc l::d.todo)
def Wf(f0:FuncId)(k:bt)(vs:List Value)(E:List (Nat×Obj))(b:Frame)(a:Act)(fs:List Frame):Prop:=
 (E.map (·.1)).Nodup/\∃(v0 rv v2:List Value) (Ds:List Nat) (E1 E2:List (Nat×Obj)),vs=v0++(rv++(Ds.map dP++v2))/\E=E1++E2/\Ds.length=k.marks/\
   aip (k.f.getD f0) k.round v0 rv Ds E1 b a/\WfS f0 k.below v2 E2 fs
def Safe(P:Program)(f:FuncId)(X:Ctx)(K:List au->AV->Prop)(c:aR):Prop:=
 ∀(G:Nat->Prop) (E:List (Nat×Obj)) ρ a w,(∀b,X.G b->G b)->(∀b,G b->X.G b\/X.w.heap.size<=b)->b8 (X.at G E) ρ ⟨c.tmps,c.H⟩ a w->
  ∀b a' fs,Wf f c.stk a.tmps.toList E b a' fs->cB P f (iY X K) b a' c.todo fs w
section
variable{ρ aO:Nat->Value}{H H':aJ}{G O O':Nat->Prop}{w w':World}{P:Program}{S:fa}{Z:aP}{X:Ctx}{s:St}{a:Act}{K:List au->AV->Prop}{C:aR->Prop}
theorem acD(v:Value):ae ρ H O w (yf v) v:=by
 have one:∀v:Value,ae ρ H O w ((pw v).getD (.s .aF)) v:=by
  intro v;cases h:pw v with
  |none=>unfold ae;trivial|some x=>
   have hc:=uj (ρ:=ρ) (H:=H) (O:=O) (w:=w) h;simp only[getD_some];unfold pw at h;split at h;simp only[Option.some.injEq]at h;subst h;unfold ae;exact⟨_,rfl⟩;simp only[map_eq_some_iff]at h;obtain⟨y,h3,rfl⟩:=h;exact aC (yy h3)
 unfold yf;split;rename_i cs;cases h:px cs.toList with
 |none=>unfold ae;trivial|some aI=>unfold ae;exact⟨cs.toList,by simp,mR _ h⟩
 exact one v
theorem uJ(T:List AV)(v:Value):ae ρ H O w (gy T (.const v)) v:=by
 unfold gy;split;exact absurd ‹_› (by simp);rename_i h;cases h;exact aC .oJ;rename_i h;cases h;exact acD v;exact absurd ‹_› (by simp);exact absurd ‹_› (by simp)
theorem b8.ev(h:b8 X ρ s a w)(x:Operand):ae ρ s.look (aV ρ s.look X.G) w (gy s.tmps x) (a.eval x):=by
 cases x with
 |tmp t=>exact h.den t|const v=>exact uJ _ v|global g=>unfold gy ae;trivial|func f=>exact aC (.sM f)
theorem cM{α:Type}(l:List α)(d t:Nat)(x y:α):(l.set d x).getD t y=if t=d/\d<l.length then x else l.getD t y:=by
 simp only[List.getD,List.getElem?_set];by_cases h:d=t;subst h;by_cases h2:d<l.length;simp[h2];simp[h2];have:¬(t=d/\d<l.length):=λe=>h e.1.symm;simp[h,this]
theorem yL(l:Array Value)(d t:Nat)(x:Value):(l.setIfInBounds d x).getD t undef=if t=d/\d<l.size then x else l.getD t undef:=by
 simp only[getD_eq_getD_getElem?,Array.getElem?_setIfInBounds];by_cases h:d=t;subst h;by_cases h2:d<l.size;simp[h2];simp[h2];have:¬(t=d/\d<l.size):=λe=>h e.1.symm;simp[h,this]
theorem pP{tmps:List AV}{arr:Array Value}(cn:tmps.length=arr.size)(h:∀t,ae ρ H O w (tmps.getD t (.s .aF)) (arr.getD t undef))(dst:Option Tmp){r:AV}{v:Value}(hr:ae ρ H O w r v)(df:List Deferred):
 (cO tmps dst r).length=((Act.put ⟨arr,df⟩ dst v).tmps).size/\∀t,ae ρ H O w ((cO tmps dst r).getD t (.s .aF)) ((Act.put ⟨arr,df⟩ dst v).tmps.getD t undef):=by
 cases dst with
 |none=>exact⟨cn,h⟩|some d=>
  simp only[cO,Act.put];refine⟨by simp[cn],λt=> ?_⟩;rw[cM,yL,cn];split;exact hr;exact h t
theorem acE(us:List (Nat×au)):∀(L:List au) (j:Nat),j<L.length->(l3 L us)[j]? =match cD us j with|some o=>some o|none=>L[j]? :=by
 induction us with
 |nil=>intro L j h;rfl
 |cons u us ih=>
  have⟨id,o⟩:=u;intro L j h;simp only[l3,cD];rw[ih _ _ (by simpa using h)];cases cD us j with
  |some x=>rfl|none=>
   by_cases hj:j=id;subst hj;simp[h];simp[hj,Ne.symm hj]
theorem kL(us:List (Nat×au)):∀(L:List au),(l3 L us).length=L.length:=by
 induction us with
 |nil=>intro L;rfl
 |cons u us ih=>intro L;have⟨id,o⟩:=u;simp only[l3];rw[ih];simp
def aaH(n:Nat)(us:List (Nat×au)):Prop:=∀j,n<=j->cD us j=none
theorem uK(s:St)(dst:Option Tmp)(q:bK)(hu:aaH s.H.length q.up):(s.put dst q).look=cL s.look q.up s.H.length q.new:=by
 funext j;simp only[St.look,St.put,cL];by_cases hj:j<s.H.length;rw[getElem?_append_left (by rw[kL];exact hj),acE _ _ _ hj];cases cD q.up j with
 |some o=>rfl|none=>rw[if_neg (by omega)]
 rw[List.getElem?_append_right (by rw[kL];omega),kL,hu j (by omega)];by_cases h2:j<s.H.length+q.new.length;simp only[show s.H.length<=j/\j<s.H.length+q.new.length from⟨by omega,h2⟩,and_self,if_true];have e1:q.new[j - s.H.length]? =none:=getElem?_eq_none (by omega);have e2:s.H[j]? =none:=getElem?_eq_none (by omega);rw[e1,if_neg (by omega)];exact e2.symm
theorem xw.trans(h:b8 X ρ s a w)(k:xw ρ s.look w w'):xw X.ρ X.H X.w w':=by
 refine⟨k.os.trans h.iH.os,k.tape.trans h.iH.tape,k.output.trans h.iH.output,λb hb hO=> ?_⟩;rw[k.heap b (by have:=h.cu.size;omega) (λho=> ?_),h.iH.heap b hb hO];rcases h.cu.ft b (.inl ho)with(h1|h1)|h1;exact hO h1;exact h.sat.apart b ho h1;omega
theorem afD{o:Oper}{R:Value->World->Prop}{next:Act->World->Prop}{Q:Exit->Act->World->Prop}(h:Yields P o a.eval w R)(hn:∀v w',R v w'->next (a.put o.dst v) w'):o.wp P a w next Q:=by
 unfold Yields at h;unfold Oper.wp Oper.upon;split at h;rename_i v w2 hr;rw[hr];exact hn _ _ h;rename_i w2 hr;rw[hr];exact hn _ _ h;rename_i f args w2 hr;rw[hr];refine h.mono λen w'' ⟨v,he,hv⟩=> ?_;subst he;exact hn _ _ hv;exact h.elim
theorem b8.op(hS:SOk P S Z)(mu:cE Z X)(h:b8 X ρ s a w){o:Oper}{q:bK}(hq:(opR P (S s.H.length) (gy s.tmps) o).eval s.look=some q)(hn:bd q.aa)(hu:aaH s.H.length q.up):
 Yields P o a.eval w (λv w'=>∃aO,b8 X aO (s.put o.dst q) (a.put o.dst v) w'):=by
 have hY:∀i,i<q.new.length->s.look (s.H.length+i)=none:=λi _=>by simp[St.look]
 have:=aim (base:=s.H.length) hS hq hn (zed mu h.iH h.sat h.cu) h.sat (e:=a.eval) (λx _=>h.ev x) hY;unfold Yields at *
 have key:∀v w',Good ρ s.look X.G w (cL s.look q.up s.H.length q.new) (q.r s.H.length) v w'->∃aO,b8 X aO (s.put o.dst q) (a.put o.dst v) w':=by
  rintro v w' ⟨aO,h1,h2,h3,h4⟩;have hl:=uK s o.dst q hu;rw[<-hl]at h1 h2 h3;have⟨arr,df⟩:=a;have hp:=pP (ρ:=aO) (H:=(s.put o.dst q).look) (O:=aV aO (s.put o.dst q).look X.G) (w:=w') h.size (λt=>ae.step h3 _ _ (h.den t)) o.dst h2 df;exact⟨aO,h1,hp.1,hp.2,by have:=h.defers;cases o.dst<;>exact this,h.cu.trans h3,xw.trans h h4,h.kept.iH h.sat h4⟩
 split at this;exact key _ _ this;exact key _ _ this;exact this.mono λen w'' ⟨v,he,hv⟩=>⟨v,he,key _ _ hv⟩;exact this
end
section
variable{ρ aO:Nat->Value}{H H':aJ}{G O O':Nat->Prop}{w w':World}{P:Program}{S:fa}{Z:aP}{X:Ctx}{s:St}{a:Act}{K:List au->AV->Prop}{C:aR->Prop}
theorem m0:∀(ps:List Prop) (t:Tree),(Tree.xG ps t).Holds K C->bd ps/\t.Holds K C
 |[],t,h=>⟨trivial,h⟩|p::ps,t,h=>by
  have⟨h1,h2⟩:=h;have⟨h3,h4⟩:=m0 ps t h2;exact⟨⟨h1,h3⟩,h4⟩
theorem aiq{n:Nat}{us:List (Nat×au)}(h:xH n us=true):aaH n us:=by
 unfold xH at h;intro j hj
 induction us with
 |nil=>rfl|cons u us ih=>
  have⟨id,o⟩:=u;simp only[all_cons,and_eq_true]at h;have h1:id<n:=by simpa[Nat.blt,Nat.lt_iff_add_one_le]using h.1
  simp only[cD];rw[ih h.2,if_neg (by omega)]
theorem b8.skip(h:b8 X ρ s a w)(dst:Option Tmp):b8 X ρ {s with tmps:=cO s.tmps dst (.bO [])} (a.put dst undef) w:=by
 have⟨arr,df⟩:=a;have hp:=pP (ρ:=ρ) (H:=s.look) (O:=aV ρ s.look X.G) (w:=w) h.size h.den dst (r:=.bO []) (v:=undef) cv df;exact⟨h.sat,hp.1,hp.2,by have:=h.defers;cases dst<;>exact this,h.cu,h.iH,h.kept⟩
theorem b8.refine(h:b8 X ρ s a w){d:Nat}{x y:AV}(hx:s.tmps.getD d (.s .aF)=x)(hxy:∀v,ae ρ s.look (aV ρ s.look X.G) w x v->ae ρ s.look (aV ρ s.look X.G) w y v):b8 X ρ {s with tmps:=s.tmps.set d y} a w:=by
 refine⟨h.sat,by simp[h.size],λt=> ?_,h.defers,h.cu,h.iH,h.kept⟩;simp only[];rw[cM];split;rename_i hc;obtain⟨rfl,_⟩:=hc;have:=h.den t;rw[hx]at this;exact hxy _ this;exact h.den t
theorem b8.yM(h:b8 X ρ s a w){d:Nat}{x y:AV}(hx:s.tmps.getD d (.s .aF)=x)(hxy:ae ρ s.look (aV ρ s.look X.G) w y (a.tmps.getD d undef)):b8 X ρ {s with tmps:=s.tmps.set d y} a w:=by
 refine⟨h.sat,by simp[h.size],λt=> ?_,h.defers,h.cu,h.iH,h.kept⟩;simp only[];rw[cM];split;rename_i hc;obtain⟨rfl,_⟩:=hc;exact hxy;exact h.den t
theorem b8.drew(h:b8 X ρ s a w):b8 X ρ s a {w with drawn:=w.drawn+1}:=by
 have st:Step ρ s.look (aV ρ s.look X.G) w ρ s.look (aV ρ s.look X.G) {w with drawn:=w.drawn+1}:=
  ⟨λ_ _ _=>rfl,λ_ o h=>⟨o,h,λc' e' e=>⟨c',e',e,rfl,rfl⟩⟩,λ_ h=>.inl h,λ_ _ _=>rfl,le_refl _⟩
 refine⟨⟨λid o ho=>(h.sat.obj id o ho).step st (λ_ _ _=>rfl),h.sat.inj,h.sat.apart,h.sat.low⟩,h.size,λt=>ae.step st _ _ (h.den t),h.defers,h.cu.trans st,⟨h.iH.os,h.iH.tape,h.iH.output,h.iH.heap⟩,h.kept⟩
theorem lB(h:b8 X ρ s a w){d:Nat}{b:Bool}(hx:s.tmps.getD d (.s .aF)=.s (.ao b)):a.tmps[d]? =some (.bool b):=by
 have h1:=h.den d;rw[hx]at h1;have h2:=aw (by simp) h1
 have a8:d<s.tmps.length:=by
  rcases lt_or_ge d s.tmps.length with h3|h3;exact h3;rw[List.getD,getElem?_eq_none h3]at hx;simp at hx
 rw[h.size]at a8;have h4:a.tmps.getD d undef=a.tmps[d]:=by simp[Array.getD,a8]
 rw[h4]at h2;rw[Array.getElem?_eq_getElem a8];generalize a.tmps[d]=u at h2;cases h2;rfl
theorem afE(h:b8 X ρ s a w){d:Nat}(hx:s.tmps.getD d (.s .aF)=.bO []):a.tmps[d]? =some undef:=by
 have h1:=h.den d;rw[hx]at h1
 have a8:d<s.tmps.length:=by
  rcases lt_or_ge d s.tmps.length with h3|h3;exact h3;rw[List.getD,getElem?_eq_none h3]at hx;simp at hx
 rw[h.size]at a8;have h4:a.tmps.getD d undef=a.tmps[d]:=by simp[Array.getD,a8]
 rw[h4]at h1;unfold ae at h1;have⟨us,h5,h6⟩:=h1;obtain rfl:=bc.1 h6;rw[Array.getElem?_eq_getElem a8,h5];rfl
theorem m3{b:Bool}(v:Value)(h:ae ρ H O w (.s (.bool b)) v):ae ρ H O w (.s (.ao b)) v:=by
 have:=aw (by simp) h;cases this;exact aC (.ao b)
end
section
variable{ρ aO:Nat->Value}{H H':aJ}{G O O':Nat->Prop}{w w':World}{P:Program}{S:fa}{Z:aP}{X:Ctx}{s:St}{a:Act}{K:List au->AV->Prop}{C:aR->Prop}{ops:Array Oper}
structure lC (X:Ctx) (ρ:Nat->Value) (T:List AV) (H:aJ) (a:Act) (w:World):Prop where
 sat:Sat ρ H X.G w
 size:T.length=a.tmps.size
 den:∀t,ae ρ H (aV ρ H X.G) w (T.getD t (.s .aF)) (a.tmps.getD t undef)
 defers:a.defers=[]
 cu:Step X.ρ X.H (aV X.ρ X.H X.G) X.w ρ H (aV ρ H X.G) w
 iH:xw X.ρ X.H X.w w
 kept:Kept X w
theorem b8.toF(h:b8 X ρ s a w):lC X ρ s.tmps s.look a w:=⟨h.sat,h.size,h.den,h.defers,h.cu,h.iH,h.kept⟩
theorem xw.aoE{T:List AV}(h:lC X ρ T H a w)(k:xw ρ H w w'):xw X.ρ X.H X.w w':=by
 refine⟨k.os.trans h.iH.os,k.tape.trans h.iH.tape,k.output.trans h.iH.output,λb hb hO=> ?_⟩;rw[k.heap b (by have:=h.cu.size;omega) (λho=> ?_),h.iH.heap b hb hO];rcases h.cu.ft b (.inl ho)with(h1|h1)|h1;exact hO h1;exact h.sat.apart b ho h1;omega
theorem lC.op(hS:SOk P S Z)(mu:cE Z X){T Ti:List AV}(h:lC X ρ T H a w){o:Oper}{q:bK}{base:Nat}(hq:(opR P (S base) (gy Ti) o).eval H=some q)(hn:bd q.aa)
 (hd:∀x∈o.op.operands,ae ρ H (aV ρ H X.G) w (gy Ti x) (a.eval x)) (hf:∀i,i<q.new.length->H (base+i)=none):
 Yields P o a.eval w (λv w'=>∃aO,lC X aO (cO T o.dst (q.r base)) (cL H q.up base q.new) (a.put o.dst v) w'):=by
 have:=aim (base:=base) hS hq hn (zed mu h.iH h.sat h.cu) h.sat (e:=a.eval) hd hf;unfold Yields at *
 have key:∀v w',Good ρ H X.G w (cL H q.up base q.new) (q.r base) v w'->∃aO,lC X aO (cO T o.dst (q.r base)) (cL H q.up base q.new) (a.put o.dst v) w':=by
  rintro v w' ⟨aO,h1,h2,h3,h4⟩;have⟨arr,df⟩:=a;have hp:=pP (ρ:=aO) (H:=cL H q.up base q.new) (O:=aV aO (cL H q.up base q.new) X.G) (w:=w') h.size (λt=>ae.step h3 _ _ (h.den t)) o.dst h2 df;exact⟨aO,h1,hp.1,hp.2,by have:=h.defers;cases o.dst<;>exact this,h.cu.trans h3,xw.aoE h h4,h.kept.iH h.sat h4⟩
 split at this;exact key _ _ this;exact key _ _ this;exact this.mono λen w'' ⟨v,he,hv⟩=>⟨v,he,key _ _ hv⟩;exact this
def Ref(x y:AV):Prop:=x=y\/∃b,x=.s (.bool b)/\y=.s (.ao b)
theorem Ref.den{x y:AV}(h:Ref x y){v:Value}(hx:ae ρ H O w x v):ae ρ H O w y v:=by
 rcases h with rfl|⟨b,rfl,rfl⟩;exact hx;exact m3 _ hx
theorem Ref.trans{x y z:AV}(h:Ref x y)(k:Ref y z):Ref x z:=by
 rcases h with rfl|⟨b,rfl,rfl⟩;exact k;rcases k with rfl|⟨c,h1,rfl⟩;exact .inr ⟨b,rfl,rfl⟩;cases h1
theorem RM.eval_congr{α:Type}:∀(m:RM α),(∀id∈m.ids H,H' id=H id)->m.eval H'=m.eval H/\m.ids H'=m.ids H
 |.ret a,h=>⟨rfl,rfl⟩|.fail _,h=>⟨rfl,rfl⟩|.look id k,h=>by
  simp only[RM.ids]at h;have e:=h id (by simp);have:=RM.eval_congr (k (H id)) (λj hj=>h j (by simp[hj]));simp only[RM.eval,RM.ids,e];exact⟨this.1,by rw[this.2]⟩
structure El where
 i:Nat
 o:Oper
 T:List AV
 q:Option bK
 base:Nat
 rd:List Nat
def El.wr(e:El):List Nat:=match e.q with
 |some q=>sj q.up++(List.range q.new.length).map (e.base+·)|none=>[]
def El.cI(e:El)(T:List AV):List AV:=cO T e.o.dst (match e.q with|some q=>q.r e.base|none=>.bO [])
def El.heap(e:El)(H:aJ):aJ:=match e.q with|some q=>cL H q.up e.base q.new|none=>H
structure El.Ok (P:Program) (S:fa) (ops:Array Oper) (T:List AV) (H:aJ) (e:El):Prop where
 op:ops[e.i]? =some e.o
 looks:∀t∈e.o.looksAt ops,Ref (T.getD t (.s .aF)) (e.T.getD t (.s .aF))
 guard:match e.o.guard with
  |none=>e.q.isSome=true|some (g,want)=>∃d,(ops[g]?).bind (·.dst)=some d/\((∃b,e.T.getD d (.s .aF)=.s (.ao b)/\e.q.isSome=(b==want))\/(e.T.getD d (.s .aF)=.bO []/\e.q=none))
 skip:e.q=none->e.rd=[]
 run:∀q,e.q=some q->(opR P (S e.base) (gy e.T) e.o).eval H=some q/\(opR P (S e.base) (gy e.T) e.o).ids H=e.rd/\bd q.aa/\∀j,j<q.new.length->H (e.base+j)=none
def m4(P:Program)(S:fa)(ops:Array Oper):List AV->aJ->List El->List AV->aJ->Prop
 |T,H,[],T',H'=>T=T'/\H=H'|T,H,e::es,T',H'=>e.Ok P S ops T H/\m4 P S ops (e.cI T) (e.heap H) es T' H'
structure aaI (ops:Array Oper) (x y:El):Prop where
 s1:∀d,x.o.dst=some d->d ∉ y.o.looksAt ops/\y.o.dst≠some d
 s2:∀d,y.o.dst=some d->d ∉ x.o.looksAt ops
 h1:∀id∈x.wr,id ∉ y.rd/\id ∉ y.wr
 h2:∀id∈y.wr,id ∉ x.rd
theorem El.xI(e:El)(T:List AV){t:Nat}(h:e.o.dst≠some t):(e.cI T).getD t (.s .aF)=T.getD t (.s .aF):=by
 unfold El.cI;cases hd:e.o.dst with
 |none=>rfl|some d=>
  simp only[cO];rw[cM,if_neg];rintro⟨rfl,_⟩;exact h hd
theorem aaJ{us:List (Nat×au)}{id:Nat}(h:id ∉ sj us):cD us id=none:=by
 induction us with
 |nil=>rfl|cons u us ih=>
  have⟨j,o⟩:=u;simp only[sj,map_cons,mem_cons,not_or]at h;simp only[cD];rw[ih h.2,if_neg (Ne.symm (Ne.symm h.1))]
theorem aaK{us:List (Nat×au)}{id:Nat}(h:id∈sj us):∃o,cD us id=some o:=by
 induction us with
 |nil=>simp[sj]at h|cons u us ih=>
  have⟨j,o⟩:=u;simp only[sj,map_cons,mem_cons]at h;simp only[cD];cases hf:cD us id with
  |some x=>exact⟨x,rfl⟩|none=>
   rcases h with rfl|h;simp;have⟨o,ho⟩:=ih h;rw[ho]at hf;cases hf
theorem El.hZ(e:El)(H:aJ){id:Nat}(h:id ∉ e.wr):e.heap H id=H id:=by
 unfold El.wr at h;unfold El.heap;cases hq:e.q with
 |some q=>
  rw[hq]at h;simp only[mem_append,not_or,mem_map,mem_range,not_exists,not_and]at h;simp only[cL,aaJ h.1];rw[if_neg];rintro⟨h1,h2⟩;exact h.2 (id - e.base) (by omega) (by omega)
 |none=>rfl
theorem El.adV(e:El)(H H':aJ){id:Nat}(h:id∈e.wr):e.heap H id=e.heap H' id:=by
 unfold El.wr at h;unfold El.heap;cases hq:e.q with
 |some q=>
  rw[hq]at h;simp only[mem_append,mem_map,mem_range]at h;simp only[cL];rcases h with h|⟨j,h1,rfl⟩;have⟨o,ho⟩:=aaK h;rw[ho];cases cD q.up (e.base+j)with
  |some o=>rfl|none=>simp[h1]
 |none=>rw[hq]at h;simp at h
theorem air{e:El}{q:bK}(hq:e.q=some q){j:Nat}(hj:j<q.new.length):e.base+j∈e.wr:=by
 unfold El.wr;rw[hq];simp only[mem_append,mem_map,mem_range];exact .inr ⟨j,hj,rfl⟩
theorem swap{T:List AV}{x y:El}(hx:x.Ok P S ops T H)(hy:y.Ok P S ops (x.cI T) (x.heap H))(hi:aaI ops x y):
 y.Ok P S ops T H/\x.Ok P S ops (y.cI T) (y.heap H)/\y.cI (x.cI T)=x.cI (y.cI T)/\y.heap (x.heap H)=x.heap (y.heap H):=by
 refine⟨⟨hy.op,λt ht=> ?_,hy.guard,hy.skip,λq hq=> ?_⟩,⟨hx.op,λt ht=> ?_,hx.guard,hx.skip,λq hq=> ?_⟩, ?_, ?_⟩;have:=hy.looks t ht;rwa[El.xI x T (λe=>(hi.s1 t e).1 ht)]at this;have⟨h1,h2,h3,h4⟩:=hy.run q hq
 have hc:=RM.eval_congr (H:=x.heap H) (H':=H) (opR P (S y.base) (gy y.T) y.o) (λid dU=>by
  rw[h2]at dU;exact(El.hZ x H (λhw=>(hi.h1 id hw).1 dU)).symm)
 refine⟨hc.1.trans h1,hc.2.trans h2,h3,λj hj=> ?_⟩;rw[<-h4 j hj];exact(El.hZ x H (λhw=>(hi.h1 _ hw).2 (air hq hj))).symm;rw[El.xI y T (λe=>hi.s2 t e ht)];exact hx.looks t ht;have⟨h1,h2,h3,h4⟩:=hx.run q hq
 have hc:=RM.eval_congr (H:=H) (H':=y.heap H) (opR P (S x.base) (gy x.T) x.o) (λid dU=>by
  rw[h2]at dU;exact El.hZ y H (λhw=>hi.h2 id hw dU))
 refine⟨hc.1.trans h1,hc.2.trans h2,h3,λj hj=> ?_⟩;rw[El.hZ y H (λhw=>(hi.h1 _ (air hq hj)).2 hw)];exact h4 j hj;unfold El.cI;cases hd:x.o.dst with
 |none=>rfl|some d=>
  cases hd':y.o.dst with
  |none=>rfl|some d'=>
   simp only[cO];exact List.set_comm _ _ (λe=>(hi.s1 d hd).2 (by rw[hd',e]))
 funext id;by_cases h1:id∈x.wr;rw[El.hZ y _ (hi.h1 id h1).2];exact El.adV x _ _ h1;rw[El.hZ x _ h1];by_cases h2:id∈y.wr;exact El.adV y _ _ h2;rw[El.hZ y _ h2,El.hZ y _ h2,El.hZ x _ h1]
theorem front{T':List AV}{H':aJ}{x:El}{post:List El}:∀(pre:List El) {T:List AV} {H:aJ},m4 P S ops T H (pre++x::post) T' H'->(∀e∈pre,aaI ops e x)->
 x.Ok P S ops T H/\m4 P S ops (x.cI T) (x.heap H) (pre++post) T' H'
 |[],T,H,h,_=>h|e::pre,T,H,h,hi=>by
  have⟨h1,h2⟩:=h;have⟨h3,h4⟩:=front pre h2 (λf hf=>hi f (by simp[hf]));have⟨h5,h6,h7,h8⟩:=swap h1 h3 (hi e (by simp));refine⟨h5,h6, ?_⟩;rw[h7,h8]at h4;exact h4
def oZ(ops:Array Oper)(e f:El):Prop:=e.i<f.i/\(gu ops f.i e.i=true\/aaI ops e f)
theorem lC.adW{T:List AV}(h:lC X ρ T H a w){d:Nat}{b:Bool}{Ti:List AV}(hr:Ref (T.getD d (.s .aF)) (Ti.getD d (.s .aF)))(hx:Ti.getD d (.s .aF)=.s (.ao b)):a.tmps[d]? =some (.bool b):=by
 have h1:=hr.den (h.den d);rw[hx]at h1;have h2:=aw (by simp) h1
 have a8:d<a.tmps.size:=by
  rcases lt_or_ge d a.tmps.size with h3|h3;exact h3;have:a.tmps.getD d undef=undef:=by simp[Array.getD,Nat.not_lt.2 h3]
  rw[this]at h2;cases h2
 have h4:a.tmps.getD d undef=a.tmps[d]:=by simp[Array.getD,a8]
 rw[h4]at h2;rw[Array.getElem?_eq_getElem a8];generalize a.tmps[d]=u at h2;cases h2;rfl
theorem lC.afF{T:List AV}(h:lC X ρ T H a w){d:Nat}{Ti:List AV}(hr:Ref (T.getD d (.s .aF)) (Ti.getD d (.s .aF)))(hx:Ti.getD d (.s .aF)=.bO []):∀b,a.tmps[d]? ≠some (.bool b):=by
 intro b hb;have h1:=hr.den (h.den d);rw[hx]at h1;have:a.tmps.getD d undef=.bool b:=by simp[getD_eq_getD_getElem?,hb]
 rw[this]at h1;unfold ae at h1;have⟨us,h5,_⟩:=h1;cases h5
theorem ais{o:Oper}{T Ti:List AV}(h:lC X ρ T H a w)(hl:∀t∈o.looksAt ops,Ref (T.getD t (.s .aF)) (Ti.getD t (.s .aF))):∀x∈o.op.operands,ae ρ H (aV ρ H X.G) w (gy Ti x) (a.eval x):=by
 intro x hx;cases x with
 |tmp t=>
  refine(hl t ?_).den (h.den t);simp only[Oper.looksAt,mem_append,List.mem_filterMap];exact .inl ⟨.tmp t,by simpa using hx,rfl⟩
 |const v=>exact uJ _ v|global g=>unfold gy ae;trivial|func f=>exact aC (.sM f)
theorem lC.skip{T:List AV}(h:lC X ρ T H a w)(dst:Option Tmp):lC X ρ (cO T dst (.bO [])) H (a.put dst undef) w:=by
 have⟨arr,df⟩:=a;have hp:=pP (ρ:=ρ) (H:=H) (O:=aV ρ H X.G) (w:=w) h.size h.den dst (r:=.bO []) (v:=undef) cv df;exact⟨h.sat,hp.1,hp.2,by have:=h.defers;cases dst<;>exact this,h.cu,h.iH,h.kept⟩
theorem adX(hS:SOk P S Z)(mu:cE Z X){T:List AV}{e:El}(he:e.Ok P S ops T H)(h:lC X ρ T H a w){Kn:Act->World->Prop}{Q:Exit->Act->World->Prop}
 (hK:∀aO a' w',lC X aO (e.cI T) (e.heap H) a' w'->Kn a' w'):wpOp P ops Q e.i Kn a w:=by
 unfold wpOp;rw[he.op];simp only[];cases hq:e.q with
 |some q=>
  have hw:Region.wanted e.o (yielded ops a.tmps)=true:=by
   have hg:=he.guard;split at hg;rename_i h0;simp[Region.wanted,h0];rename_i g want h0;have⟨d,h1,h2⟩:=hg;rcases h2 with⟨b,h2,h3⟩|⟨_,h3⟩;have hld:d∈e.o.looksAt ops:=by simp[Oper.looksAt,h0,h1]
   have:=h.adW (he.looks d hld) h2;rw[hq]at h3;simp only[Region.wanted,h0,yielded,h1,bind_some,this];simpa using h3.symm;rw[hq]at h3;cases h3
  rw[if_pos hw];have⟨h1,h2,h3,h4⟩:=he.run q hq;refine .inl (afD (h.op hS mu h1 h3 (ais h he.looks) h4) (λv w' ⟨aO,eu⟩=>hK aO _ w' ?_));simpa only[El.cI,El.heap,hq]using eu
 |none=>
  have hw:Region.wanted e.o (yielded ops a.tmps)=false:=by
   have hg:=he.guard;split at hg;rename_i h0;rw[hq]at hg;cases hg;rename_i g want h0;have⟨d,h1,h2⟩:=hg;have hld:d∈e.o.looksAt ops:=by simp[Oper.looksAt,h0,h1]
   rcases h2 with⟨b,h2,h3⟩|⟨h2,h3⟩;have:=h.adW (he.looks d hld) h2;rw[hq]at h3;simp only[Region.wanted,h0,yielded,h1,bind_some,this];have:(b==want)=false:=by simpa using h3.symm
   simpa using this;have:=h.afF (he.looks d hld) h2
   have hy:yielded ops a.tmps g=none:=by
    simp only[yielded,h1,bind_some]
    first
     |done
     |(split
       rename_i b hb;exact(this b hb).elim;rfl)
   simp only[Region.wanted,h0,hy];rfl
  rw[if_neg (by rw[hw];simp)];refine hK ρ _ w ?_;simpa only[El.cI,El.heap,hq]using h.skip e.o.dst
theorem iM{L:Nat->Prop}(hL:∀i o,ops[i]? =some o->L i->∀e∈o.after,Region.binds .any e=true->L e.on):∀(n:Nat) {i j:Nat} {o:Oper},ops[i]? =some o->(∀e∈o.after,Region.binds .any e=true->L e.on)->uH ops n i j=true->L j
 |0,i,j,o,ho,hd,h=>by cases h
 |n+1,i,j,o,ho,hd,h=>by
  simp only[uH,ho,Bool.or_eq_true,Array.any_eq_true]at h;rcases h with⟨k,hk,h⟩|⟨k,hk,h⟩;simp only[and_eq_true]at h;have:=hd _ (Array.getElem_mem hk) h.1;rwa[Nat.eq_of_beq_eq_true h.2]at this;simp only[and_eq_true]at h;have h1:=hd _ (Array.getElem_mem hk) h.1.1;cases c5:ops[(o.after[k]).on]? with
  |none=>
   have h2:=h.2;cases n with
   |zero=>cases h2
   |succ n=>simp only[uH,c5]at h2;cases h2
  |some o'=>exact iM hL n c5 (hL _ o' c5 h1) h.2
theorem yN(hS:SOk P S Z)(mu:cE Z X)(heb:dL ops=true){T':List AV}{H':aJ}{Q:Exit->Act->World->Prop}(hQ:∀aO a' w',lC X aO T' H' a' w'->Q .normal a' w'):
 ∀(fuel:Nat) (listed:Array Bool) (es:List El) (T:List AV) (H:aJ) (ρ:Nat->Value) (a:Act) (w:World),es.length=fuel->listed.size=ops.size->es.Pairwise (oZ ops)->
 (∀i,i<ops.size->(listed.getD i true=false↔ ∃e∈es,e.i=i))->(∀i o,ops[i]? =some o->listed.getD i false=true->∀e∈o.after,Region.binds .any e=true->listed.getD e.on false=true)->lC X ρ T H a w->m4 P S ops T H es T' H'->wpAny P .any ops Q fuel listed a w:=by
 have fU:∀(listed:Array Bool) (i:Nat),i∈Region.ready .any ops listed->i<ops.size/\listed.getD i true=false/\∃o,ops[i]? =some o/\∀e∈o.after,Region.binds .any e=true->listed.getD e.on false=true:=by
  intro listed i hi;simp only[Region.ready,List.mem_filter,mem_range,and_eq_true]at hi;have⟨h1,h2,h3⟩:=hi;refine⟨h1,by simpa using h2, ?_⟩;cases ho:ops[i]? with
  |none=>rw[ho]at h3;simp at h3|some o=>
   rw[ho]at h3;simp only[map_some,getD_some,Array.all_eq_true]at h3;refine⟨o,rfl,λe he hb=> ?_⟩;obtain⟨n,hn,rfl⟩:=Array.mem_iff_getElem.1 he;have:=h3 n hn;rw[hb]at this;simpa using this
 have stop:∀(listed:Array Bool) (es:List El) (T:List AV) (H:aJ),listed.size=ops.size->es.Pairwise (oZ ops)->(∀i,i<ops.size->(listed.getD i true=false↔ ∃e∈es,e.i=i))->
  m4 P S ops T H es T' H'->Region.ready .any ops listed=[]->es=[]:=by
  intro listed es T H cn hp hl hc hr;cases es with
  |nil=>rfl|cons e es=>
   exfalso;have ho:=hc.1.op;have a8:e.i<ops.size:=(Array.getElem?_eq_some_iff.1 ho).1
   have jt:e.i∈Region.ready .any ops listed:=by
    simp only[Region.ready,List.mem_filter,mem_range,and_eq_true];refine⟨a8,by simpa using(hl e.i a8).2 ⟨e,by simp,rfl⟩, ?_⟩;rw[ho];simp only[map_some,getD_some,Array.all_eq_true];intro n hn;have hb:dL ops=true:=heb;simp only[dL,all_eq_true,mem_range]at hb;have hb:=hb e.i a8;rw[ho]at hb;simp only[Array.all_eq_true]at hb;have hb:=hb n hn;cases hbi:Region.binds .any (e.o.after[n])with
    |false=>simp|true=>
     rw[hbi]at hb;have hon:(e.o.after[n]).on<e.i:=by simpa[Nat.blt,Nat.lt_iff_add_one_le]using hb
     have cG:¬(listed.getD (e.o.after[n]).on true=false):=by
      intro hf;have⟨f,hf1,hf2⟩:=(hl _ (by omega)).1 hf;rcases mem_cons.1 hf1 with rfl|hf1;omega;have:=(List.pairwise_cons.1 hp).1 f hf1;have:=this.1;omega
     have c9:(e.o.after[n]).on<listed.size:=by omega
     simp only[Array.getD,c9,dif_pos]at cG ⊢;simpa using cG
   rw[hr]at jt;simp at jt
 intro fuel
 induction fuel with
 |zero=>
  intro listed es T H ρ a w bL cn hp hl hdc acF hc;obtain rfl:es=[]:=List.length_eq_zero_iff.1 bL;obtain⟨rfl,rfl⟩:=hc;refine⟨?_,hQ _ _ _ acF⟩;rw[List.eq_nil_iff_forall_not_mem];intro i hi;have⟨h1,h2,_⟩:=fU listed i hi;have⟨e,he,_⟩:=(hl i h1).1 h2;simp at he
 |succ fuel ih=>
  intro listed es T H ρ a w bL cn hp hl hdc acF hc;refine⟨λhr=> ?_,λi hi=> ?_⟩;obtain rfl:=stop listed es T H cn hp hl hc hr;simp at bL;have⟨h1,h2,o,ho,h3⟩:=fU listed i hi;obtain⟨f,hf,rfl⟩:=(hl i h1).1 h2;obtain⟨pre,post,rfl⟩:=List.append_of_mem hf;have gz:∀e∈pre,oZ ops e f:=λe he=>(List.pairwise_append.1 hp).2.2 e he f (by simp)
  have aoF:∀e∈pre,aaI ops e f:=by
   intro e he;rcases(gz e he).2 with h4|h4;exfalso;have h8:listed.getD e.i false=true:=iM (L:=λi=>listed.getD i false=true) hdc 9 ho h3 h4;have a8:e.i<ops.size:=by have:=(gz e he).1;omega
   have h9:=(hl e.i a8).2 ⟨e,by simp[he],rfl⟩;have c9:e.i<listed.size:=by omega
   simp only[Array.getD,c9,dif_pos]at h8 h9;rw[h8]at h9;cases h9;exact h4
  have⟨hok,hch⟩:=front pre hc aoF;refine adX hS mu hok acF (λaO a' w' eu=> ?_)
  have eT:∀j,listed.getD j false=true->(listed.setIfInBounds f.i true).getD j false=true:=λj hj=>by
   simp only[getD_eq_getD_getElem?,Array.getElem?_setIfInBounds]at hj ⊢;split;split<;>simp_all;exact hj
  have aoG:∀i o,ops[i]? =some o->(listed.setIfInBounds f.i true).getD i false=true->∀e∈o.after,Region.binds .any e=true->(listed.setIfInBounds f.i true).getD e.on false=true:=by
   intro i o' c5 ep e he hb;by_cases hif:i=f.i;subst hif;rw[ho]at c5;cases c5;exact eT _ (h3 e he hb);refine eT _ (hdc i o' c5 ?_ e he hb);simp only[getD_eq_getD_getElem?,Array.getElem?_setIfInBounds,if_neg (Ne.symm hif)]at ep ⊢;exact ep
  refine ih _ (pre++post) _ _ aO a' w' ?_ (by simp[cn]) ?_ ?_ aoG eu hch;simp only[length_append,length_cons]at bL ⊢;omega;exact hp.sublist (List.Sublist.append (List.Sublist.refl _) (List.sublist_cons_self _ _));intro j hj
  have aid:∀e∈pre++post,e.i≠f.i:=by
   intro e he;rcases mem_append.1 he with he|he;have:=(gz e he).1;omega;have:=(List.pairwise_cons.1 (List.pairwise_append.1 hp).2.1).1 e he;have:=this.1;omega
  have c9:j<listed.size:=by omega
  have aoH:(listed.setIfInBounds f.i true).getD j true=if j=f.i then true else listed.getD j true:=by
   simp only[getD_eq_getD_getElem?,Array.getElem?_setIfInBounds];by_cases yO:f.i=j;subst yO;simp[c9];simp[yO,Ne.symm yO]
  rw[aoH];by_cases yO:j=f.i;subst yO;simp only[if_true,Bool.true_eq_false,false_iff,not_exists,not_and];exact aid;rw[if_neg yO,hl j hj];constructor;rintro⟨e,he,rfl⟩;refine⟨e, ?_,rfl⟩;simp only[mem_append,mem_cons]at he ⊢;rcases he with he|rfl|he;exact .inl he;exact(yO rfl).elim;exact .inr he;rintro⟨e,he,rfl⟩;refine⟨e, ?_,rfl⟩;simp only[mem_append,mem_cons]at he ⊢;rcases he with he|he;exact .inl he;exact .inr (.inr he)
def El.mm(e:El):Touch:=⟨e.i,e.rd,e.wr⟩
theorem gA:∀(tr:List Touch),iG ops tr=true->tr.Pairwise (λb a=>a.adR b=false\/gu ops b.i a.i=true)
 |[],_=>.nil|b::aI,h=>by
  simp only[iG,and_eq_true,all_eq_true,Bool.or_eq_true,Bool.not_eq_true']at h;exact .cons (λa ha=>h.1 a ha) (gA aI h.2)
theorem Touch.uL{a b:Touch}(h:a.adR b=false):(∀id∈a.wr,id ∉ b.rd/\id ∉ b.wr)/\∀id∈b.wr,id ∉ a.rd:=by
 simp only[Touch.adR,Bool.or_eq_false_iff,List.any_eq_false,Bool.or_eq_true,List.contains_iff_mem,not_or]at h;exact h
theorem adY{T T':List AV}(bL:T.length=T'.length)(h:∀t,Ref (T.getD t (.s .aF)) (T'.getD t (.s .aF)))(dst:Option Tmp)(x:AV):∀t,Ref ((cO T dst x).getD t (.s .aF)) ((cO T' dst x).getD t (.s .aF)):=by
 intro t;cases dst with
 |none=>exact h t|some d=>
  simp only[cO];rw[cM,cM,bL];split;exact .inl rfl;exact h t
theorem m5(T:List AV)(dst:Option Tmp)(x:AV):(cO T dst x).length=T.length:=by cases dst<;>simp[cO]
theorem gv{cont:St->List Touch->Tree}:∀(l:List Oper) (i:Nat) (s:St) (tr:List Touch) (T:List AV),(∀j o,l[j]? =some o->ops[i+j]? =some o)->(kJ P S ops cont i l s tr).Holds K C->
 T.length=s.tmps.length->(∀t,Ref (T.getD t (.s .aF)) (s.tmps.getD t (.s .aF)))->
 ∃es s' pq T',(cont s' pq).Holds K C/\m4 P S ops T s.look es T' s'.look/\T'.length=s'.tmps.length/\(∀t,Ref (T'.getD t (.s .aF)) (s'.tmps.getD t (.s .aF)))/\
  es.map El.i=range' i l.length/\pq=((es.filter (λe=>e.q.isSome)).map El.mm).reverse++tr
 |[],i,s,tr,T,_,h,bL,hT=>⟨[],s,tr,T,h,⟨rfl,rfl⟩,bL,hT,rfl,rfl⟩|o::rest,i,s,tr,T,hl,h,bL,hT=>by
  have ho:ops[i]? =some o:=by simpa using hl 0 o (by simp)
  have hl':∀j o',rest[j]? =some o'->ops[i+1+j]? =some o':=λj o' hj=>by
   have:=hl (j+1) o' (by simpa using hj);rwa[show i+(j+1)=i+1+j from by omega]at this
  have m6:∀(s:St),T.length=s.tmps.length->(∀t,Ref (T.getD t (.s .aF)) (s.tmps.getD t (.s .aF)))->
   (match o.guard with|none=>True|some (g,want)=>∃d,(ops[g]?).bind (·.dst)=some d/\s.tmps.getD d (.s .aF)=.s (.ao want))->
   (match(opR P (S s.H.length) (gy s.tmps) o).eval s.look with
     |some r=>bif xH s.H.length r.up then Tree.xG r.aa (kJ P S ops cont (i+1) rest (s.put o.dst r) (⟨i,(opR P (S s.H.length) (gy s.tmps) o).ids s.look,sj r.up++(List.range r.new.length).map (s.H.length+·)⟩::tr))else .stuck ""|none=>.stuck (o.pos++ " " ++(opR P (S s.H.length) (gy s.tmps) o).why s.look)).Holds K C->
   ∃es s' pq T',(cont s' pq).Holds K C/\m4 P S ops T s.look es T' s'.look/\T'.length=s'.tmps.length/\(∀t,Ref (T'.getD t (.s .aF)) (s'.tmps.getD t (.s .aF)))/\
    es.map El.i=range' i (o::rest).length/\pq=((es.filter (λe=>e.q.isSome)).map El.mm).reverse++tr:=by
   intro s bL hT hg h;split at h;rename_i q hq;rw[Bool.cond_eq_ite]at h;split at h;rename_i hup;have⟨hn,h2⟩:=m0 _ _ h;let e:El:=⟨i,o,s.tmps,some q,s.H.length,(opR P (S s.H.length) (gy s.tmps) o).ids s.look⟩;have⟨es,s',pq,T',g1,g2,g3,g4,g5,g6⟩:=gv rest (i+1) _ _ (e.cI T) hl' h2 (by simp[El.cI,St.put,m5,bL]) (adY bL hT o.dst _);refine⟨e::es,s',pq,T',g1,⟨⟨ho,λt _=>hT t, ?_,λhq'=>by simp[e]at hq',λq' hq'=> ?_⟩, ?_⟩,g3,g4, ?_, ?_⟩;show match o.guard with|none=>_|some (g,want)=>_
   split;rfl;rename_i g want h0;rw[h0]at hg;have⟨d,h5,h6⟩:=hg;exact⟨d,h5,.inl ⟨want,h6,by simp[e]⟩⟩;obtain rfl:q=q':=by simpa[e]using hq'
   exact⟨hq,rfl,hn,λj _=>by simp[St.look,e]⟩;have:e.heap s.look=(s.put o.dst q).look:=(uK s o.dst q (aiq hup)).symm;rw[this];exact g2;simp[g5,List.range'_succ,e];rw[g6];simp[e,El.mm,El.wr];exact h.elim;exact h.elim
  have m7:∀(s:St),T.length=s.tmps.length->(∀t,Ref (T.getD t (.s .aF)) (s.tmps.getD t (.s .aF)))->
   (∃g want d,o.guard=some (g,want)/\(ops[g]?).bind (·.dst)=some d/\(s.tmps.getD d (.s .aF)=.s (.ao (!want))\/s.tmps.getD d (.s .aF)=.bO []))->
   (kJ P S ops cont (i+1) rest {s with tmps:=cO s.tmps o.dst (.bO [])} tr).Holds K C->
   ∃es s' pq T',(cont s' pq).Holds K C/\m4 P S ops T s.look es T' s'.look/\T'.length=s'.tmps.length/\(∀t,Ref (T'.getD t (.s .aF)) (s'.tmps.getD t (.s .aF)))/\
    es.map El.i=range' i (o::rest).length/\pq=((es.filter (λe=>e.q.isSome)).map El.mm).reverse++tr:=by
   intro s bL hT hg h;let e:El:=⟨i,o,s.tmps,none,s.H.length,[]⟩;have⟨es,s',pq,T',g1,g2,g3,g4,g5,g6⟩:=gv rest (i+1) _ _ (e.cI T) hl' h (by simp[El.cI,m5,bL]) (adY bL hT o.dst _);refine⟨e::es,s',pq,T',g1,⟨⟨ho,λt _=>hT t, ?_,λ_=>rfl,λq' hq'=>by simp[e]at hq'⟩,g2⟩,g3,g4, ?_, ?_⟩;show match o.guard with|none=>_|some (g,want)=>_
   have⟨g,want,d,h0,h5,h6⟩:=hg;rw[h0];refine⟨d,h5, ?_⟩;rcases h6 with h6|h6;exact .inl ⟨!want,h6,by cases want<;>rfl⟩;exact .inr ⟨h6,rfl⟩;simp[g5,List.range'_succ,e];rw[g6];simp[e]
  have mQ:∀{d:Nat} {b:Bool},s.tmps.getD d (.s .aF)=.s (.bool b)->d<s.tmps.length:=by
   intro d b hb;rcases lt_or_ge d s.tmps.length with h3|h3;exact h3;rw[List.getD,getElem?_eq_none h3]at hb;simp at hb
  have alX:∀{d:Nat} {b:Bool},s.tmps.getD d (.s .aF)=.s (.bool b)->∀t,Ref (T.getD t (.s .aF)) ((s.tmps.set d (.s (.ao b))).getD t (.s .aF)):=by
   intro d b hb t;rw[cM];split;rename_i hc;obtain⟨rfl,_⟩:=hc;exact(hT t).trans (.inr ⟨b,hb,rfl⟩);exact hT t
  unfold kJ at h;simp only[]at h;split at h;rename_i hg;exact m6 s bL hT (by rw[hg];trivial) h;rename_i g want hg;split at h;exact h.elim;rename_i d hd;split at h;rename_i b hb;rw[Bool.cond_eq_ite]at h;split at h;rename_i hbw;obtain rfl:b=want:=by simpa using hbw
  exact m6 s bL hT (by rw[hg];exact⟨d,hd,hb⟩) h;rename_i hbw;refine m7 s bL hT ⟨g,want,d,hg,hd,.inl ?_⟩ h;rw[hb];cases b<;>cases want<;>simp_all;rename_i b hb;have a8:=mQ hb;have hr2:=alX hb;have adZ:∀c:Bool,(s.tmps.set d (.s (.ao c))).getD d (.s .aF)=.s (.ao c):=λc=>by simp[List.getD,a8]
  have⟨h1,h2⟩:=h;cases b;have h2:=h2 rfl;cases want;exact m6 {s with tmps:=s.tmps.set d (.s (.ao false))} (by simpa using bL) hr2 (by rw[hg];exact⟨d,hd,adZ _⟩) h2;exact m7 {s with tmps:=s.tmps.set d (.s (.ao false))} (by simpa using bL) hr2 ⟨g,true,d,hg,hd,.inl (adZ _)⟩ h2;have h1:=h1 rfl;cases want;exact m7 {s with tmps:=s.tmps.set d (.s (.ao true))} (by simpa using bL) hr2 ⟨g,false,d,hg,hd,.inl (adZ _)⟩ h1;exact m6 {s with tmps:=s.tmps.set d (.s (.ao true))} (by simpa using bL) hr2 (by rw[hg];exact⟨d,hd,adZ _⟩) h1;rename_i hb;exact m7 s bL hT ⟨g,want,d,hg,hd,.inr hb⟩ h;exact h.elim
theorem jV{T':List AV}{H':aJ}:∀{es:List El} {T:List AV} {H:aJ},m4 P S ops T H es T' H'->∀e∈es,e.q=none->e.rd=[]
 |[],_,_,_,e,he=>by simp at he
 |x::es,T,H,h,e,he=>by
  rcases mem_cons.1 he with rfl|he;exact h.1.skip;exact jV h.2 e he
theorem uM{T':List AV}{H':aJ}:∀{es:List El} {T:List AV} {H:aJ},m4 P S ops T H es T' H'->∀e∈es,ops[e.i]? =some e.o
 |[],_,_,_,e,he=>by simp at he
 |x::es,T,H,h,e,he=>by
  rcases mem_cons.1 he with rfl|he;exact h.1.op;exact uM h.2 e he
theorem sk(hso:hM ops=true){e f:El}(he:ops[e.i]? =some e.o)(hf:ops[f.i]? =some f.o)(a8:e.i<f.i)(hna:gu ops f.i e.i=false):
 (∀d,e.o.dst=some d->d ∉ f.o.looksAt ops/\f.o.dst≠some d)/\(∀d,f.o.dst=some d->d ∉ e.o.looksAt ops):=by
 have hei:e.i<ops.size:=(Array.getElem?_eq_some_iff.1 he).1;have hfi:f.i<ops.size:=(Array.getElem?_eq_some_iff.1 hf).1;simp only[hM,all_eq_true,mem_range]at hso;refine⟨λd hd=> ?_,λd hd=> ?_⟩;have:=hso e.i hei f.i hfi;rw[he,hf]at this;simp only[hd,a8,if_true,hna,Bool.or_false,Bool.or_eq_true,beq_iff_eq,and_eq_true,Bool.not_eq_true']at this;rcases this with h|⟨h1,h2⟩;omega;refine⟨λhm=> ?_,λhm=> ?_⟩;rw[List.contains_iff_mem.2 hm]at h1;cases h1;rw[hm]at h2;simp at h2;have:=hso f.i hfi e.i hei;rw[he,hf]at this;simp only[hd,Nat.not_lt.2 (Nat.le_of_lt a8),if_false,hna,Bool.or_false,Bool.or_eq_true,beq_iff_eq,and_eq_true,Bool.not_eq_true']at this;rcases this with h|⟨h1,h2⟩;omega;intro hm;rw[List.contains_iff_mem.2 hm]at h1;cases h1
theorem yP(hS:SOk P S Z)(mu:cE Z X){cont:St->List Touch->Tree}(hso:hM ops=true)(heb:dL ops=true)(h:(kJ P S ops cont 0 ops.toList s []).Holds K C)(hcl:∀s' pq,(cont s' pq).Holds K C->iG ops pq=true)
 {Q:Act->World->Prop} (hQ:∀aO s' pq a' w',(cont s' pq).Holds K C->b8 X aO s' a' w'->Q a' w') (hr:b8 X ρ s a w):wpAny P .any ops (λe a' w'=>e=.normal/\Q a' w') ops.size (Array.replicate ops.size false) a w:=by
 have⟨es,s',pq,T',g1,g2,g3,g4,g5,g6⟩:=gv ops.toList 0 s [] s.tmps (by simp) h rfl (λt=>.inl rfl);have hcf:=gA _ (hcl _ _ g1);rw[g6,append_nil,List.pairwise_reverse,List.pairwise_map,List.pairwise_filter]at hcf;have hop:=uM g2
 have aau:es.Pairwise (λe f=>e.i<f.i):=by
  have:(es.map El.i).Pairwise (· < ·):=by rw[g5];exact List.pairwise_lt_range'
  rwa[List.pairwise_map]at this
 have yQ:es.Pairwise (oZ ops):=by
  refine(hcf.and aau).imp_of_mem (λ{e f} he hf ⟨hc,a8⟩=>⟨a8, ?_⟩);cases hna:gu ops f.i e.i with
  |true=>exact .inl rfl|false=>
   refine .inr ?_;have⟨s1,s2⟩:=sk hso (hop e he) (hop f hf) a8 hna
   have hh:(∀id∈e.wr,id ∉ f.rd/\id ∉ f.wr)/\∀id∈f.wr,id ∉ e.rd:=by
    cases hqe:e.q with
    |none=>
     have e1:e.wr=[]:=by simp[El.wr,hqe]
     have e2:=jV g2 e he hqe;exact⟨λid dU=>by rw[e1]at dU;simp at dU,λid _=>by rw[e2];simp⟩
    |some qe=>
     cases hqf:f.q with
     |none=>
      have e1:f.wr=[]:=by simp[El.wr,hqf]
      have e2:=jV g2 f hf hqf;exact⟨λid _=>by rw[e1,e2];simp,λid dU=>by rw[e1]at dU;simp at dU⟩
     |some qf=>
      rcases hc (by rw[hqe];rfl) (by rw[hqf];rfl)with h1|h1;exact Touch.uL (a:=e.mm) (b:=f.mm) h1;exact(by rw[show f.mm.i=f.i from rfl,show e.mm.i=e.i from rfl,hna]at h1;cases h1)
   exact⟨s1,s2,hh.1,hh.2⟩
 have bL:es.length=ops.size:=by
  have:=congrArg List.length g5;simpa using this
 refine yN hS mu heb (λaO a' w' eu=>⟨rfl,hQ aO s' pq a' w' g1 ⟨eu.sat,g3▸eu.size,λt=>(g4 t).den (eu.den t),eu.defers,eu.cu,eu.iH,eu.kept⟩⟩) ops.size _ es s.tmps s.look ρ a w bL (by simp) yQ ?_ (λi o _ hi=>by rw[getD_eq_getD_getElem?,Array.getElem?_replicate]at hi;split at hi<;>simp at hi) hr.toF g2;intro i hi;have:i∈es.map El.i:=by rw[g5];simp[List.mem_range'];omega
 obtain⟨e,he,rfl⟩:=mem_map.1 this;simp only[getD_eq_getD_getElem?,Array.getElem?_replicate,hi,if_true,getD_some,true_iff];exact⟨e,he,rfl⟩
end
section
variable{ρ aO:Nat->Value}{H H':aJ}{G O O':Nat->Prop}{w w':World}{P:Program}{S:fa}{Z:aP}{X:Ctx}{s:St}{a:Act}{K:List au->AV->Prop}{C:aR->Prop}{ops:Array Oper}
structure ju (n:Nat) (rest:List Value) (Ds:List Nat) (a t:Act):Prop where
 sl:∃v0,a.tmps.toList=v0++rest/\t.tmps=v0.toArray/\v0.length=n
 df:t.defers=a.defers++Ds.map oE
theorem ju.get{n:Nat}{rest:List Value}{Ds:List Nat}{a t:Act}(h:ju n rest Ds a t){j:Nat}(hj:rest=[]\/j<n):t.tmps[j]? =a.tmps[j]? :=by
 have⟨v0,h1,h2,h3⟩:=h.sl;have e:a.tmps[j]? =(v0++rest)[j]? :=by rw[<-h1,Array.getElem?_toList]
 rw[e,h2,List.getElem?_toArray];rcases hj with rfl|hj;rw[append_nil];rw[getElem?_append_left (by omega)]
theorem ju.eval{n:Nat}{rest:List Value}{Ds:List Nat}{a t:Act}(h:ju n rest Ds a t){x:Operand}(hx:rest=[]\/∀j,x=.tmp j->j<n):t.eval x=a.eval x:=by
 cases x with
 |tmp j=>
  show t.tmps.getD j undef=a.tmps.getD j undef;rw[getD_eq_getD_getElem?,getD_eq_getD_getElem?,h.get (hx.imp id λg=>g j rfl)]
 |const v=>rfl|global g=>rfl|func f=>rfl
theorem ju.put{n:Nat}{rest:List Value}{Ds:List Nat}{a t:Act}(h:ju n rest Ds a t){dst:Option Tmp}(hd:rest=[]\/∀d,dst=some d->d<n)(v:Value):ju n rest Ds (a.put dst v) (t.put dst v):=by
 cases dst with
 |none=>exact h|some d=>
  have⟨v0,h1,h2,h3⟩:=h.sl;refine⟨⟨v0.set d v, ?_, ?_,by simp[h3]⟩,h.df⟩;show(a.tmps.setIfInBounds d v).toList=_;rw[Array.toList_setIfInBounds,h1];rcases hd with rfl|hd;simp;rw[List.set_append_left _ _ (h3▸hd d rfl)];show t.tmps.setIfInBounds d v=_;rw[h2];simp
theorem ad0{R:Value->World->Prop}{i:Nat}{rest:List Nat}{o:Oper}(ho:ops[i]? =some o)(hw:Region.wanted o (yielded ops a.tmps)=true)(gl:∀c,o.op≠.defer c)(h:Yields P o a.eval w R)(b:Frame)(k:List Item)(cs:List Frame):
 ∃v w',R v w'/\Steps P (lone (b.atR a (.inRegion ops (i::rest)::k)) cs w) (lone (b.atR (a.put o.dst v) (.inRegion ops rest::k)) cs w'):=by
 have hg:=stepGR_op (P:=P) (b:=b) (k:=k) (cs:=cs) (w:=w) (rest:=rest) ho hw;rw[Oper.semAt_eq _ _ _ gl]at hg
 have rF:∀v,(b.atR a (.inRegion ops (i::rest)::k)).finish v=b.atR (a.put o.dst v) (.inRegion ops rest::k):=by
  intro v;rw[Frame.finish_atR,ho];rfl
 unfold Yields at h;split at h;rename_i v w' hr;refine⟨v,w',h,.one (step_lone_go ?_)⟩;rw[hg,<-rF];simp[stepG.apply,hr];rename_i w' hr;refine⟨undef,w',h,.one (step_lone_go ?_)⟩;rw[hg,<-rF];simp[stepG.apply,hr];rename_i f args w' hr;obtain⟨e,w2,fr,⟨v,rfl,hv⟩,h2,h3,h4⟩:=h (b.atR a (.inRegion ops (i::rest)::k)::cs);have eI:step P (lone (b.atR a (.inRegion ops (i::rest)::k)) cs w)=
  .next (lone (Frame.enter P f args .normal) (b.atR a (.inRegion ops (i::rest)::k)::cs) w'):=
  step_lone_go (by rw[hg];simp[stepG.apply,hr,Frame.atR])
 refine⟨v,w2,hv,.head eI (Steps.trans h2 (.one ?_))⟩;rw[<-rF];exact step_leave_returned h4;exact h.elim
theorem yR{i:Nat}{rest:List Nat}{o:Oper}(ho:ops[i]? =some o)(hw:Region.wanted o (yielded ops a.tmps)=false)(b:Frame)(k:List Item)(cs:List Frame):
 step P (lone (b.atR a (.inRegion ops (i::rest)::k)) cs w)=.next (lone (b.atR (a.put o.dst undef) (.inRegion ops rest::k)) cs w):=by
 have:=stepR_op_skip (P:=P) (b:=b) (a:=a) (k:=k) (cs:=cs) (w:=w) (ops:=ops) (i:=i) (rest:=rest) (by simp[ho];simpa using hw);simpa[ho]using this
theorem ait{i:Nat}{rest:List Nat}{o:Oper}(ho:ops[i]? =some o)(hw:Region.wanted o (yielded ops a.tmps)=true)(gl:∀c,o.op≠.defer c){f:FuncId}{args:Array Value}(h:(execOp a.eval o).run P w=.ok (.enter f args) w')(b:Frame)(k:List Item)(cs:List Frame):
 step P (lone (b.atR a (.inRegion ops (i::rest)::k)) cs w)=.next (lone (Frame.enter P f args .normal) (b.atR a (.inRegion ops (i::rest)::k)::cs) w'):=by
 have hg:=stepGR_op (P:=P) (b:=b) (k:=k) (cs:=cs) (w:=w) (rest:=rest) ho hw;rw[Oper.semAt_eq _ _ _ gl]at hg;exact step_lone_go (by rw[hg];simp[stepG.apply,h,Frame.atR])
theorem aiu{i:Nat}{rest:List Nat}{o:Oper}(ho:ops[i]? =some o)(hw:Region.wanted o (yielded ops a.tmps)=true)(gl:∀c,o.op≠.defer c){l:Nat}{f:FuncId}{tmps:Array Value}{yI body:Code}(h:(execOp a.eval o).run P w=.ok (.round l f tmps yI body) w')(b:Frame)(k:List Item)(cs:List Frame):
 step P (lone (b.atR a (.inRegion ops (i::rest)::k)) cs w)=.next (lone (Frame.round l f tmps yI body .normal) (b.atR a (.inRegion ops (i::rest)::k)::cs) w'):=by
 have hg:=stepGR_op (P:=P) (b:=b) (k:=k) (cs:=cs) (w:=w) (rest:=rest) ho hw;rw[Oper.semAt_eq _ _ _ gl]at hg;exact step_lone_go (by rw[hg];simp[stepG.apply,h])
theorem m8(h:iK ops=true){i:Nat}{o:Oper}(ho:ops[i]? =some o):∀c,o.op≠.defer c:=by
 intro c hc;simp only[iK,all_eq_true]at h;have:=h o (by rw[<-Array.getElem?_toList]at ho;exact List.mem_of_getElem? ho);rw[hc]at this;cases this
theorem gM{Q:Exit->Act->World->Prop}(gl:iK ops=true)(hQ:∀e a w,Q e a w->e=.normal):∀(l:List Nat) (a:Act) (w:World),wpOps P ops Q l a w->∀(b:Frame) (k:List Item) (cs:List Frame),
 ∃a' w',Q .normal a' w'/\Steps P (lone (b.atR a (.inRegion ops l::k)) cs w) (lone (b.atR a' k) cs w')
 |[],a,w,h,b,k,cs=>⟨a,w,h,.one stepR_region_end⟩|i::rest,a,w,h,b,k,cs=>by
  simp only[wpOps]at h;split at h;rename_i ho;have⟨a',w',h1,h2⟩:=gM gl hQ rest a w h b k cs;have hs:=stepR_op_skip (P:=P) (b:=b) (a:=a) (k:=k) (cs:=cs) (w:=w) (ops:=ops) (i:=i) (rest:=rest) (by simp[ho]);simp only[ho,Option.bind_none,Act.put]at hs;exact⟨a',w',h1,.head hs h2⟩;rename_i o ho;by_cases hw:Region.wanted o (yielded ops a.tmps)=true;rw[if_pos hw]at h;rcases h with h|⟨_,a0,w0,hq⟩;unfold Oper.wp Oper.upon at h;have hg:=stepGR_op (P:=P) (b:=b) (k:=k) (cs:=cs) (w:=w) (rest:=rest) ho hw;rw[Oper.semAt_eq _ _ _ (m8 gl ho)]at hg
  have rF:∀v,(b.atR a (.inRegion ops (i::rest)::k)).finish v=b.atR (a.put o.dst v) (.inRegion ops rest::k):=by
   intro v;rw[Frame.finish_atR,ho];rfl
  split at h;rename_i v w' hr;have⟨a',w2,h1,h2⟩:=gM gl hQ rest _ _ h b k cs;refine⟨a',w2,h1,.head (step_lone_go ?_) h2⟩;rw[hg,<-rF];simp[stepG.apply,hr];rename_i w' hr;have⟨a',w2,h1,h2⟩:=gM gl hQ rest _ _ h b k cs;refine⟨a',w2,h1,.head (step_lone_go ?_) h2⟩;rw[hg,<-rF];simp[stepG.apply,hr];rename_i d w' hr;have⟨a',w2,h1,h2⟩:=gM gl hQ rest _ _ h b k cs;refine⟨a',w2,h1,.head (step_lone_go ?_) h2⟩;have:({b.atR a (.inRegion ops (i::rest)::k)with defers:=d::a.defers}:Frame).finish undef=
   b.atR ({a with defers:=d::a.defers}.put o.dst undef) (.inRegion ops rest::k):=by
   have:=Frame.finish_atR b {a with defers:=d::a.defers} ops i rest k undef;rw[ho]at this;exact this
  rw[hg];simp only[stepG.apply,Sem.runT_eq,hr,GStep.bare_after];exact congrArg (λfr=>GStep.go {frame:=fr,callers:=cs,status:=.running,dying:=none} w') this;rename_i f args w' hr;have⟨e,w2,fr,hR,jW,hfn,kO⟩:=h (b.atR a (.inRegion ops (i::rest)::k)::cs);have eI:step P (lone (b.atR a (.inRegion ops (i::rest)::k)) cs w)=
   .next (lone (Frame.enter P f args .normal) (b.atR a (.inRegion ops (i::rest)::k)::cs) w'):=
   step_lone_go (by rw[hg];simp[stepG.apply,hr,Frame.atR])
  cases e with
  |returned v=>
   have⟨a',w3,h1,h2⟩:=gM gl hQ rest _ _ hR b k cs;refine⟨a',w3,h1,.head eI (Steps.trans jW (.head ?_ h2))⟩;rw[<-rF];exact step_leave_returned kO
  |panicked chain=>cases hQ _ _ _ hR
  |outgrown=>
   have⟨a0,w0,hq⟩:=hR;cases hQ _ _ _ hq
  rename_i row args w' hr;have⟨v,w2,hR,jW⟩:=h (b.atR a (.inRegion ops (i::rest)::k)) cs;have eI:step P (lone (b.atR a (.inRegion ops (i::rest)::k)) cs w)=
   .next (lone (Frame.ofRow P row args .normal) (b.atR a (.inRegion ops (i::rest)::k)::cs) w'):=
   step_lone_go (by rw[hg];simp[stepG.apply,hr,Frame.atR])
  have⟨a',w3,h1,h2⟩:=gM gl hQ rest _ _ hR b k cs;refine⟨a',w3,h1,.head eI (Steps.trans jW ?_)⟩;rw[rF];exact h2;cases hQ _ _ _ h;exact h.elim;cases hQ _ _ _ hq;rw[if_neg hw]at h;have⟨a',w',h1,h2⟩:=gM gl hQ rest _ _ h b k cs;exact⟨a',w',h1,.head (yR ho (by simpa using hw) b k cs) h2⟩
theorem fG{more:List Nat}{Q:Exit->Act->World->Prop}(gl:iK ops=true)(hQ:∀e a w,Q e a w->e=.normal):∀(l:List Nat) (a:Act) (w:World),wpOps P ops Q l a w->∀(b:Frame) (k:List Item) (cs:List Frame),
 ∃a' w',Q .normal a' w'/\Steps P (lone (b.atR a (.inRegion ops (l++more)::k)) cs w) (lone (b.atR a' (.inRegion ops more::k)) cs w')
 |[],a,w,h,b,k,cs=>⟨a,w,h,⟨0,rfl⟩⟩|i::rest,a,w,h,b,k,cs=>by
  rw[cons_append];simp only[wpOps]at h;split at h;rename_i ho;have⟨a',w',h1,h2⟩:=fG (more:=more) gl hQ rest a w h b k cs;have hs:=stepR_op_skip (P:=P) (b:=b) (a:=a) (k:=k) (cs:=cs) (w:=w) (ops:=ops) (i:=i) (rest:=rest++more) (by simp[ho]);simp only[ho,Option.bind_none,Act.put]at hs;exact⟨a',w',h1,.head hs h2⟩;rename_i o ho;by_cases hw:Region.wanted o (yielded ops a.tmps)=true;rw[if_pos hw]at h;rcases h with h|⟨_,a0,w0,hq⟩;unfold Oper.wp Oper.upon at h;have hg:=stepGR_op (P:=P) (b:=b) (k:=k) (cs:=cs) (w:=w) (rest:=rest++more) ho hw;rw[Oper.semAt_eq _ _ _ (m8 gl ho)]at hg
  have rF:∀v,(b.atR a (.inRegion ops (i::(rest++more))::k)).finish v=b.atR (a.put o.dst v) (.inRegion ops (rest++more)::k):=by
   intro v;rw[Frame.finish_atR,ho];rfl
  split at h;rename_i v w' hr;have⟨a',w2,h1,h2⟩:=fG (more:=more) gl hQ rest _ _ h b k cs;refine⟨a',w2,h1,.head (step_lone_go ?_) h2⟩;rw[hg,<-rF];simp[stepG.apply,hr];rename_i w' hr;have⟨a',w2,h1,h2⟩:=fG (more:=more) gl hQ rest _ _ h b k cs;refine⟨a',w2,h1,.head (step_lone_go ?_) h2⟩;rw[hg,<-rF];simp[stepG.apply,hr];rename_i d w' hr;have⟨a',w2,h1,h2⟩:=fG (more:=more) gl hQ rest _ _ h b k cs;refine⟨a',w2,h1,.head (step_lone_go ?_) h2⟩;have:({b.atR a (.inRegion ops (i::(rest++more))::k)with defers:=d::a.defers}:Frame).finish undef=
   b.atR ({a with defers:=d::a.defers}.put o.dst undef) (.inRegion ops (rest++more)::k):=by
   have:=Frame.finish_atR b {a with defers:=d::a.defers} ops i (rest++more) k undef;rw[ho]at this;exact this
  rw[hg];simp only[stepG.apply,Sem.runT_eq,hr,GStep.bare_after];exact congrArg (λfr=>GStep.go {frame:=fr,callers:=cs,status:=.running,dying:=none} w') this;rename_i f args w' hr;have⟨e,w2,fr,hR,jW,hfn,kO⟩:=h (b.atR a (.inRegion ops (i::(rest++more))::k)::cs);have eI:step P (lone (b.atR a (.inRegion ops (i::(rest++more))::k)) cs w)=
   .next (lone (Frame.enter P f args .normal) (b.atR a (.inRegion ops (i::(rest++more))::k)::cs) w'):=
   step_lone_go (by rw[hg];simp[stepG.apply,hr,Frame.atR])
  cases e with
  |returned v=>
   have⟨a',w3,h1,h2⟩:=fG (more:=more) gl hQ rest _ _ hR b k cs;refine⟨a',w3,h1,.head eI (Steps.trans jW (.head ?_ h2))⟩;rw[<-rF];exact step_leave_returned kO
  |panicked chain=>cases hQ _ _ _ hR
  |outgrown=>
   have⟨a0,w0,hq⟩:=hR;cases hQ _ _ _ hq
  rename_i row args w' hr;have⟨v,w2,hR,jW⟩:=h (b.atR a (.inRegion ops (i::(rest++more))::k)) cs;have eI:step P (lone (b.atR a (.inRegion ops (i::(rest++more))::k)) cs w)=
   .next (lone (Frame.ofRow P row args .normal) (b.atR a (.inRegion ops (i::(rest++more))::k)::cs) w'):=
   step_lone_go (by rw[hg];simp[stepG.apply,hr,Frame.atR])
  have⟨a',w3,h1,h2⟩:=fG (more:=more) gl hQ rest _ _ hR b k cs;refine⟨a',w3,h1,.head eI (Steps.trans jW ?_)⟩;rw[rF];exact h2;cases hQ _ _ _ h;exact h.elim;cases hQ _ _ _ hq;rw[if_neg hw]at h;have⟨a',w',h1,h2⟩:=fG (more:=more) gl hQ rest _ _ h b k cs;exact⟨a',w',h1,.head (yR ho (by simpa using hw) b k cs) h2⟩
def pQ(n:Nat)(rest:List Value)(ops:Array Oper):Prop:=rest=[]\/l4 n ops=true
theorem pQ.op{n:Nat}{rest:List Value}(h:pQ n rest ops){i:Nat}{o:Oper}(ho:ops[i]? =some o):rest=[]\/((∀t∈o.looksAt ops,t<n)/\(∀d,o.dst=some d->d<n)/\∀cs b,o.op≠.select cs b):=by
 refine h.imp id λh=> ?_;simp only[l4,all_eq_true]at h;have:=h o (by rw[<-Array.getElem?_toList]at ho;exact List.mem_of_getElem? ho);simp only[adT,and_eq_true,all_eq_true]at this;have⟨⟨h1,h2⟩,h3⟩:=this;refine⟨λt ht=>by have:=h1 t ht;simpa[Nat.blt,Nat.lt_iff_add_one_le]using this,λd hd=>by rw[hd]at h2;simpa[Nat.blt,Nat.lt_iff_add_one_le]using h2,λcs b hc=>by rw[hc]at h3;cases h3⟩
theorem ju.same{n:Nat}{rest:List Value}{Ds:List Nat}{a t:Act}(h:ju n rest Ds a t)(c9:pQ n rest ops){i:Nat}{o:Oper}(ho:ops[i]? =some o):
 execOp t.eval o=execOp a.eval o/\Region.wanted o (yielded ops t.tmps)=Region.wanted o (yielded ops a.tmps):=by
 rcases c9.op ho with hr|⟨h1,h2,h3⟩
 have e:t.tmps=a.tmps:=by
  have⟨v0,k1,k2,_⟩:=h.sl;rw[hr,append_nil]at k1;rw[k2,<-k1]
 have ee:t.eval=a.eval:=funext λx=>by cases x<;>simp[Act.eval,e]
 rw[ee,e];exact⟨rfl,rfl⟩;refine⟨execOp_congr o h3 λx hx=>h.eval (.inr λj hj=>h1 j ?_), ?_⟩;subst hj;simp only[Oper.looksAt,mem_append,List.mem_filterMap];exact .inl ⟨.tmp j,by simpa using hx,rfl⟩;unfold Region.wanted;cases hg:o.guard with
 |none=>rfl|some g=>
  have⟨g,b⟩:=g;simp only[];congr 1;unfold yielded;cases hd:(ops[g]?).bind (·.dst)with
  |none=>rfl|some d=>
   have:t.tmps[d]? =a.tmps[d]? :=h.get (.inr (h1 d (by simp[Oper.looksAt,hg,hd])));simp only[bind_some,this]
theorem gN{n:Nat}{rest:List Value}{Ds:List Nat}{Q:Exit->Act->World->Prop}(c9:pQ n rest ops)(hQ:∀e a w,Q e a w->e=.normal):∀(l:List Nat) (a t:Act) (w:World),ju n rest Ds a t->wpOps P ops Q l a w->
 wpOps P ops (λe t' w'=>e=.normal/\∃a',Q .normal a' w'/\ju n rest Ds a' t') l t w
 |[],a,t,w,ht,h=>⟨rfl,a,h,ht⟩|i::l,a,t,w,ht,h=>by
  simp only[wpOps]at h ⊢;split at h;rename_i ho;exact gN c9 hQ l a t w ht h;rename_i o ho;have⟨e1,e2⟩:=ht.same c9 ho;have kf:rest=[]\/∀d,o.dst=some d->d<n:=(c9.op ho).imp id (·.2.1);rw[e2];split at h;rename_i hw;rw[if_pos hw];rcases h with h|⟨_,a0,w0,hq⟩;refine .inl ?_;unfold Oper.wp at *;rw[e1];generalize (execOp a.eval o).run P w=r at *;cases r with
  |ok x w'=>
   cases x<;>simp only[Oper.upon]at h ⊢ <;>first
    |exact gN c9 hQ l _ _ _ (ht.put kf _) h|exact gN c9 hQ l _ _ _ (ju.put (a:={a with defers:=_::a.defers}) (t:={t with defers:=_::t.defers}) ⟨ht.sl,by simp[ht.df]⟩ kf _) h
    |exact Calls.mono h (λe w'' he=>by
     cases e<;>first
      |exact gN c9 hQ l _ _ _ (ht.put kf _) he|(exact(by cases hQ _ _ _ he))
      |(have⟨a0,w0,h2⟩:=he;exact(by cases hQ _ _ _ h2)))
    |exact Rows.mono h (λ_ _ he=>gN c9 hQ l _ _ _ (ht.put kf _) he)
  |halt x w'=>cases x<;>simp only[Oper.upon]at h ⊢ <;>exact(by cases hQ _ _ _ h)
  cases hQ _ _ _ hq;rename_i hw;rw[if_neg hw];exact gN c9 hQ l _ _ _ (ht.put kf _) h
end
section
variable{ρ aO:Nat->Value}{H H':aJ}{G G' O O' O2:Nat->Prop}{w w':World}{P:Program}{S:fa}{Z:aP}{X:Ctx}{s:St}{a:Act}{K:List au->AV->Prop}{C:aR->Prop}{ops:Array Oper}{E E':List (Nat×Obj)}
theorem Step.src(h:Step ρ H O w aO H' O' w')(k:∀b,O b->O2 b):Step ρ H O2 w aO H' O' w':=
 ⟨h.pt,h.eT,λb hb=>(h.ft b hb).imp (k b) id,λb hb ho=>h.heap b hb (λh1=>ho (k b h1)),h.size⟩
theorem Kept.sub(h:Kept (X.at G E) w)(hs:∀y∈E',y∈E):Kept (X.at G E') w:=λy hy=>h y (hs y hy)
theorem b8.sub(h:b8 (X.at G E) ρ s a w)(hs:∀y∈E',y∈E):b8 (X.at G E') ρ s a w:=⟨h.sat,h.size,h.den,h.defers,h.cu,h.iH,h.kept.sub hs⟩
theorem b8.alY(h:b8 (X.at G E) ρ s a w){D:Nat}{o o':Obj}(hx:(D,o)∈E)(hE:∀y∈E',(y∈E/\y.1≠D)\/y=(D,o')):b8 (X.at G E') ρ s a (w.putObj D o'):=by
 have⟨hG,hle,hh⟩:=h.kept _ hx;have hs:=h.sat;have a8:D<w.heap.size:=(Array.getElem?_eq_some_iff.1 hh).1
 have st:Step ρ s.look (aV ρ s.look G) w ρ s.look (aV ρ s.look G) (w.putObj D o'):=
  ⟨λ_ _ _=>rfl,λ_ o h=>⟨o,h,λc' e' e=>⟨c',e',e,rfl,rfl⟩⟩,λ_ h=>.inl h,λb hb hO=>World.putObj_heap_other (λe=>hO (.inr (e▸hG))),by simp⟩
 have dD:∀b,Own ρ s.look b->(w.putObj D o').heap[b]? =w.heap[b]? :=λb hb=>World.putObj_heap_other (λe=>hs.apart b hb (e▸hG));refine⟨⟨λid o ho=>(hs.obj id o ho).step st (λb ha hb=>dD b ⟨id,o,ho,ha,hb⟩),hs.inj,hs.apart,λb hb=>by rw[World.putObj_size];exact hs.low b hb⟩,h.size,λt=>ae.step st _ _ (h.den t),h.defers,h.cu.trans st,⟨h.iH.os,h.iH.tape,h.iH.output,λb hb hO=> ?_⟩,λy hy=> ?_⟩;rw[World.putObj_heap_other (by have:X.w.heap.size<=D:=hle;have:b<X.w.heap.size:=hb;omega)];exact h.iH.heap b hb hO;rcases hE y hy with⟨h1,h2⟩|rfl;have⟨k1,k2,k3⟩:=h.kept y h1;exact⟨k1,k2,by rw[World.putObj_heap_other h2];exact k3⟩;exact⟨hG,hle,World.putObj_heap_same a8⟩
def o8(ρ:Nat->Value)(n:Nat)(u:Value):Nat->Value:=λj=>if j=n then u else ρ j
theorem b8.grow(h:b8 (X.at G E) ρ s a w)(o:Obj)(u:Value):
 b8 (X.at (λb=>G b\/b=w.heap.size) ((w.heap.size,o)::E)) (o8 ρ s.H.length u) ⟨s.tmps,s.H++[.aW]⟩ a (w.alloc o)/\
 Step ρ s.look (aV ρ s.look G) w (o8 ρ s.H.length u) (St.look ⟨s.tmps,s.H++[.aW]⟩) (aV (o8 ρ s.H.length u) (St.look ⟨s.tmps,s.H++[.aW]⟩) (λb=>G b\/b=w.heap.size)) (w.alloc o):=by
 have hs:=h.sat
 have old:∀{id:Nat} {o:au},(s.H++[.aW])[id]? =some o->(id=s.H.length/\o=.aW)\/(id≠s.H.length/\s.look id=some o):=by
  intro id o ho;have h2:=(List.getElem?_eq_some_iff.1 ho).1;simp only[length_append,length_cons,length_nil]at h2;by_cases dU:id=s.H.length;subst dU;simp at ho;exact .inl ⟨rfl,ho.symm⟩;refine .inr ⟨dU, ?_⟩;rwa[getElem?_append_left (by omega)]at ho
 have a8:∀{id:Nat} {o:au},s.look id=some o->id<s.H.length:=λh=>(List.getElem?_eq_some_iff.1 h).1
 have dD:∀b,Own (o8 ρ s.H.length u) (St.look ⟨s.tmps,s.H++[.aW]⟩) b->Own ρ s.look b:=by
  rintro b ⟨id,o,ho,ha,hb⟩;rcases old ho with⟨_,rfl⟩|⟨h1,h2⟩;cases ha;rw[o8,if_neg h1]at hb;exact⟨id,o,h2,ha,hb⟩
 have st:Step ρ s.look (aV ρ s.look G) w (o8 ρ s.H.length u) (St.look ⟨s.tmps,s.H++[.aW]⟩) (aV (o8 ρ s.H.length u) (St.look ⟨s.tmps,s.H++[.aW]⟩) (λb=>G b\/b=w.heap.size)) (w.alloc o):=by
  refine⟨λid o ho=> ?_,λid o ho=> ?_,λb hb=> ?_,λb hb _=>gH hb,by rw[dN];omega⟩;have:=a8 ho;rw[o8,if_neg (by omega)];have h1:=a8 ho;exact⟨o,by show(s.H++[.aW])[id]? =_;rw[getElem?_append_left h1];exact ho,λc' e' hc=>⟨c',e',hc,rfl,rfl⟩⟩;rcases hb with hb|hb|hb;exact .inl (.inl (dD b hb));exact .inl (.inr hb);exact .inr (by omega)
 have hle:X.w.heap.size<=w.heap.size:=h.cu.size;refine⟨?_,st⟩;refine⟨⟨λid o' ho=> ?_,λi j oi oj b hi hj ai aj bi bj=> ?_,λb hb hg=> ?_,λb hb=> ?_⟩,h.size,λt=>ae.step st _ _ (h.den t),h.defers,(h.cu.trans st).src (λb hb=>hb.imp id .inl),⟨h.iH.os,h.iH.tape,h.iH.output,λb hb hO=> ?_⟩,λy hy=> ?_⟩;rcases old ho with⟨_,rfl⟩|⟨h1,h2⟩;trivial;rw[o8,if_neg h1];exact(hs.obj id o' h2).step st (λb ha hb=>gH (gf hs ⟨id,o',h2,ha,hb⟩));rcases old hi with⟨_,rfl⟩|⟨h1,h2⟩;cases ai;rcases old hj with⟨_,rfl⟩|⟨h3,h4⟩;cases aj;rw[o8,if_neg h1]at bi;rw[o8,if_neg h3]at bj;exact hs.inj i j oi oj b h2 h4 ai aj bi bj;rcases hg with hg|hg;exact hs.apart b (dD b hb) hg;have:=gf hs (dD b hb);omega;rw[dN];rcases hb with hb|hb;have:=hs.low b hb;omega;omega;rw[gH (show b<w.heap.size from Nat.lt_of_lt_of_le hb hle)];exact h.iH.heap b hb hO;rcases mem_cons.1 hy with rfl|hy;exact⟨.inr rfl,hle,kY⟩;have⟨k1,k2,k3⟩:=h.kept y hy;exact⟨.inl k1,k2,by rw[gH (Array.getElem?_eq_some_iff.1 k3).1];exact k3⟩
theorem iY.aiv{L:List au}{tmps:List AV}{r:AV}{v:Value}(fV:∀b,X.G b->G b)(gh:∀b,G b->X.G b\/X.w.heap.size<=b)(hr:b8 (X.at G E) ρ ⟨tmps,L⟩ a w)
 (hv:ae ρ (λid=>L[id]?) (aV ρ (λid=>L[id]?) G) w r v) (hK:K L r):iY X K (.returned v) w:=by
 have hs:Sat ρ (λid=>L[id]?) G w:=hr.sat;have hf:Step X.ρ X.H (aV X.ρ X.H G) X.w ρ (λid=>L[id]?) (aV ρ (λid=>L[id]?) G) w:=hr.cu;have less:∀b,aV ρ (λid=>L[id]?) X.G b->aV ρ (λid=>L[id]?) G b:=λb hb=>hb.imp id (fV b);refine .inl ⟨v,rfl,L,r,hK,ρ,⟨λid o ho=> ?_,hs.inj,λb hb hg=>hs.apart b hb (fV b hg),λb hb=>hs.low b (fV b hb)⟩, ?_, ?_,hr.iH⟩
 have st:Step ρ (λid=>L[id]?) (aV ρ (λid=>L[id]?) G) w ρ (λid=>L[id]?) (aV ρ (λid=>L[id]?) X.G) w:=
  ⟨λ_ _ _=>rfl,λ_ o h=>⟨o,h,λc' e' e=>⟨c',e',e,rfl,rfl⟩⟩,λb h=>.inl (less b h),λ_ _ _=>rfl,le_refl _⟩
 exact(hs.obj id o ho).step st (λ_ _ _=>rfl)
 have st:Step ρ (λid=>L[id]?) (aV ρ (λid=>L[id]?) G) w ρ (λid=>L[id]?) (aV ρ (λid=>L[id]?) X.G) w:=
  ⟨λ_ _ _=>rfl,λ_ o h=>⟨o,h,λc' e' e=>⟨c',e',e,rfl,rfl⟩⟩,λb h=>.inl (less b h),λ_ _ _=>rfl,le_refl _⟩
 exact hv.step st;refine⟨hf.pt,hf.eT,λb hb=> ?_,λb hb hO=>hr.iH.heap b hb (λho=>hO (.inl ho)),hf.size⟩;rcases hf.ft b (less b hb)with(h1|h1)|h1;exact .inl (.inl h1);rcases gh b h1 with h2|h2;exact .inl (.inr h2);exact .inr h2;exact .inr h1
theorem aaL{fr:Frame}{cs:List Frame}{D:Nat}{Ds:List Deferred}(hm:fr.mode=.returning)(hd:fr.defers=oE D::Ds)(h:w.heap[D]? =some (.deferred (some []))):
 step P (lone fr cs w)=.next (lone {fr with defers:=Ds} cs (w.putObj D (.deferred none))):=by
 have hr:=run_takeDeferred (P:=P) h;exact step_lone_go (by simp[stepG,unwind,hm,hd,oE,Sem.runT_eq,hr,GStep.bare_after])
theorem uN:∀(Ds:List Nat) {ρ:Nat->Value} {E2:List (Nat×Obj)} {a:Act} {w:World} {fr:Frame},((Ds.map (λD=>(D,Obj.deferred (some [])))++E2).map (·.1)).Nodup->
 b8 (X.at G (Ds.map (λD=>(D,Obj.deferred (some [])))++E2)) ρ s a w->fr.mode=.returning->fr.defers=Ds.map oE->
 ∃w',b8 (X.at G E2) ρ s a w'/\∀cs,Steps P (lone fr cs w) (lone {fr with defers:=[]} cs w')
 |[],ρ,E2,a,w,fr,hn,hr,hm,hd=>⟨w,hr,λcs=>by
    have:fr={fr with defers:=[]}:=by cases fr;simp only[List.map_nil]at hd;subst hd;rfl
    rw[<-this];exact .refl _ _⟩
 |D::Ds,ρ,E2,a,w,fr,hn,hr,hm,hd=>by
  simp only[map_cons,cons_append,List.nodup_cons]at hn;have jt:(D,Obj.deferred (some []))∈((D::Ds).map (λD=>(D,Obj.deferred (some [])))++E2):=by simp
  have hh:=(hr.kept _ jt).2.2
  have eu:b8 (X.at G (Ds.map (λD=>(D,Obj.deferred (some [])))++E2)) ρ s a (w.putObj D (.deferred none)):=by
   refine hr.alY jt (λy hy=>.inl ⟨by simp only[map_cons,cons_append,mem_cons];exact .inr hy,λe=>hn.1 (e▸List.mem_map_of_mem (f:=Prod.fst) hy)⟩)
  have⟨w',h1,h2⟩:=uN Ds (fr:={fr with defers:=Ds.map oE}) hn.2 eu hm rfl;exact⟨w',h1,λcs=>.head (aaL hm hd hh) (h2 cs)⟩
def upE(l:Nat)(o:Obj)(E:List (Nat×Obj)):List (Nat×Obj):=E.map λx=>if x.1=l then(l,o)else x
theorem aaM(l:Nat)(o:Obj)(E:List (Nat×Obj)):(upE l o E).map (·.1)=E.map (·.1):=by
 rw[upE,List.map_map];refine List.map_congr_left λx _=> ?_;simp only[Function.comp];split;rename_i h;exact h.symm;rfl
theorem pR{l:Nat}{o:Obj}{E:List (Nat×Obj)}(h:l ∉ E.map (·.1)):upE l o E=E:=by
 rw[upE,show E=E.map id from(List.map_id _).symm,List.map_map];refine List.map_congr_left λx hx=> ?_;simp only[Function.comp,id];rw[if_neg];rintro rfl;exact h (List.mem_map_of_mem hx)
theorem ad1{l:Nat}{o:Obj}{E:List (Nat×Obj)}:∀y∈upE l o E,(y∈E/\y.1≠l)\/y=(l,o):=by
 intro y hy;simp only[upE,mem_map]at hy;obtain⟨x,hx,rfl⟩:=hy;split;exact .inr rfl;rename_i cG;exact .inl ⟨hx,cG⟩
theorem l5(l:Nat)(o:Obj)(E F:List (Nat×Obj)):upE l o (E++F)=upE l o E++upE l o F:=map_append
theorem WfS.len{f0:FuncId}:∀{ds:List q8} {vs:List Value} {E:List (Nat×Obj)} {fs:List Frame},WfS f0 ds vs E fs->vs.length=adQ ds
 |[],vs,E,fs,h=>by rw[h.1];rfl
 |d::ds,vs,E,fs,h=>by
  obtain⟨v0,rv,v2,Ds,E1,E2,b,a,fs2,lv,lE,todo,rfl,rfl,rfl,h1,h2,h3,h4,h5⟩:=h
  have xg:rv.length=gL d.round:=by
   have⟨r,_,h6⟩:=h3.fr;cases hd:d.round<;>rw[hd]at h6<;>simp only[]at h6;rw[h6.1];rfl;obtain⟨l,rfl,_⟩:=h6;rfl
  have hlv:lv.length=gL d.lp.isSome:=by
   cases hd:d.lp<;>rw[hd]at h5<;>simp only[]at h5;rw[h5.1];rfl;obtain⟨l,D,rfl,_⟩:=h5;rfl
  simp only[length_append,length_map,adQ,q8.size,h4.len,xg,hlv,h1,h2];omega
theorem uO{l l':Nat}(h:cr l=cr l'):l=l':=by
 simp only[cr,Value.func.injEq,Fn.yield.injEq]at h;exact h.1
theorem nD{f0:FuncId}{id:Nat}{d:q8}{L:Lp}{st:lA}{cI:List AV}:∀{ds:List q8} {aI:List AV} {vs:List Value} {E:List (Nat×Obj)} {fs:List Frame},
 jU id ds aI=some (d,L,st,cI)->WfS f0 ds vs E fs->(E.map (·.1)).Nodup->(∀t,ae ρ H O w (aI.getD t (.s .aF)) (vs.getD t undef))->
 ∃(l D:Nat) (v0:List Value),ρ id=cr l/\v0.length=d.n/\(l,Obj.loop (st.gg L (d.f.getD f0) v0.toArray D))∈E/\(∀t,t<d.n->ae ρ H O w (cI.getD t (.s .aF)) (v0.getD t undef))/\(aI.length=vs.length->cI.length=d.n)/\
  ∀po,WfS f0 (iX id po ds aI) vs (upE l (Obj.loop (po.gg L (d.f.getD f0) v0.toArray D)) E) fs
 |[],aI,vs,E,fs,h,_,_,_=>by simp[jU]at h
 |e::ds,aI,vs,E,fs,h,hw,hn,hd=>by
  have hw0:=hw;obtain⟨v0,rv,v2,Ds,E1,E2,b,a,fs2,lv,lE,todo,rfl,rfl,rfl,h1,h2,h3,h4,h5⟩:=hw
  have xg:rv.length=gL e.round:=by
   have⟨r,_,h6⟩:=h3.fr;cases hd:e.round<;>rw[hd]at h6<;>simp only[]at h6
   ·rw[h6.1];rfl
   ·obtain⟨l,rfl,_⟩:=h6;rfl
  have hlv:lv.length=gL e.lp.isSome:=by
   cases hd:e.lp<;>rw[hd]at h5<;>simp only[]at h5
   ·rw[h5.1];rfl
   ·obtain⟨l,D,rfl,_⟩:=h5;rfl
  have aqT:∀t,ae ρ H O w ((aI.drop e.size).getD t (.s .aF)) (v2.getD t undef):=by
   intro t;have:=hd (e.size+t);have e1:(aI.drop e.size).getD t (.s .aF)=aI.getD (e.size+t) (.s .aF):=by simp[List.getD]
   have e2:(v0++(rv++(Ds.map dP++(lv++v2)))).getD (e.size+t) undef=v2.getD t undef:=by
    rw[show v0++(rv++(Ds.map dP++(lv++v2)))=(v0++(rv++(Ds.map dP++lv)))++v2 from by simp];rw[List.getD,List.getElem?_append_right (by simp only[length_append,length_map,xg,hlv,h1,h2,q8.size];omega)];rw[show e.size+t - (v0++(rv++(Ds.map dP++lv))).length=t from by simp only[length_append,length_map,xg,hlv,h1,h2,q8.size];omega];rfl
   rw[e1,<-e2];exact this
  have next:(jU id ds (aI.drop e.size)=some (d,L,st,cI))->(∀po,iX id po (e::ds) aI=e::iX id po ds (aI.drop e.size))->
   ∃(l D:Nat) (o9:List Value),ρ id=cr l/\o9.length=d.n/\(l,Obj.loop (st.gg L (d.f.getD f0) o9.toArray D))∈(E1++(lE++E2))/\(∀t,t<d.n->ae ρ H O w (cI.getD t (.s .aF)) (o9.getD t undef))/\(aI.length=(v0++(rv++(Ds.map dP++(lv++v2)))).length->cI.length=d.n)/\
    ∀po,WfS f0 (iX id po (e::ds) aI) (v0++(rv++(Ds.map dP++(lv++v2)))) (upE l (Obj.loop (po.gg L (d.f.getD f0) o9.toArray D)) (E1++(lE++E2))) (b.atR a todo::fs2):=by
   intro hf mQ
   have yr:(E2.map (·.1)).Nodup:=by
    rw[map_append,map_append]at hn;exact(nodup_append.1 (nodup_append.1 hn).2.1).2.1
   have⟨l,D,o9,g1,g2,g3,g4,g5,g6⟩:=nD hf h4 yr aqT;have pn:l∈E2.map (·.1):=List.mem_map_of_mem (f:=Prod.fst) g3
   have hl1:l ∉ (E1++lE).map (·.1):=by
    intro hm;rw[<-append_assoc,map_append]at hn;exact(nodup_append.1 hn).2.2 l hm l pn rfl
   rw[map_append,mem_append,not_or]at hl1;refine⟨l,D,o9,g1,g2,by simp[g3],g4,λhl=>g5 ?_,λpo=> ?_⟩
   ·rw[length_drop,hl];simp only[length_append,length_map,xg,hlv,h1,h2,q8.size];omega
   ·rw[mQ,l5,l5,pR hl1.1,pR hl1.2];exact⟨v0,rv,v2,Ds,E1,_,b,a,fs2,lv,lE,todo,rfl,rfl,rfl,h1,h2,h3,g6 po,h5⟩
  unfold jU at h;split at h
  ·rename_i L' st0 hlp;rw[hlp]at h5;obtain⟨l,D,rfl,rfl,rfl⟩:=h5;split at h
   ·rename_i j hj;rw[Bool.cond_eq_ite]at h;split at h
    ·rename_i aiw;have aiw:j=id:=Nat.eq_of_beq_eq_true aiw;subst aiw;simp only[Option.some.injEq,Prod.mk.injEq]at h;obtain⟨rfl,rfl,rfl,rfl⟩:=h
     have iF:(v0++(rv++(Ds.map dP++([cr l]++v2)))).getD (e.n+gL e.round+e.marks) undef=cr l:=by
      rw[show v0++(rv++(Ds.map dP++([cr l]++v2)))=(v0++(rv++Ds.map dP))++(cr l::v2)from by simp];rw[List.getD,List.getElem?_append_right (by simp only[length_append,length_map,xg,h1,h2];omega)];rw[show e.n+gL e.round+e.marks - (v0++(rv++Ds.map dP)).length=0 from by simp only[length_append,length_map,xg,h1,h2];omega];rfl
     have kg:=hd (e.n+gL e.round+e.marks);rw[hj,iF]at kg;unfold ae aH at kg;refine⟨l,D,v0,kg.1.symm,h1,by simp,λt ht=> ?_,λhl=> ?_,λpo=> ?_⟩
     ·have:=hd t;have e1:(aI.take e.n).getD t (.s .aF)=aI.getD t (.s .aF):=by simp[List.getD,getElem?_take,ht]
      have e2:(v0++(rv++(Ds.map dP++([cr l]++v2)))).getD t undef=v0.getD t undef:=by
       rw[List.getD,getElem?_append_left (by omega)];rfl
      rw[e1,<-e2];exact this
     ·rw[length_take,hl];simp only[length_append,h1];omega
     ·have hs:iX j po (e::ds) aI={e with lp:=some (L',po)}::ds:=by
       unfold iX;rw[hlp];simp only[hj,Nat.beq_eq_true_eq,Bool.cond_eq_ite,show Nat.beq j j=true from Nat.beq_refl j,if_true]
      rw[hs]
      have hl1:l ∉ E1.map (·.1):=by
       intro hm;rw[map_append]at hn;exact(nodup_append.1 hn).2.2 l hm l (by simp) rfl
      have pn:l ∉ E2.map (·.1):=by
       intro hm;rw[map_append,map_append]at hn;exact(nodup_append.1 (nodup_append.1 hn).2.1).2.2 l (by simp) l hm rfl
      rw[l5,l5,pR hl1,pR pn,show upE l (Obj.loop (po.gg L' (e.f.getD f0) v0.toArray D)) [(l,Obj.loop (st0.gg L' (e.f.getD f0) v0.toArray D))]=[(l,Obj.loop (po.gg L' (e.f.getD f0) v0.toArray D))]from by simp[upE]];exact⟨v0,rv,v2,Ds,E1,E2,b,a,fs2,_,_,_,rfl,rfl,rfl,h1,h2,h3,h4,⟨l,D,rfl,rfl,rfl⟩⟩
    ·rename_i aiw;refine next h (λpo=> ?_)
     rw[show iX id po (e::ds) aI=_ from by unfold iX;rw[hlp]];simp only[hj,Bool.cond_eq_ite,if_neg aiw]
   ·rename_i hj;refine next h (λpo=> ?_)
    rw[iX,hlp]
    all_goals (try simp only[])
    all_goals (split<;>first|(rename_i j' js;exact absurd js (hj j'))|rfl)
  ·rename_i hlp;refine next h (λpo=> ?_)
   rw[show iX id po (e::ds) aI=_ from by unfold iX;rw[hlp]]
end
section
variable{ρ aO:Nat->Value}{H H':aJ}{G G' O O' O2:Nat->Prop}{w w':World}{P:Program}{S:fa}{Z:aP}{X:Ctx}{s:St}{a:Act}{K:List au->AV->Prop}{C:aR->Prop}{ops:Array Oper}{E E':List (Nat×Obj)}
structure DP (ρ:Nat->Value) (H:aJ) (O:Nat->Prop) (w:World) (T:List AV) (vs:List Value):Prop where
 len:T.length=vs.length
 get:∀t,ae ρ H O w (T.getD t (.s .aF)) (vs.getD t undef)
theorem aaN(x:Array Value)(t:Nat):x.getD t undef=x.toList.getD t undef:=by
 rw[getD_eq_getD_getElem?,List.getD,Array.getElem?_toList]
theorem b8.dp(h:b8 X ρ s a w):DP ρ s.look (aV ρ s.look X.G) w s.tmps a.tmps.toList:=
 ⟨by rw[h.size];simp,λt=>by rw[<-aaN];exact h.den t⟩
theorem b8.cI(h:b8 X ρ s a w){T:List AV}{vs:List Value}(hd:DP ρ s.look (aV ρ s.look X.G) w T vs):b8 X ρ ⟨T,s.H⟩ ⟨vs.toArray,[]⟩ w:=
 ⟨h.sat,by simpa using hd.len,λt=>by rw[aaN];exact hd.get t,rfl,h.cu,h.iH,h.kept⟩
theorem DP.step{T:List AV}{vs:List Value}(h:DP ρ H O w T vs)(st:Step ρ H O w aO H' O' w'):DP aO H' O' w' T vs:=⟨h.len,λt=>(h.get t).step st⟩
theorem DP.nil:DP ρ H O w [] []:=⟨rfl,λt=>by simp only[List.getD_nil];unfold ae;trivial⟩
theorem DP.cons{x:AV}{v:Value}{T:List AV}{vs:List Value}(hx:ae ρ H O w x v)(h:DP ρ H O w T vs):DP ρ H O w (x::T) (v::vs):=
 ⟨by simp[h.len],λt=>by
   cases t with
   |zero=>simpa using hx|succ t=>simpa using h.get t⟩
theorem DP.append{T T':List AV}{vs vs':List Value}(h:DP ρ H O w T vs)(h':DP ρ H O w T' vs'):DP ρ H O w (T++T') (vs++vs'):=by
 refine⟨by simp[h.len,h'.len],λt=> ?_⟩;by_cases ht:t<T.length;have:=h.get t;simp only[List.getD]at this ⊢;rwa[getElem?_append_left ht,getElem?_append_left (h.len▸ht)];have:=h'.get (t - T.length);simp only[List.getD]at this ⊢;rwa[List.getElem?_append_right (by omega),List.getElem?_append_right (by have:=h.len;omega),<-h.len]
theorem DP.drop{T:List AV}{vs:List Value}(h:DP ρ H O w T vs)(n:Nat):DP ρ H O w (T.drop n) (vs.drop n):=
 ⟨by simp[h.len],λt=>by have:=h.get (n+t);simpa[List.getD]using this⟩
theorem DP.take{T:List AV}{vs:List Value}(h:DP ρ H O w T vs)(n:Nat):DP ρ H O w (T.take n) (vs.take n):=by
 refine⟨by simp[h.len],λt=> ?_⟩;have:=h.get t;simp only[List.getD,getElem?_take]at this ⊢;split;exact this;unfold ae;trivial
theorem DP.set{T:List AV}{vs:List Value}(h:DP ρ H O w T vs)(d:Nat){x:AV}{v:Value}(hx:ae ρ H O w x v):DP ρ H O w (T.set d x) (vs.set d v):=by
 refine⟨by simp[h.len],λt=> ?_⟩;rw[cM,cM,h.len];split;exact hx;exact h.get t
theorem DP.aoI(n:Nat):DP ρ H O w (replicate n (.bO [])) (replicate n undef):=by
 induction n with
 |zero=>exact DP.nil|succ n ih=>exact DP.cons cv ih
theorem DP.ofL:∀{aI:List AV} {vs:List Value},bH ρ H O w aI vs->DP ρ H O w aI vs
 |[],vs,h=>by rw[bc.1 h];exact DP.nil
 |x::aI,vs,h=>by
  obtain⟨v,rest,rfl,h1,h2⟩:=aG.1 h;exact DP.cons h1 (DP.ofL h2)
theorem DP.split{T1 T2:List AV}{v1 v2:List Value}(h:DP ρ H O w (T1++T2) (v1++v2))(hl:T1.length=v1.length):DP ρ H O w T1 v1/\DP ρ H O w T2 v2:=by
 have h1:=h.take T1.length;have h2:=h.drop T1.length;rw[List.take_left' rfl,hl,List.take_left' rfl]at h1;rw[List.drop_left' rfl,hl,List.drop_left' rfl]at h2;exact⟨h1,h2⟩
theorem DP.kK:∀(ps:List Tmp) {args:List AV} {us:List Value} {T:List AV} {vs:List Value},DP ρ H O w T vs->bH ρ H O w args us->DP ρ H O w (kK T ps args) (kK vs ps us)
 |[],args,us,T,vs,h,_=>h|p::ps,[],us,T,vs,h,hl=>by rw[bc.1 hl];exact h
 |p::ps,x::args,us,T,vs,h,hl=>by
  obtain⟨u,rest,rfl,h1,h2⟩:=aG.1 hl;exact DP.kK ps (h.set p h1) h2
theorem acG:∀(ps:List Tmp) (us:List Value) (vs:List Value),(ps.toArray.zip us.toArray).foldl (λ(tmps:Array Value) (x:Tmp×Value)=>tmps.setIfInBounds x.1 x.2) vs.toArray=(kK vs ps us).toArray:=by
 intro ps us vs;rw[<-Array.foldl_toList];simp only[Array.toList_zip]
 have:∀(l:List (Tmp×Value)) (vs:List Value),l.foldl (λ(tmps:Array Value) (x:Tmp×Value)=>tmps.setIfInBounds x.1 x.2) vs.toArray=(l.foldl (λt x=>t.set x.1 x.2) vs).toArray:=by
  intro l
  induction l with
  |nil=>intro vs;rfl
  |cons x l ih=>intro vs;simp only[List.foldl_cons,List.setIfInBounds_toArray];exact ih _
 exact this _ _
theorem alZ{o:Oper}{ev:Operand->AV}{e:Operand->Value}{g:AV}{args:List AV}(h:pM o ev=some (g,args))(hd:∀x∈o.op.operands,ae ρ H O w (ev x) (e x)):
 ∃(vf:Value) (us:List Value),ae ρ H O w g vf/\bH ρ H O w args us/\
  (∀f vs,vf=.func (.func f) #[] vs.toArray->di P f=true->(execOp e o).run P w=.ok (.enter f (us++vs).toArray) w)/\
  (∀l,vf=cr l->∀r,w.heap[l]? =some (.loop r)->us.length=r.params.size->(execOp e o).run P w=.ok (.round l r.fn ((r.params.zip us.toArray).foldl (λtmps (t,a)=>tmps.setIfInBounds t a) r.tmps) r.assign r.body) w):=by
 unfold pM at h;split at h;rename_i c ho;split at h;rename_i f hc;simp only[Option.some.injEq,Prod.mk.injEq]at h;obtain⟨rfl,rfl⟩:=h;have hf:=kZ (hd f (by simp[ho,Op.operands,Call.operands,hc]));have hl:=jT c.args.toList (ev:=λx=>ov (ev x)) (e:=e) (λx hx=>kZ (hd x (by simp[ho,Op.operands,Call.operands,hc,Array.mem_toList_iff.1 hx])));have e1:(c.args.toList.map e).toArray=c.args.map e:=by apply toList_inj.1;simp
 refine⟨e f,c.args.toList.map e,hf,hl,λg vs hv er=> ?_,λl hv r hr hs=> ?_⟩;have e2:(c.args.toList.map e++vs).toArray=c.args.map e++vs.toArray:=by apply toList_inj.1;simp
 rw[e2];simp[execOp,ho,resolve,hc,hv,Deferred.ofValue,invoke,dW er];rw[e1];have hy:=run_yield (P:=P) (args:=c.args.map e) hr (by rw[<-hs];simp);simp only[cr]at hv;simp[execOp,ho,resolve,hc,hv,Deferred.ofValue,invoke,hy];cases h;cases h
def eX(P:Program)(f:FuncId)(R:Ending->World->Prop)(top:Frame)(fs:List Frame)(w:World):Prop:=
 ∀cs,∃e w' fr,R e w'/\Comes P (lone top (fs++cs) w) (lone fr cs w') e/\fr.fn=f/\fr.leaving P w' e
theorem eX.steps{f:FuncId}{R:Ending->World->Prop}{top aqU:Frame}{fs fs':List Frame}(hs:∀cs,Steps P (lone top (fs++cs) w) (lone aqU (fs'++cs) w'))(h:eX P f R aqU fs' w'):eX P f R top fs w:=by
 intro cs;have⟨e,w2,fr,h1,h2,h3⟩:=h cs;exact⟨e,w2,fr,h1,Comes.of_steps (hs cs) h2,h3⟩
theorem sm{f0 f:FuncId}{c:aR}{args:List AV}{us:List Value}{wait:q8}{go:aR->Tree}{fs:List Frame}(h:(mZ P c f args wait go).Holds K C)(m6:∀c',(go c').Holds K C->Safe P f0 X K c')
 (fV:∀b,X.G b->G b) (gh:∀b,G b->X.G b\/X.w.heap.size<=b) (hr:b8 (X.at G E) ρ ⟨c.tmps,c.H⟩ a w) (hl:bH ρ (St.look ⟨c.tmps,c.H⟩) (aV ρ (St.look ⟨c.tmps,c.H⟩) G) w args us) (hn:(E.map (·.1)).Nodup)
 (hw:WfS f0 (wait::c.stk.below) a.tmps.toList E fs):di P f=true/\eX P f0 (iY X K) (Frame.enter P f us.toArray .normal) fs w:=by
 unfold mZ at h;split at h;rename_i g hg;rw[Bool.cond_eq_ite]at h;split at h;rename_i hb;simp only[and_eq_true]at hb;have⟨er,bL⟩:=hb;refine⟨er, ?_⟩;have bL:args.length<=g.ntmps:=le_of_ble_eq_true bL;have hul:us.length=args.length:=(DP.ofL hl).len.symm
 have hb:g.body.isSome=true:=by
  unfold di at er;rw[hg]at er;simp only[and_eq_true]at er;exact er.1
 have⟨cd,hcd⟩:=isSome_iff_exists.1 hb;have eu:=hr.cI (((DP.ofL hl).append (DP.aoI (g.ntmps - args.length))).append hr.dp);have key:=m6 _ h G E ρ _ w fV gh eu {(default:Frame)with fn:=f,kind:=.normal,roundOf:=none} {tmps:=(us++replicate (g.ntmps - args.length) undef).toArray,defers:=[]} fs
  ⟨hn,us++replicate (g.ntmps - args.length) undef,[],a.tmps.toList,[],[],E,by simp,rfl,rfl,⟨⟨none,rfl,rfl,rfl⟩,rfl,rfl⟩,hw⟩
 have eI:Frame.enter P f us.toArray .normal=Frame.atR {(default:Frame)with fn:=f,kind:=.normal,roundOf:=none} {tmps:=(us++replicate (g.ntmps - args.length) undef).toArray,defers:=[]} [.code (g.body.getD .skip)]:=by
  simp[Frame.enter,Frame.atR,hg,hcd,hul]
 rw[eI];exact key;exact h.elim;exact h.elim
theorem aaO{f0:FuncId}{c:aR}{id:Nat}{args:List AV}{us:List Value}{wait:q8}{go:aR->Tree}{fs:List Frame}{E0 E1:List (Nat×Obj)}{vs1:List Value}{fs1:List Frame}{v:Value}(h:(yJ c id args wait go).Holds K C)(m6:∀c',(go c').Holds K C->Safe P f0 X K c')
 (fV:∀b,X.G b->G b) (gh:∀b,G b->X.G b\/X.w.heap.size<=b) (hr:b8 (X.at G E) ρ ⟨c.tmps,c.H⟩ a w) (hl:bH ρ (St.look ⟨c.tmps,c.H⟩) (aV ρ (St.look ⟨c.tmps,c.H⟩) G) w args us) (hn:(E.map (·.1)).Nodup)
 (hw:WfS f0 (wait::c.stk.below) a.tmps.toList E fs) (hE:E=E0++E1) (hvs:a.tmps.toList.drop (c.n+c.stk.extra)=vs1) (hb:WfS f0 c.stk.below vs1 E1 fs1) (aqV:ae ρ (St.look ⟨c.tmps,c.H⟩) (aV ρ (St.look ⟨c.tmps,c.H⟩) G) w (.tag id) v):
 ∃l r,v=cr l/\w.heap[l]? =some (.loop r)/\us.length=r.params.size/\
  eX P f0 (iY X K) (Frame.round l r.fn ((r.params.zip us.toArray).foldl (λtmps (t,a)=>tmps.setIfInBounds t a) r.tmps) r.assign r.body .normal) fs w:=by
 unfold yJ at h;split at h;rename_i d L st cI hf;rw[Bool.cond_eq_ite]at h;split at h;rename_i hb1;simp only[and_eq_true]at hb1;have bL:args.length=L.ps.length:=Nat.eq_of_beq_eq_true hb1.1
 have hn1:(E1.map (·.1)).Nodup:=by
  rw[hE,map_append]at hn;exact(nodup_append.1 hn).2.1
 have hdp:=hr.dp.drop (c.n+c.stk.extra);rw[hvs]at hdp;have⟨l,D,v0,g1,g2,g3,g4,g5,g6⟩:=nD hf hb hn1 hdp.get;have kg:=aqV;unfold ae aH at kg;have aqW:cI.length=d.n:=g5 hdp.len;have jt:(l,Obj.loop (st.gg L (d.f.getD f0) v0.toArray D))∈E:=by rw[hE];exact List.mem_append_right _ g3
 have fF:=(hr.kept _ jt).2.2;have hul:us.length=args.length:=(DP.ofL hl).len.symm;refine⟨l,st.gg L (d.f.getD f0) v0.toArray D,kg.1.trans g1,fF,by rw[hul,bL];simp[lA.gg], ?_⟩
 have hsl:DP ρ (St.look ⟨c.tmps,c.H⟩) (aV ρ (St.look ⟨c.tmps,c.H⟩) G) w cI v0:=⟨by rw[aqW,g2],λt=>by
  by_cases ht:t<d.n;exact g4 t ht;have e1:cI.getD t (.s .aF)=.s .aF:=by rw[List.getD,getElem?_eq_none (by omega)];rfl
  rw[e1];unfold ae;trivial⟩
 have eu:=hr.cI ((hsl.kK L.ps hl).append (DP.cons aqV hr.dp));have hv:v=cr l:=kg.1.trans g1;have key:=m6 _ h G E ρ _ w fV gh eu {(default:Frame)with fn:=d.f.getD f0,kind:=.normal,roundOf:=some l} {tmps:=(kK v0 L.ps us).toArray,defers:=[]} fs
  ⟨hn,kK v0 L.ps us,[v],a.tmps.toList,[],[],E,by simp,rfl,rfl,⟨⟨some l,rfl,l,by rw[hv],rfl⟩,rfl,rfl⟩,hw⟩
 have dQ:Frame.round l (st.gg L (d.f.getD f0) v0.toArray D).fn (((st.gg L (d.f.getD f0) v0.toArray D).params.zip us.toArray).foldl (λtmps (t,a)=>tmps.setIfInBounds t a) (st.gg L (d.f.getD f0) v0.toArray D).tmps) (st.gg L (d.f.getD f0) v0.toArray D).assign (st.gg L (d.f.getD f0) v0.toArray D).body .normal
  =Frame.atR {(default:Frame)with fn:=d.f.getD f0,kind:=.normal,roundOf:=some l} {tmps:=(kK v0 L.ps us).toArray,defers:=[]} [.code L.yI,.beginRound,.code L.body]:=by
  have:=acG L.ps us v0;simp only[lA.gg,Frame.round,Frame.atR];rw[<-this]
 rw[dQ];exact key;exact h.elim;exact h.elim
end
section
variable{ρ aO:Nat->Value}{H H':aJ}{G O O':Nat->Prop}{w w':World}{P:Program}{S:fa}{Z:aP}{X:Ctx}{s:St}{a:Act}{K:List au->AV->Prop}{C:aR->Prop}
theorem aaP{t:TypeId}{va v:Value}{w':World}(h:(Instr.loadAt t va).run P w=.ok v w'):(do loadVar t (<-asAddr va):Sem Value).run P w=.ok v w':=by
 cases va with
 |pointer o=>
  cases o with
  |none=>simp[Instr.loadAt,Instr.sureAddr]at h|some x=>simpa[Instr.loadAt,Instr.sureAddr,asAddr]using h
 |_=>simp[Instr.loadAt,Instr.sureAddr]at h
theorem m9(h:b8 X ρ s a w):∀(rs:List ResultVar) {vs:List AV},gk P s rs=some vs->
 ∃us:List Value,(rs.mapM (m:=Sem) λ|.tmp t=>pure (a.tmps.getD t undef)|.cell x t=>do loadVar t (<-asAddr (a.tmps.getD x undef))).run P w=.ok us w/\bH ρ s.look (aV ρ s.look X.G) w vs us
 |[],vs,hv=>by
  simp only[gk,Option.some.injEq]at hv;subst hv;exact⟨[],by simp,bc.2 rfl⟩
 |.tmp t::rs,vs,hv=>by
  simp only[gk,map_eq_some_iff]at hv;obtain⟨vs',h1,rfl⟩:=hv;have⟨us,h2,h3⟩:=m9 h rs h1;refine⟨a.tmps.getD t undef::us, ?_,aG.2 ⟨_,_,rfl,h.den t,h3⟩⟩;simp only[List.mapM_cons,Sem.run_bind,Sem.run_pure,Result.andThen_ok,h2]
 |.cell t T::rs,vs,hv=>by
  simp only[gk]at hv;split at hv;rename_i r vs' hr hrs;split at hv;rename_i e1 e2 e3;simp only[Option.some.injEq]at hv;subst hv;have⟨us,h2,h3⟩:=m9 h rs hrs;have⟨_,_,v,h4,h5⟩:=aaj hr (by rw[e1];trivial) h.sat (h.den t);refine⟨v::us, ?_,aG.2 ⟨_,_,rfl,h5 0,h3⟩⟩;have h6:=aaP h4;simp only[List.mapM_cons];rw[Sem.run_bind,h6];simp only[Result.andThen_ok,Sem.run_bind,h2,Sem.run_pure];cases hv;cases hv
theorem acH{fn:Func}(h:b8 X ρ s a w){vs:List AV}(hv:gk P s fn.results.toList=some vs):∃v,(results fn a.tmps).run P w=.ok v w/\ae ρ s.look (aV ρ s.look X.G) w (oneOf vs) v:=by
 have⟨us,h1,h2⟩:=m9 h _ hv
 have key:(results fn a.tmps).run P w=.ok (if h:us.toArray.size=1 then us.toArray[0]else .tuple us.toArray) w:=by
  unfold results;rw[Array.mapM_eq_mapM_toList];simp only[Sem.run_bind,Sem.run_map];erw [h1];rfl
 refine⟨_,key, ?_⟩;unfold oneOf;split;rename_i x;obtain⟨v,rest,rfl,h3,h4⟩:=aG.1 h2;obtain rfl:=bc.1 h4;simpa using h3;rename_i cG
 have:¬us.toArray.size=1:=by
  intro h0;cases us with
  |nil=>simp at h0|cons u us=>
   cases us with
   |nil=>
    cases vs with
    |nil=>have:=bc.1 h2;cases this
    |cons y ys=>
     have⟨v,rest,e,h3,h4⟩:=aG.1 h2;cases e;cases ys with
     |nil=>exact cG y rfl|cons z zs=>
      have⟨v',avb,e',_⟩:=aG.1 h4;cases e'
   |cons _ _=>simp at h0
 rw[dif_neg this];unfold ae;exact⟨us,rfl,h2⟩
end
section
variable{ρ aO:Nat->Value}{H H':aJ}{G G' O O' O2:Nat->Prop}{w w':World}{P:Program}{S:fa}{Z:aP}{X:Ctx}{s:St}{a:Act}{K:List au->AV->Prop}{C:aR->Prop}{ops:Array Oper}{E E':List (Nat×Obj)}
theorem acI{T:List AV}{vs:List Value}(h:DP ρ H O w T vs)(dst:Option Tmp){x:AV}{v:Value}(hx:ae ρ H O w x v):DP ρ H O w (cO T dst x) (match dst with|some d=>vs.set d v|none=>vs):=by
 cases dst with
 |none=>exact h|some d=>exact h.set d hx
theorem sn{f0:FuncId}{c:aR}{v:AV}{u:Value}{below:List q8}{go:aR->Tree}{vs1:List Value}{fs:List Frame}(h:(resume c v below go).Holds K C)(m6:∀c',(go c').Holds K C->Safe P f0 X K c')
 (fV:∀b,X.G b->G b) (gh:∀b,G b->X.G b\/X.w.heap.size<=b) (hr:b8 (X.at G E) ρ ⟨c.tmps,c.H⟩ a w) (hvs:a.tmps.toList.drop (c.n+c.stk.extra)=vs1) (hb:WfS f0 below vs1 E fs) (hn:(E.map (·.1)).Nodup)
 (hv:ae ρ (St.look ⟨c.tmps,c.H⟩) (aV ρ (St.look ⟨c.tmps,c.H⟩) G) w v u):∃fr fs1,fs=fr::fs1/\eX P f0 (iY X K) (fr.finish u) fs1 w:=by
 unfold resume at h;split at h;rename_i d ds;simp only[]at h;split at h;rename_i ops i rest td hlp mz;simp only[Bool.cond_eq_ite]at h;split at h;rename_i kf;have⟨v0,rv,v2,Ds,E1,E2,b,t,fs2,lv,lE,todo,e1,e2,e3,h1,h2,h3,h4,h5⟩:=hb;rw[hlp]at h5;obtain⟨rfl,rfl,rfl⟩:=h5;rw[mz]at e3;refine⟨_,_,e3, ?_⟩;rw[Frame.finish_atR];have hdp:=acI (hr.dp.drop (c.n+c.stk.extra)) ((ops[i]?).bind (·.dst)) hv;have eu:=hr.cI hdp
 have hdn:∀d',(ops[i]?).bind (·.dst)=some d'->d'<v0.length:=λd' hd=>by
  rw[hd]at kf;rw[h1];simpa[Nat.blt,Nat.lt_iff_add_one_le]using kf
 refine m6 _ h G E ρ _ w fV gh eu b (t.put ((ops[i]?).bind (·.dst)) u) fs2 ⟨hn,match(ops[i]?).bind (·.dst)with|some d'=>v0.set d' u|none=>v0,rv,v2,Ds,E1,E2, ?_,by rw[e2];rfl,h2,⟨h3.fr, ?_,h3.ghost⟩,h4⟩;rw[hvs,e1];cases hd:(ops[i]?).bind (·.dst)with
 |none=>simp|some d'=>
  simp only[List.toList_toArray];rw[List.set_append_left _ _ (hdn d' hd)];simp
 rw[h3.act];cases hd:(ops[i]?).bind (·.dst)with
 |none=>rfl|some d'=>simp[Act.put]
 exact h.elim;exact h.elim;exact h.elim
theorem nF{f0:FuncId}{c:aR}{vs:List Value}{v0 rv v2:List Value}{Ds:List Nat}{E1 E2:List (Nat×Obj)}{b:Frame}{t:Act}{fs:List Frame}(hl:c.tmps.length=vs.length)(e:vs=v0++(rv++(Ds.map dP++v2)))(hd:Ds.length=c.stk.marks)
 (h3:aip f0 c.stk.round v0 rv Ds E1 b t) {f1:FuncId} (h4:WfS f1 c.stk.below v2 E2 fs):v0.length=c.n/\rv.length=gL c.stk.round/\vs.drop (c.n+c.stk.extra)=v2:=by
 have xg:rv.length=gL c.stk.round:=by
  have⟨r,_,h6⟩:=h3.fr;cases hd:c.stk.round<;>rw[hd]at h6<;>simp only[]at h6;rw[h6.1];rfl;obtain⟨l,rfl,_⟩:=h6;rfl
 have h0:v0.length=c.n:=by
  unfold aR.n;rw[hl,e];simp only[length_append,length_map,xg,hd,h4.len,bt.extra];omega
 refine⟨h0,xg, ?_⟩;rw[e,show v0++(rv++(Ds.map dP++v2))=(v0++(rv++Ds.map dP))++v2 from by simp];exact List.drop_left' (by simp only[length_append,length_map,xg,hd,h0,bt.extra])
theorem acJ{f0:FuncId}{c:aR}{fn g:Func}{vs:List AV}{go:aR->Tree}{b:Frame}{t:Act}{fs:List Frame}{todo:List Item}(hf:P.funcs[f0]? =some fn)(hg:c.stk.fn P fn=some g)(dQ:c.stk.round=false)
 (aoD:gk P ⟨c.tmps.take c.n,c.H⟩ g.results.toList=some vs) (h:(adU c (oneOf vs) go).Holds K C) (m6:∀c',(go c').Holds K C->Safe P f0 X K c')
 (fV:∀b,X.G b->G b) (gh:∀b,G b->X.G b\/X.w.heap.size<=b) (hr:b8 (X.at G E) ρ ⟨c.tmps,c.H⟩ a w) (hw:Wf f0 c.stk a.tmps.toList E b t fs):
 eX P f0 (iY X K) {b.atR t todo with mode:=.returning} fs w:=by
 obtain⟨hn,v0,rv,v2,Ds,E1,E2,e1,rfl,hd,h3,h4⟩:=hw;have⟨l0,l1,l2⟩:=nF hr.dp.len e1 hd h3 h4;have hgE:=h3.ghost;subst hgE;have hb:=h3.fr;rw[dQ]at hb;obtain⟨r,rfl,xg,hrr⟩:=hb;subst xg hrr;have xh:=h3.act;subst xh;have⟨w',eu,q7⟩:=uN (P:=P) Ds (fr:={Frame.atR {(default:Frame)with fn:=c.stk.f.getD f0,kind:=.normal,roundOf:=none} {tmps:=v0.toArray,defers:=Ds.map oE} todo with mode:=.returning}) hn hr rfl rfl
 have yr:(E2.map (·.1)).Nodup:=by
  rw[map_append]at hn;exact(nodup_append.1 hn).2.1
 have og:DP ρ (St.look ⟨c.tmps,c.H⟩) (aV ρ (St.look ⟨c.tmps,c.H⟩) G) w' (c.tmps.take c.n) v0:=by
  have:=eu.dp.take c.n;rw[e1,List.take_left' l0]at this;exact this
 have hrt:=eu.cI og;have⟨u,eG,kg⟩:=acH (fn:=g) hrt aoD
 have hfn:P.funcs[c.stk.f.getD f0]? =some g:=by
  unfold bt.fn at hg;split at hg;rename_i h0;rw[h0];cases hg;exact hf;rename_i g' h0;rw[h0];exact hg
 let fr:Frame:={Frame.atR {(default:Frame)with fn:=c.stk.f.getD f0,kind:=.normal,roundOf:=none} {tmps:=v0.toArray,defers:=Ds.map oE} todo with mode:=.returning,defers:=[]};have kO:fr.leaving P w' (.returned u):=⟨rfl,rfl,rfl,g,hfn,eG⟩;refine eX.steps (λcs=>q7 (fs++cs)) ?_;show eX P f0 (iY X K) fr fs w';have al0:a.tmps.toList.drop (c.n+c.stk.extra)=v2:=l2;unfold adU at h;split at h;rename_i aoJ;rw[aoJ]at h4;obtain⟨_,_,rfl⟩:=h4;intro cs;rw[Bool.cond_eq_ite]at h;split at h;rename_i hk;refine⟨.returned u,w',fr,iY.aiv fV gh eu kg h,Steps.refl _ _, ?_,kO⟩;show c.stk.f.getD f0=f0;rw[Option.isNone_iff_eq_none.1 hk];rfl;exact h.elim;rename_i d ds aoJ;split at h;rename_i hlp;obtain⟨fr1,fs1,rfl,key⟩:=sn h m6 fV gh eu al0 h4 yr kg;exact eX.steps (λcs=>.one (step_leave_returned kO)) key;exact h.elim;rename_i L st atI hlp;rw[aoJ]at h4;have⟨o9,rv',v2',Ds',E1',E2',b',t',fs2,lv,lE,avc,e1',e2',e3',h1',h2',h3',h4',h5'⟩:=h4;rw[hlp]at h5';obtain⟨l,D,rfl,rfl,rfl⟩:=h5';subst e3' e2';have jt:(l,Obj.loop (st.gg L (d.f.getD f0) o9.toArray D))∈(E1'++([(l,Obj.loop (st.gg L (d.f.getD f0) o9.toArray D))]++E2')):=by simp
 have fF:=(eu.kept _ jt).2.2
 have hnb:(st.gg L (d.f.getD f0) o9.toArray D).state≠.busy:=by
  unfold lA.gg;cases st with
  |busy=>exact absurd rfl (atI)|ready=>simp|done c=>simp
 have al1:=run_endLoop (P:=P) fF hnb
 have hl1:l ∉ E1'.map (·.1):=by
  intro hm;rw[map_append]at yr;exact(nodup_append.1 yr).2.2 l hm l (by simp) rfl
 have pn:l ∉ E2'.map (·.1):=by
  intro hm;rw[map_append,map_append]at yr;exact(nodup_append.1 (nodup_append.1 yr).2.1).2.2 l (by simp) l hm rfl
 have hr2:b8 (X.at G (E1'++E2')) ρ ⟨c.tmps,c.H⟩ a (w'.putObj l (.loop {st.gg L (d.f.getD f0) o9.toArray D with state:=.exhausted})):=
  eu.alY jt (λy hy=>.inl (by
   rcases mem_append.1 hy with h6|h6;exact⟨by simp[h6],λe=>hl1 (e▸List.mem_map_of_mem (f:=Prod.fst) h6)⟩;exact⟨by simp[h6],λe=>pn (e▸List.mem_map_of_mem (f:=Prod.fst) h6)⟩))
 have hn3:((E1'++E2').map (·.1)).Nodup:=by
  rw[map_append,map_append]at yr;rw[map_append];have⟨n1,n2,n3⟩:=nodup_append.1 yr;exact nodup_append.2 ⟨n1,(nodup_append.1 n2).2.1,λx hx y hy=>n3 x hx y (List.mem_append_right _ hy)⟩
 have hdp:DP ρ (St.look ⟨c.tmps,c.H⟩) (aV ρ (St.look ⟨c.tmps,c.H⟩) G) (w'.putObj l (.loop {st.gg L (d.f.getD f0) o9.toArray D with state:=.exhausted}))
  ((c.tmps.drop (c.n+c.stk.extra)).take (d.n+gL d.round+d.marks)++(c.tmps.drop (c.n+c.stk.extra)).drop (d.n+gL d.round+d.marks+1)) (o9++(rv'++(Ds'.map dP++v2'))):=by
  have aqX:rv'.length=gL d.round:=by
   have⟨r,_,h6⟩:=h3'.fr;cases hd:d.round<;>rw[hd]at h6<;>simp only[]at h6;rw[h6.1];rfl;obtain⟨l,rfl,_⟩:=h6;rfl
  have h6:=hr2.dp.drop (c.n+c.stk.extra);rw[al0,e1']at h6;have h7:=(h6.take (d.n+gL d.round+d.marks)).append (h6.drop (d.n+gL d.round+d.marks+1));rw[show o9++(rv'++(Ds'.map dP++([cr l]++v2')))=(o9++(rv'++Ds'.map dP))++([cr l]++v2')from by simp]at h7
  rw[List.take_left' (by simp only[length_append,length_map,aqX,h1',h2'];omega),show(o9++(rv'++Ds'.map dP))++([cr l]++v2')=((o9++(rv'++Ds'.map dP))++[cr l])++v2' from by simp,
   List.drop_left' (by simp only[length_append,length_map,aqX,h1',h2',length_cons,length_nil];omega)]at h7
  rw[append_assoc,append_assoc]at h7;exact h7
 have hr3:=hr2.cI hdp;have key:=m6 _ h G (E1'++E2') ρ _ _ fV gh hr3 b' t' fs2 ⟨hn3,o9,rv',v2',Ds',E1',E2',by simp,rfl,h2',h3',h4'⟩;refine eX.steps (λcs=>.head (step_leave_returned kO) ?_) key;rw[finish_atR_inRangeFunc];refine .one ?_;have:=stepR_endRangeFunc (P:=P) (b:=b') (a:=t') (k:=d.todo) (cs:=fs2++cs) al1;rw[List.append_eq];rw[this];cases st<;>rfl
theorem pa{f0:FuncId}{c:aR}{jump:Option Code}{go:aR->Tree}{b:Frame}{t:Act}{fs:List Frame}{todo:List Item}(dQ:c.stk.round=true)
 (h:(aaG c jump go).Holds K C) (m6:∀c',(go c').Holds K C->Safe P f0 X K c')
 (fV:∀b,X.G b->G b) (gh:∀b,G b->X.G b\/X.w.heap.size<=b) (hr:b8 (X.at G E) ρ ⟨c.tmps,c.H⟩ a w) (hw:Wf f0 c.stk a.tmps.toList E b t fs)
 (aqY:∀(l:Nat) (w':World) (c0:Frame) (cs:List Frame),b.roundOf=some l->b.kind=.normal->(Instr.endRound l jump).run P w=.ok (.bool jump.isNone) w'->step P (lone (b.atR t todo) (c0::cs) w)=.next (lone (c0.finish (.bool jump.isNone)) cs w')):
 eX P f0 (iY X K) (b.atR t todo) fs w:=by
 obtain⟨hn,v0,rv,v2,Ds,E1,E2,e1,rfl,hd,h3,h4⟩:=hw;have⟨l0,l1,l2⟩:=nF hr.dp.len e1 hd h3 h4;have hb:=h3.fr;rw[dQ]at hb;obtain⟨r,rfl,l,xg,hrr⟩:=hb;subst xg hrr;unfold aaG at h;split at h;rename_i id dU;rw[Bool.cond_eq_ite]at h;split at h;rename_i hm
 have hD0:Ds=[]:=by
  have:=Nat.eq_of_beq_eq_true hm;exact List.eq_nil_of_length_eq_zero (hd.trans this)
 subst hD0;have hgE:E1=[]:=h3.ghost;subst hgE;split at h;rename_i y hf;have⟨d,L,st,cI⟩:=y;have hdp:=hr.dp.drop (c.n+c.stk.extra);rw[l2]at hdp;have yr:(E2.map (·.1)).Nodup:=by simpa using hn
 have⟨l',D,o9,g1,g2,g3,g4,g5,g6⟩:=nD hf h4 yr hdp.get
 have iF:a.tmps.toList.getD c.n undef=cr l:=by
  rw[e1,List.getD,List.getElem?_append_right (by omega),show c.n - v0.length=0 from by omega];rfl
 have kg:=hr.dp.get c.n;rw[dU,iF]at kg;unfold ae aH at kg;have hll:l'=l:=uO (g1.symm.trans kg.1.symm);subst hll;have fF:=(hr.kept _ (show _∈([]++E2)from g3)).2.2;have al1:=run_endRound (P:=P) jump fF
 have atJ:({st.gg L (d.f.getD f0) o9.toArray D with state:=if jump.isNone then .ready else .done,pending:=jump}:Loop)=(match jump with|none=>lA.ready|some j=>lA.done j).gg L (d.f.getD f0) o9.toArray D:=by
  cases jump<;>rfl
 rw[atJ]at al1
 have hr2:b8 (X.at G (upE l' (Obj.loop ((match jump with|none=>lA.ready|some j=>lA.done j).gg L (d.f.getD f0) o9.toArray D)) E2)) ρ ⟨c.tmps,c.H⟩ a (w.putObj l' (Obj.loop ((match jump with|none=>lA.ready|some j=>lA.done j).gg L (d.f.getD f0) o9.toArray D))):=
  hr.alY (show(l',Obj.loop (st.gg L (d.f.getD f0) o9.toArray D))∈([]++E2)from g3) (λy hy=>by
   rcases ad1 y hy with h6|h6;exact .inl h6;exact .inr h6)
 obtain⟨fr1,fs1,rfl,key⟩:=sn (u:=.bool jump.isNone) h m6 fV gh hr2 l2 (g6 _) (by rw[aaM];exact yr) (aC (.ao _));exact eX.steps (λcs=>.one (aqY l' _ fr1 (fs1++cs) rfl rfl al1)) key;exact h.elim;exact h.elim;exact h.elim
theorem so{f0 f:FuncId}{c:aR}{c8:List AV}{cvs:List Value}{L:Lp}{td:List Item}{go:aR->Tree}{b:Frame}{t:Act}{fs:List Frame}{g:Operand}{yI body:Code}{ps:Array Tmp}(hL:L=⟨ps.toList,yI,body⟩)
 (h:(yK P c f c8 L td go).Holds K C) (m6:∀c',(go c').Holds K C->Safe P f0 X K c')
 (fV:∀b,X.G b->G b) (gh:∀b,G b->X.G b\/X.w.heap.size<=b) (hr:b8 (X.at G E) ρ ⟨c.tmps,c.H⟩ a w) (hw:Wf f0 c.stk a.tmps.toList E b t fs)
 (hg:t.eval g=.func (.func f) #[] cvs.toArray) (hl:bH ρ (St.look ⟨c.tmps,c.H⟩) (aV ρ (St.look ⟨c.tmps,c.H⟩) G) w c8 cvs):
 eX P f0 (iY X K) (b.atR t (.code (.rangeFunc g ps yI body)::td)) fs w:=by
 unfold yK at h;rw[Bool.cond_eq_ite]at h;split at h;exact h.elim;rename_i dQ;have dQ:c.stk.round=false:=by simpa using dQ
 obtain⟨hn,v0,rv,v2,Ds,E1,E2,e1,rfl,hd,h3,h4⟩:=hw;have⟨l0,l1,l2⟩:=nF hr.dp.len e1 hd h3 h4;have hb:=h3.fr;rw[dQ]at hb;obtain⟨r,rfl,xg,hrr⟩:=hb;subst xg hrr;have hgE:=h3.ghost;subst hgE;have xh:=h3.act;subst xh;let Dn:=w.heap.size;let ln:=w.heap.size+1;let pS:Loop:=lA.ready.gg L (c.stk.f.getD f0) v0.toArray Dn;have⟨r1,s1⟩:=hr.grow (.deferred (some [])) (dP Dn);have⟨r2,s2⟩:=r1.grow (.loop pS) (cr ln);have cn:(w.alloc (.deferred (some []))).heap.size=ln:=dN;rw[cn]at r2 s2
 have hold:∀x∈(Ds.map (λD=>(D,Obj.deferred (some [])))++E2).map (·.1),x<Dn:=λx hx=>by
  obtain⟨y,hy,rfl⟩:=mem_map.1 hx;exact(Array.getElem?_eq_some_iff.1 (hr.kept y hy).2.2).1
 have r3:=r2.sub (E':=(Dn::Ds).map (λD=>(D,Obj.deferred (some [])))++([(ln,Obj.loop pS)]++E2)) (λy hy=>by
  simp only[map_cons,cons_append,mem_cons,mem_append,List.nil_append]at hy ⊢;rcases hy with rfl|hy|rfl|hy;exact .inr (.inl rfl);exact .inr (.inr (.inl hy));exact .inl rfl;exact .inr (.inr (.inr hy)))
 have hn3:(((Dn::Ds).map (λD=>(D,Obj.deferred (some [])))++([(ln,Obj.loop pS)]++E2)).map (·.1)).Nodup:=by
  rw[map_append]at hn;have⟨n1,n2,n3⟩:=nodup_append.1 hn;rw[map_append,map_append];refine nodup_append.2 ⟨?_, ?_, ?_⟩;rw[map_cons,map_cons,List.nodup_cons];exact⟨λhm=>absurd (hold Dn (by rw[map_append];exact List.mem_append_left _ hm)) (Nat.lt_irrefl _),n1⟩;rw[map_cons,List.map_nil,List.singleton_append,List.nodup_cons];exact⟨λhm=>absurd (hold ln (by rw[map_append];exact List.mem_append_right _ hm)) (by omega),n2⟩;intro x hx y hy hxy;subst hxy;simp only[map_cons,List.map_nil,mem_cons,mem_append,List.not_mem_nil,or_false]at hx hy;rcases hx with rfl|hx;rcases hy with hy|hy;omega;exact absurd (hold Dn (by rw[map_append];exact List.mem_append_right _ hy)) (Nat.lt_irrefl _);rcases hy with rfl|hy;exact absurd (hold ln (by rw[map_append];exact List.mem_append_left _ hx)) (by omega);exact n3 x hx x hy rfl
 let L0:=c.H++[au.aW]++[au.aW];let G2:Nat->Prop:=λb=>(G b\/b=w.heap.size)\/b=ln;let eB:=o8 (o8 ρ c.H.length (dP Dn)) (c.H++[au.aW]).length (cr ln);have avd:(c.H++[au.aW]).length=c.H.length+1:=by simp
 have atK:eB (c.H.length+1)=cr ln:=by simp[eB,o8]
 have atL:eB c.H.length=dP Dn:=by simp[eB,o8]
 have aqZ:(St.look ⟨c.tmps,L0⟩) c.H.length=some .aW:=by simp[St.look,L0]
 have aq0:(St.look ⟨c.tmps,L0⟩) (c.H.length+1)=some .aW:=by simp[St.look,L0]
 have d3:=r3.dp
 have atM:ae eB (St.look ⟨c.tmps,L0⟩) (aV eB (St.look ⟨c.tmps,L0⟩) G2) ((w.alloc (.deferred (some []))).alloc (.loop pS)) (.tag c.H.length) (dP Dn):=by
  unfold ae aH;exact⟨atL.symm,rfl,by rw[aqZ];rfl⟩
 have aq1:ae eB (St.look ⟨c.tmps,L0⟩) (aV eB (St.look ⟨c.tmps,L0⟩) G2) ((w.alloc (.deferred (some []))).alloc (.loop pS)) (.tag (c.H.length+1)) (cr ln):=by
  unfold ae aH;exact⟨atK.symm,rfl,by rw[aq0];rfl⟩
 have atN:DP eB (St.look ⟨c.tmps,L0⟩) (aV eB (St.look ⟨c.tmps,L0⟩) G2) ((w.alloc (.deferred (some []))).alloc (.loop pS))
  (c.tmps.take c.n++.tag c.H.length::((c.tmps.drop c.n).take c.stk.marks++.tag (c.H.length+1)::c.tmps.drop (c.n+c.stk.marks))) (v0++([]++((Dn::Ds).map dP++([cr ln]++v2)))):=by
  have e2:a.tmps.toList=v0++(Ds.map dP++v2):=by simpa using e1
  have a1:=d3.take c.n;have a2:=(d3.drop c.n).take c.stk.marks;have a3:=d3.drop (c.n+c.stk.marks);rw[e2,List.take_left' l0]at a1;rw[e2,List.drop_left' l0,List.take_left' (by rw[length_map,hd])]at a2;rw[e2,show v0++(Ds.map dP++v2)=(v0++Ds.map dP)++v2 from by simp,List.drop_left' (by rw[length_append,length_map,hd,l0])]at a3;have:=a1.append (DP.cons atM (a2.append (DP.cons aq1 a3)));exact this
 have r4:=r3.cI atN;have atO:Step ρ (St.look ⟨c.tmps,c.H⟩) (aV ρ (St.look ⟨c.tmps,c.H⟩) G) w eB (St.look ⟨c.tmps,L0⟩) (aV eB (St.look ⟨c.tmps,L0⟩) G2) ((w.alloc (.deferred (some []))).alloc (.loop pS)):=s1.trans s2
 have ef:bH eB (St.look ⟨c.tmps,L0⟩) (aV eB (St.look ⟨c.tmps,L0⟩) G2) ((w.alloc (.deferred (some []))).alloc (.loop pS)) (.tag (c.H.length+1)::c8) (cr ln::cvs):=
  aG.2 ⟨_,_,rfl,aq1,bH.step atO _ _ hl⟩
 have ad2:WfS f0 (⟨c.stk.f,c.n,false,c.stk.marks+1,some (L,.ready),td,((hI L.body).getD 0,0)⟩::c.stk.below) (v0++([]++((Dn::Ds).map dP++([cr ln]++v2))))
  ((Dn::Ds).map (λD=>(D,Obj.deferred (some [])))++([(ln,Obj.loop pS)]++E2))
  ((Frame.atR {(default:Frame)with fn:=c.stk.f.getD f0,kind:=.normal,roundOf:=none} {tmps:=v0.toArray,defers:=(Dn::Ds).map oE} (.inRangeFunc ln::td))::fs):=
  ⟨v0,[],v2,Dn::Ds,_,E2,_,_,fs,[cr ln],[(ln,Obj.loop pS)],_,rfl,rfl,rfl,l0,by simp[hd],⟨⟨none,rfl,rfl,rfl⟩,rfl,rfl⟩,h4,⟨ln,Dn,rfl,rfl,rfl⟩⟩
 have key:=sm (us:=cr ln::cvs) h m6 (λb hb=>.inl (.inl (fV b hb))) (λb hb=>by
  have hle:X.w.heap.size<=w.heap.size:=hr.cu.size;rcases hb with(hb|hb)|hb;exact gh b hb;exact .inr (by omega);exact .inr (by omega)) r4 ef hn3 (by simpa using ad2)
 have⟨er,key⟩:=key;refine eX.steps (λcs=>.one ?_) key;have he:=run_enterLoop_outer (P:=P) (w:=w) (c.stk.f.getD f0) v0.toArray ps yI body
 have aq2:pS={state:=.ready,pending:=none,fn:=c.stk.f.getD f0,tmps:=v0.toArray,params:=ps,assign:=yI,body:=body,defers:=w.heap.size}:=by
  simp only[pS,lA.gg,hL,Dn]
 rw[<-aq2]at he;refine stepR_rangeFunc (b:={(default:Frame)with fn:=c.stk.f.getD f0,kind:=.normal,roundOf:=none}) (a:={tmps:=v0.toArray,defers:=Ds.map oE}) (ps:=ps) (assign:=yI) (body:=body) (w:=w) (l:=ln) (w₁':=(w.alloc (.deferred (some []))).alloc (.loop pS)) (d:={target:=.fn (.func f) cvs.toArray,args:= #[cr ln]}) he ?_ ?_;simp only[resolve,hg];simp[go_sem,cr,ln];have:=dW er (#[cr ln]++cvs.toArray) ((w.alloc (.deferred (some []))).alloc (.loop pS));simp only[invoke];rw[this];simp
end
section
variable{ρ aO:Nat->Value}{H H':aJ}{G O O':Nat->Prop}{w w':World}{P:Program}{S:fa}{Z:aP}{X:Ctx}{s:St}{a:Act}{K:List au->AV->Prop}{C:aR->Prop}{ops:Array Oper}
def wpC(P:Program)(ops:Array Oper)(Q:Act->World->Prop):Nat->Array Bool->Act->World->Prop
 |0,_,a,w=>Q a w|fuel+1,listed,a,w=>Region.ready .any ops listed≠[]/\∀i∈Region.ready .any ops listed,wpOp P ops (λe a w=>e=.normal/\Q a w) i (wpC P ops Q fuel (listed.setIfInBounds i true)) a w
theorem afG{Q:Act->World->Prop}:∀(fuel t:Nat) (listed:Array Bool) (a:Act) (w:World),wpC P ops Q fuel listed a w->
 wpOps P ops (λe a w=>e=.normal/\Q a w) (Region.linearise.go .any ops fuel t listed []) a w:=by
 intro fuel
 induction fuel with
 |zero=>intro t listed a w h;simpa[Region.linearise.go,wpOps,wpC]using h
 |succ fuel ih=>
  intro t listed a w h;have⟨h₀,h₁⟩:=h;simp only[Region.linearise.go]
  change wpOps P ops _ (match(Region.ready .any ops listed)[t%(Region.ready .any ops listed).length]? with
   |some i=>Region.linearise.go .any ops fuel (t / (Region.ready .any ops listed).length) (listed.setIfInBounds i true) [i]|none=>[].reverse) a w
  cases hi:(Region.ready .any ops listed)[t%(Region.ready .any ops listed).length]? with
  |none=>
   exfalso;cases hr:Region.ready .any ops listed with
   |nil=>exact h₀ hr|cons x xs=>
    rw[hr]at hi;have a8:t%(x::xs).length<(x::xs).length:=Nat.mod_lt _ (by simp);simp at hi;simp at a8;omega
  |some i=>
   simp only[];rw[linearise_go_acc,List.reverse_singleton,List.singleton_append,wpOps_cons];exact wpOp_mono (λa w=>ih _ _ a w) (h₁ i (List.mem_of_getElem? hi))
theorem fU{listed:Array Bool}{i:Nat}(hi:i∈Region.ready .any ops listed):i<ops.size/\listed.getD i true=false/\∃o,ops[i]? =some o/\∀e∈o.after,Region.binds .any e=true->listed.getD e.on false=true:=by
 simp only[Region.ready,List.mem_filter,mem_range,and_eq_true]at hi;have⟨h1,h2,h3⟩:=hi;refine⟨h1,by simpa using h2, ?_⟩;cases ho:ops[i]? with
 |none=>rw[ho]at h3;simp at h3|some o=>
  rw[ho]at h3;simp only[map_some,getD_some,Array.all_eq_true]at h3;refine⟨o,rfl,λe he hb=> ?_⟩;obtain⟨n,hn,rfl⟩:=Array.mem_iff_getElem.1 he;have:=h3 n hn;rw[hb]at this;simpa using this
theorem uP{listed:Array Bool}(cn:listed.size=ops.size)(heb:dL ops=true){i:Nat}(hi:i<ops.size)(hn:listed.getD i true=false)(hl:∀k,k<i->listed.getD k true=true):i∈Region.ready .any ops listed:=by
 simp only[Region.ready,List.mem_filter,mem_range,and_eq_true];have ho:ops[i]? =some ops[i]:=Array.getElem?_eq_getElem hi;refine⟨hi,by simpa using hn, ?_⟩;rw[ho];simp only[map_some,getD_some,Array.all_eq_true];intro n hn;have hb:dL ops=true:=heb;simp only[dL,all_eq_true,mem_range]at hb;have hb:=hb i hi;rw[ho]at hb;simp only[Array.all_eq_true]at hb;have hb:=hb n hn;cases hbi:Region.binds .any (ops[i].after[n])with
 |false=>simp|true=>
  rw[hbi]at hb;have hon:(ops[i].after[n]).on<i:=by simpa[Nat.blt,Nat.lt_iff_add_one_le]using hb
  have cG:=hl _ hon;have c9:(ops[i].after[n]).on<listed.size:=by omega
  simp only[Array.getD,c9,dif_pos]at cG ⊢;simpa using cG
theorem uQ{j i k:Nat}(h:uI ops j=true)(hi:i<ops.size)(hj:j<=i)(hk:k<i):gu ops i k=true:=by
 have h1:=all_eq_true.1 h i (mem_range.2 hi);rw[Bool.or_eq_true]at h1;rcases h1 with h1|h1;have:i<j:=by simpa[Nat.blt,Nat.lt_iff_add_one_le]using h1
 omega;exact all_eq_true.1 h1 k (mem_range.2 hk)
def Down(ops:Array Oper)(listed:Array Bool):Prop:=∀i o,ops[i]? =some o->listed.getD i false=true->∀e∈o.after,Region.binds .any e=true->listed.getD e.on false=true
theorem afH{listed:Array Bool}{i:Nat}(h:listed.getD i false=true):listed.getD i true=true:=by
 simp only[getD_eq_getD_getElem?]at h ⊢;cases hx:listed[i]? with
 |none=>rw[hx]at h;simp at h|some b=>rw[hx]at h;simpa using h
theorem na{listed:Array Bool}(hd:Down ops listed){i k:Nat}(hi:i∈Region.ready .any ops listed)(ha:gu ops i k=true):listed.getD k true=true:=by
 have⟨h1,h2,o,ho,h3⟩:=fU hi;exact afH (iM (L:=λi=>listed.getD i false=true) hd 9 ho h3 ha)
theorem Down.set{listed:Array Bool}(hd:Down ops listed){i:Nat}(hi:i∈Region.ready .any ops listed):Down ops (listed.setIfInBounds i true):=by
 have⟨h1,h2,o,ho,h3⟩:=fU hi
 have eT:∀j,listed.getD j false=true->(listed.setIfInBounds i true).getD j false=true:=λj hj=>by
  simp only[getD_eq_getD_getElem?,Array.getElem?_setIfInBounds]at hj ⊢;split;split<;>simp_all;exact hj
 intro k o' c5 ep e he hb;by_cases hif:k=i;subst hif;rw[ho]at c5;cases c5;exact eT _ (h3 e he hb);refine eT _ (hd k o' c5 ?_ e he hb);simp only[getD_eq_getD_getElem?,Array.getElem?_setIfInBounds,if_neg (Ne.symm hif)]at ep ⊢;exact ep
theorem ad3{listed:Array Bool}(cn:listed.size=ops.size){i k:Nat}(hi:i<ops.size):(listed.setIfInBounds i true).getD k true=if k=i then true else listed.getD k true:=by
 simp only[getD_eq_getD_getElem?,Array.getElem?_setIfInBounds];by_cases yO:i=k;subst yO;simp[cn,hi];simp[yO,Ne.symm yO]
theorem ad4(heb:dL ops=true){j:Nat}(hc:uI ops j=true):∀(m t i:Nat) (listed:Array Bool),i+m=ops.size->j<=i->listed.size=ops.size->Down ops listed->(∀k,k<ops.size->(listed.getD k true=false↔i<=k))->
 Region.linearise.go .any ops m t listed []=range' i m
 |0,t,i,listed,_,_,_,_,_=>rfl|m+1,t,i,listed,him,hj,cn,hd,hl=>by
  have hr:Region.ready .any ops listed=[i]:=by
   have jt:i∈Region.ready .any ops listed:=uP cn heb (by omega) ((hl i (by omega)).2 (le_refl _)) (λk hk=>by
    cases h:listed.getD k true with
    |true=>rfl|false=>have:=(hl k (by omega)).1 h;omega)
   have xJ:∀k∈Region.ready .any ops listed,k=i:=λk hk=>by
    have⟨h1,h2,_⟩:=fU hk;have h3:=(hl k h1).1 h2;rcases lt_or_ge i k with h4|h4;have:=na hd hk (uQ hc h1 (by omega) h4);rw[(hl i (by omega)).2 (le_refl _)]at this;cases this;omega
   have gl:(Region.ready .any ops listed).Nodup:=List.Nodup.sublist List.filter_sublist List.nodup_range;generalize Region.ready .any ops listed=l at *
   match l,jt,xJ,gl with
   |[x],jt,xJ,gl=>rw[xJ x (by simp)]
   |x::y::l,jt,xJ,gl=>
    have h1:=xJ x (by simp);have h2:=xJ y (by simp);rw[h1,h2]at gl;simp at gl
  simp only[Region.linearise.go]
  change (match(Region.ready .any ops listed)[t%(Region.ready .any ops listed).length]? with
   |some i=>Region.linearise.go .any ops m (t / (Region.ready .any ops listed).length) (listed.setIfInBounds i true) [i]|none=>[].reverse)=_
  rw[hr];simp only[List.length_singleton,Nat.mod_one,List.getElem?_cons_zero];rw[linearise_go_acc,List.reverse_singleton,List.singleton_append,List.range'_succ];congr 1;have jt:i∈Region.ready .any ops listed:=by rw[hr];simp
  refine ad4 heb hc m _ (i+1) _ (by omega) (by omega) (by simp[cn]) (hd.set jt) (λk hk=> ?_);rw[ad3 cn (by omega)];by_cases hki:k=i;subst hki;simp;rw[if_neg hki,hl k hk];omega
theorem aaQ(heb:dL ops=true){j:Nat}(hj:j<=ops.size)(hc:uI ops j=true):∀(m t:Nat) (listed:Array Bool) (us:List Nat),us.length=m->us.Nodup->(∀i∈us,i<j)->listed.size=ops.size->Down ops listed->
 (∀k,k<ops.size->(listed.getD k true=false↔k∈us\/j<=k))->Region.linearise.go .any ops (m+(ops.size - j)) t listed []=Region.linearise.go .any ops m t listed []++range' j (ops.size - j)
 |0,t,listed,us,hm,_,_,cn,hd,hl=>by
  obtain rfl:us=[]:=List.length_eq_zero_iff.1 hm;rw[zero_add,ad4 heb hc (ops.size - j) t j listed (by omega) (le_refl _) cn hd (λk hk=>by rw[hl k hk];simp)];rfl
 |m+1,t,listed,us,hm,gl,a8,cn,hd,hl=>by
  rw[show m+1+(ops.size - j)=(m+(ops.size - j))+1 from by omega];simp only[Region.linearise.go]
  change (match(Region.ready .any ops listed)[t%(Region.ready .any ops listed).length]? with
   |some i=>Region.linearise.go .any ops (m+(ops.size - j)) (t / (Region.ready .any ops listed).length) (listed.setIfInBounds i true) [i]|none=>[].reverse)=(match(Region.ready .any ops listed)[t%(Region.ready .any ops listed).length]? with
   |some i=>Region.linearise.go .any ops m (t / (Region.ready .any ops listed).length) (listed.setIfInBounds i true) [i]|none=>[].reverse)++_
  obtain⟨mn,hmn,atP⟩:∃i∈us,∀k∈us,i<=k:=by
   cases us with
   |nil=>simp at hm|cons x xs=>
    clear gl a8 hl hm
    induction xs generalizing x with
    |nil=>exact⟨x,by simp,by simp⟩
    |cons y ys ih=>
     have⟨i,h1,h2⟩:=ih y;rcases Nat.le_total x i with h3|h3
     exact⟨x,by simp,λk hk=>by
      rcases mem_cons.1 hk with rfl|hk;exact le_refl _;exact le_trans h3 (h2 k hk)⟩
     exact⟨i,List.mem_cons_of_mem _ h1,λk hk=>by
      rcases mem_cons.1 hk with rfl|hk;exact h3;exact h2 k hk⟩
  have hr0:mn∈Region.ready .any ops listed:=by
   have h1:=a8 mn hmn;refine uP cn heb (by omega) ((hl mn (by omega)).2 (.inl hmn)) (λk hk=> ?_);cases h:listed.getD k true with
   |true=>rfl|false=>
    rcases(hl k (by omega)).1 h with h2|h2;have:=atP k h2;omega;omega
  cases hi:(Region.ready .any ops listed)[t%(Region.ready .any ops listed).length]? with
  |none=>
   exfalso;cases hr:Region.ready .any ops listed with
   |nil=>rw[hr]at hr0;simp at hr0|cons x xs=>
    rw[hr]at hi;have a8:t%(x::xs).length<(x::xs).length:=Nat.mod_lt _ (by simp);simp at hi;simp at a8;omega
  |some i=>
   simp only[];have jt:=List.mem_of_getElem? hi;have⟨h1,h2,_⟩:=fU jt
   have kT:i∈us:=by
    rcases(hl i h1).1 h2 with h3|h3;exact h3;have h4:=a8 mn hmn;have:=na hd jt (uQ hc h1 h3 (show mn<i by omega));rw[(hl mn (by omega)).2 (.inl hmn)]at this;cases this
   rw[linearise_go_acc _ _ (m+(ops.size - j)),linearise_go_acc _ _ m,append_assoc];congr 1;refine aaQ heb hj hc m _ _ (us.erase i) (by rw[List.length_erase_of_mem kT];omega) (gl.erase i) (λk hk=>a8 k (List.mem_of_mem_erase hk)) (by simp[cn]) (hd.set jt) (λk hk=> ?_);rw[ad3 cn h1];by_cases hki:k=i;subst hki;have:=a8 k kT;simp only[if_true,Bool.true_eq_false,false_iff,not_or];exact⟨λh=>(List.Nodup.not_mem_erase gl) h,by omega⟩;rw[if_neg hki,hl k hk,List.Nodup.mem_erase_iff gl];simp[hki]
theorem uR(heb:dL ops=true){j:Nat}(hj:j<=ops.size)(hc:uI ops j=true)(t:Nat):
 Region.linearise .any ops t=Region.linearise.go .any ops j t (Array.replicate ops.size false) []++range' j (ops.size - j):=by
 have:=aaQ heb hj hc j t (Array.replicate ops.size false) (List.range j) List.length_range List.nodup_range (λi hi=>mem_range.1 hi) (by simp)
  (λi o _ hi=>by rw[getD_eq_getD_getElem?,Array.getElem?_replicate]at hi;split at hi<;>simp at hi) (λk hk=>by
    simp only[getD_eq_getD_getElem?,Array.getElem?_replicate,hk,if_true,getD_some,true_iff,mem_range];omega)
 rw[show j+(ops.size - j)=ops.size from by omega]at this;exact this
theorem yS{j0:Nat}(afI:uI ops j0=true)(hS:SOk P S Z)(mu:cE Z X)(heb:dL ops=true){T':List AV}{H':aJ}{Q:Act->World->Prop}(hQ:∀aO a' w',lC X aO T' H' a' w'->Q a' w'):
 ∀(fuel:Nat) (listed:Array Bool) (es:List El) (T:List AV) (H:aJ) (ρ:Nat->Value) (a:Act) (w:World),es.length=fuel->listed.size=ops.size->es.Pairwise (oZ ops)->
 (∀e∈es,e.i<j0)->(∀i,i<ops.size->(listed.getD i true=false↔(∃e∈es,e.i=i)\/j0<=i))->(∀i o,ops[i]? =some o->listed.getD i false=true->∀e∈o.after,Region.binds .any e=true->listed.getD e.on false=true)->lC X ρ T H a w->m4 P S ops T H es T' H'->wpC P ops Q fuel listed a w:=by
 intro fuel
 induction fuel with
 |zero=>
  intro listed es T H ρ a w bL cn hp aix hl hdc acF hc;obtain rfl:es=[]:=List.length_eq_zero_iff.1 bL;obtain⟨rfl,rfl⟩:=hc;exact hQ _ _ _ acF
 |succ fuel ih=>
  intro listed es T H ρ a w bL cn hp aix hl hdc acF hc
  have first:∃e∈es,e.i∈Region.ready .any ops listed:=by
   cases es with
   |nil=>simp at bL|cons e es=>
    have ho:=hc.1.op;have a8:e.i<ops.size:=(Array.getElem?_eq_some_iff.1 ho).1;refine⟨e,by simp,uP cn heb a8 ((hl e.i a8).2 (.inl ⟨e,by simp,rfl⟩)) (λk hk=> ?_)⟩;have hej:=aix e (by simp);cases h:listed.getD k true with
    |true=>rfl|false=>
     rcases(hl k (by omega)).1 h with⟨f,hf1,hf2⟩|h2;rcases mem_cons.1 hf1 with rfl|hf1;omega;have:=((List.pairwise_cons.1 hp).1 f hf1).1;omega;omega
  refine⟨λhr=> ?_,λi hi=> ?_⟩;have⟨e,_,he⟩:=first
  rw[hr]at he;simp at he;have⟨h1,h2,o,ho,h3⟩:=fU hi
  obtain⟨f,hf,rfl⟩:∃e∈es,e.i=i:=by
   rcases(hl i h1).1 h2 with h|h;exact h;have⟨e,he1,he2⟩:=first
   have⟨h4,h5,_⟩:=fU he2;have h6:=aix e he1;have:=na hdc hi (uQ afI h1 h (show e.i<i by omega));rw[h5]at this;cases this
  obtain⟨pre,post,rfl⟩:=List.append_of_mem hf;have gz:∀e∈pre,oZ ops e f:=λe he=>(List.pairwise_append.1 hp).2.2 e he f (by simp)
  have aoF:∀e∈pre,aaI ops e f:=by
   intro e he;rcases(gz e he).2 with h4|h4;exfalso;have h8:listed.getD e.i false=true:=iM (L:=λi=>listed.getD i false=true) hdc 9 ho h3 h4;have a8:e.i<ops.size:=by have:=(gz e he).1;omega
   have h9:=(hl e.i a8).2 (.inl ⟨e,by simp[he],rfl⟩);have c9:e.i<listed.size:=by omega
   simp only[Array.getD,c9,dif_pos]at h8 h9;rw[h8]at h9;cases h9;exact h4
  have⟨hok,hch⟩:=front pre hc aoF;refine adX hS mu hok acF (λaO a' w' eu=> ?_)
  have eT:∀j,listed.getD j false=true->(listed.setIfInBounds f.i true).getD j false=true:=λj hj=>by
   simp only[getD_eq_getD_getElem?,Array.getElem?_setIfInBounds]at hj ⊢;split;split<;>simp_all;exact hj
  have aoG:∀i o,ops[i]? =some o->(listed.setIfInBounds f.i true).getD i false=true->∀e∈o.after,Region.binds .any e=true->(listed.setIfInBounds f.i true).getD e.on false=true:=by
   intro i o' c5 ep e he hb;by_cases hif:i=f.i;subst hif;rw[ho]at c5;cases c5;exact eT _ (h3 e he hb);refine eT _ (hdc i o' c5 ?_ e he hb);simp only[getD_eq_getD_getElem?,Array.getElem?_setIfInBounds,if_neg (Ne.symm hif)]at ep ⊢;exact ep
  refine ih _ (pre++post) _ _ aO a' w' ?_ (by simp[cn]) ?_ (λe he=>aix e (by
   rcases mem_append.1 he with he|he;exact mem_append.2 (.inl he);exact mem_append.2 (.inr (List.mem_cons_of_mem _ he)))) ?_ aoG eu hch
  simp only[length_append,length_cons]at bL ⊢;omega;exact hp.sublist (List.Sublist.append (List.Sublist.refl _) (List.sublist_cons_self _ _));intro j hj
  have aid:∀e∈pre++post,e.i≠f.i:=by
   intro e he;rcases mem_append.1 he with he|he;have:=(gz e he).1;omega;have:=(List.pairwise_cons.1 (List.pairwise_append.1 hp).2.1).1 e he;have:=this.1;omega
  have c9:j<listed.size:=by omega
  have aoH:(listed.setIfInBounds f.i true).getD j true=if j=f.i then true else listed.getD j true:=by
   simp only[getD_eq_getD_getElem?,Array.getElem?_setIfInBounds];by_cases yO:f.i=j;subst yO;simp[c9];simp[yO,Ne.symm yO]
  rw[aoH];by_cases yO:j=f.i;subst yO;have:=aix f hf;simp only[if_true,Bool.true_eq_false,false_iff,not_or,not_exists,not_and];exact⟨aid,by omega⟩;rw[if_neg yO,hl j hj];constructor;rintro(⟨e,he,rfl⟩|h);refine .inl ⟨e, ?_,rfl⟩;simp only[mem_append,mem_cons]at he ⊢;rcases he with he|rfl|he;exact .inl he;exact(yO rfl).elim;exact .inr he;exact .inr h;rintro(⟨e,he,rfl⟩|h);refine .inl ⟨e, ?_,rfl⟩;simp only[mem_append,mem_cons]at he ⊢;rcases he with he|he;exact .inl he;exact .inr (.inr he);exact .inr h
theorem acK{j0:Nat}(hj0:j0<=ops.size)(afI:uI ops j0=true)(hS:SOk P S Z)(mu:cE Z X){cont:St->List Touch->Tree}(hso:hM ops=true)(heb:dL ops=true)(h:(kJ P S ops cont 0 (ops.toList.take j0) s []).Holds K C)(hcl:∀s' pq,(cont s' pq).Holds K C->iG ops pq=true)
 {Q:Act->World->Prop} (hQ:∀aO s' pq a' w',(cont s' pq).Holds K C->b8 X aO s' a' w'->Q a' w') (hr:b8 X ρ s a w):wpC P ops Q j0 (Array.replicate ops.size false) a w:=by
 have⟨es,s',pq,T',g1,g2,g3,g4,g5,g6⟩:=gv (ops.toList.take j0) 0 s [] s.tmps (λj o hj=>by
  rw[getElem?_take]at hj;split at hj;simpa using hj;cases hj) h rfl (λt=>.inl rfl)
 have hcf:=gA _ (hcl _ _ g1);rw[g6,append_nil,List.pairwise_reverse,List.pairwise_map,List.pairwise_filter]at hcf;have hop:=uM g2
 have aau:es.Pairwise (λe f=>e.i<f.i):=by
  have:(es.map El.i).Pairwise (· < ·):=by rw[g5];exact List.pairwise_lt_range'
  rwa[List.pairwise_map]at this
 have yQ:es.Pairwise (oZ ops):=by
  refine(hcf.and aau).imp_of_mem (λ{e f} he hf ⟨hc,a8⟩=>⟨a8, ?_⟩);cases hna:gu ops f.i e.i with
  |true=>exact .inl rfl|false=>
   refine .inr ?_;have⟨s1,s2⟩:=sk hso (hop e he) (hop f hf) a8 hna
   have hh:(∀id∈e.wr,id ∉ f.rd/\id ∉ f.wr)/\∀id∈f.wr,id ∉ e.rd:=by
    cases hqe:e.q with
    |none=>
     have e1:e.wr=[]:=by simp[El.wr,hqe]
     have e2:=jV g2 e he hqe;exact⟨λid dU=>by rw[e1]at dU;simp at dU,λid _=>by rw[e2];simp⟩
    |some qe=>
     cases hqf:f.q with
     |none=>
      have e1:f.wr=[]:=by simp[El.wr,hqf]
      have e2:=jV g2 f hf hqf;exact⟨λid _=>by rw[e1,e2];simp,λid dU=>by rw[e1]at dU;simp at dU⟩
     |some qf=>
      rcases hc (by rw[hqe];rfl) (by rw[hqf];rfl)with h1|h1;exact Touch.uL (a:=e.mm) (b:=f.mm) h1;exact(by rw[show f.mm.i=f.i from rfl,show e.mm.i=e.i from rfl,hna]at h1;cases h1)
   exact⟨s1,s2,hh.1,hh.2⟩
 have bL:es.length=j0:=by
  have:=congrArg List.length g5;simp only[length_map,List.length_range',length_take,length_toList]at this;omega
 refine yS afI hS mu heb (λaO a' w' eu=>hQ aO s' pq a' w' g1 ⟨eu.sat,g3▸eu.size,λt=>(g4 t).den (eu.den t),eu.defers,eu.cu,eu.iH,eu.kept⟩) j0 _ es s.tmps s.look ρ a w bL (by simp) yQ (λe he=> ?_) ?_ (λi o _ hi=>by rw[getD_eq_getD_getElem?,Array.getElem?_replicate]at hi;split at hi<;>simp at hi) hr.toF g2;have:e.i∈es.map El.i:=List.mem_map_of_mem he;rw[g5,List.mem_range'_1,length_take]at this;omega;intro i hi;simp only[getD_eq_getD_getElem?,Array.getElem?_replicate,hi,if_true,getD_some,true_iff];rcases lt_or_ge i j0 with h1|h1;have:i∈es.map El.i:=by rw[g5,List.mem_range'_1,length_take,length_toList];omega
 obtain⟨e,he,rfl⟩:=mem_map.1 this;exact .inl ⟨e,he,rfl⟩;exact .inr h1
end
section
variable{ρ aO:Nat->Value}{H H':aJ}{G O O':Nat->Prop}{w w':World}{P:Program}{Z:aP}{X:Ctx}{s:St}{a:Act}
theorem uS{id:Nat}{c:aS}{o:au}:(aaF id c o).alive=o.alive:=by cases o<;>rfl
theorem aiy{id:Nat}{c:aS}{o:au}{c':aS}{e':TypeId}(h:aaF id c o=.vec c' e'):o=.vec c' e':=by
 cases o<;>simp[aaF]at h ⊢;exact h
theorem b8.aaR(h:b8 X ρ s a w)(id:Nat):b8 X ρ (uG s id) a w:=by
 unfold uG;split;rename_i c e ho;have hs:=h.sat;have a8:id<s.H.length:=(List.getElem?_eq_some_iff.1 ho).1;let s':St:=⟨s.tmps.map (uF id c),(s.H.map (aaF id c)).set id .aW⟩
 have look:∀j,s'.look j=if j=id then some .aW else(s.look j).map (aaF id c):=by
  intro j;show((s.H.map (aaF id c)).set id .aW)[j]? =_;rw[List.getElem?_set];by_cases hj:id=j;subst hj;simp[a8];rw[if_neg hj,if_neg (Ne.symm hj),getElem?_map];rfl
 have pC:∀b,Own ρ s'.look b->Own ρ (aK s.look id .aW) b:=by
  rintro b ⟨j,o,hj,h1,h2⟩;rw[look]at hj;by_cases e1:j=id;rw[if_pos e1]at hj;cases hj;cases h1;rw[if_neg e1]at hj;obtain⟨o0,h3,rfl⟩:=map_eq_some_iff.1 hj;exact⟨j,o0,by simp[aK,e1,h3],by rw[uS]at h1;exact h1,h2⟩
 have ad:∀b,Own ρ s'.look b->Own ρ s.look b:=λb hb=>g9 (pC b hb)
 have st:Step ρ s.look (aV ρ s.look X.G) w ρ s'.look (aV ρ s'.look X.G) w:=by
  refine⟨λ_ _ _=>rfl,λj o hj=> ?_,λb hb=>.inl (hb.imp (ad b) (λx=>x)),λ_ _ _=>rfl,le_refl _⟩;by_cases e1:j=id;exact⟨.aW,by rw[look,if_pos e1],λc' e' he=>by cases he⟩;refine⟨aaF id c o,by rw[look,if_neg e1,hj];rfl,λc' e' he=> ?_⟩;exact⟨c',e',aiy he,rfl,rfl⟩
 have gone:aX (aV ρ s'.look X.G) w (.ro c) (ρ id):=(aaE hs ho).anl λb hb=>hb.imp (pC b) (λx=>x)
 have eqv:∀{j:Nat} {v:Value},aH ρ s.look (aV ρ s.look X.G) w (.vec j) v->j=id->v=ρ id:=by
  intro j v hv e1;subst e1;unfold aH at hv;have⟨_,o,h1,h2⟩:=hv;have h3:s.look j=some (.vec c e):=ho;rw[h3]at h1;cases h1;exact h2 c e rfl
 have aoK:∀x cs,aN ρ s.look (aV ρ s.look X.G) w x cs->aN ρ s'.look (aV ρ s'.look X.G) w (uE id c x) cs:=by
  intro x cs hx;have q7:=aN.step st x cs hx;cases x<;>try exact q7
  rename_i j;simp only[uE,Bool.cond_eq_ite];split;rename_i hj;have hj:j=id:=by simpa using hj
  unfold aN at hx ⊢;obtain⟨u,rfl,hu⟩:=hx;exact⟨u,rfl,by rw[eqv hu hj];exact gone⟩;exact q7
 have ad5:∀(xs:List AV) cs,aA ρ s.look (aV ρ s.look X.G) w xs cs->aA ρ s'.look (aV ρ s'.look X.G) w (xs.map (uE id c)) cs:=by
  intro xs
  induction xs with
  |nil=>intro cs hx;exact aB.2 (aB.1 hx)
  |cons x xs ih=>
   intro cs hx;obtain⟨c1,c2,rfl,h1,h2⟩:=ah.1 hx;exact ah.2 ⟨c1,c2,rfl,aoK _ _ h1,ih _ h2⟩
 have atQ:∀x v,ae ρ s.look (aV ρ s.look X.G) w x v->ae ρ s'.look (aV ρ s'.look X.G) w (uF id c x) v:=by
  intro x v hx;have q7:=ae.step st x v hx;cases x with
  |agg segs=>
   unfold ae at hx;obtain⟨cs,rfl,h1⟩:=hx;show ae _ _ _ _ (.agg _) _;unfold ae;exact⟨cs,rfl,ad5 _ _ h1⟩
  |vec j=>
   simp only[uF,Bool.cond_eq_ite];split;rename_i hj;have hj:j=id:=by simpa using hj
   unfold ae at hx;rw[eqv hx hj];exact aC gone;exact q7
  |_=>exact q7
 refine⟨⟨λj o hj=> ?_,λi j oi oj b h1 h2 h3 h4 h5 h6=> ?_,λb hb=>hs.apart b (ad b hb),hs.low⟩,by rw[<-h.size];exact length_map _,λt=> ?_,h.defers,h.cu.trans st,h.iH,h.kept⟩;have hj:s'.look j=some o:=hj;rw[look]at hj;by_cases e1:j=id;rw[if_pos e1]at hj;cases hj;trivial;rw[if_neg e1]at hj;obtain⟨o0,h3,rfl⟩:=map_eq_some_iff.1 hj;have eW:=hs.obj j o0 h3;cases o0 with
 |ad segs e1=>
  have⟨b,cells,fr,g1,g2,g3,g4⟩:=eW;exact⟨b,cells,fr,g1,g2,g3,ad5 _ _ g4⟩
 |_=>exact eW.step st (λ_ _ _=>rfl)
 have key:∀i oi,s'.look i=some oi->oi.alive=true->∃x,s.look i=some x/\x.alive=true:=by
  intro i oi hi ha;rw[look]at hi;by_cases e1:i=id;rw[if_pos e1]at hi;cases hi;cases ha;rw[if_neg e1]at hi;obtain⟨o0,h3,rfl⟩:=map_eq_some_iff.1 hi;exact⟨o0,h3,by rw[uS]at ha;exact ha⟩
 have⟨x,hx,hxa⟩:=key i oi h1 h3;have⟨y,hy,hya⟩:=key j oj h2 h4;exact hs.inj i j x y b hx hy hxa hya h5 h6
 have e1:(s.tmps.map (uF id c)).getD t (.s .aF)=uF id c (s.tmps.getD t (.s .aF)):=by
  rw[List.getD_eq_getElem?_getD,List.getD_eq_getElem?_getD,getElem?_map];cases s.tmps[t]? <;>rfl
 show ae _ _ _ _ ((s.tmps.map (uF id c)).getD t (.s .aF)) _;rw[e1];exact atQ _ _ (h.den t);exact h
theorem b8.aq3(ids:List Nat):∀{s:St},b8 X ρ s a w->b8 X ρ (ids.foldl uG s) a w:=by
 induction ids with
 |nil=>intro s h;exact h
 |cons id ids ih=>intro s h;exact ih (h.aaR id)
theorem b8.hJ(h:b8 X ρ s a w)(o:Oper):b8 X ρ (hJ s o) a w:=by
 unfold Sx.hJ;split;exact h.aq3 _;split;exact h.aq3 _;exact h;exact h
end
section
variable{ρ aO:Nat->Value}{H H':aJ}{G O O':Nat->Prop}{w w':World}{P:Program}{S:fa}{Z:aP}{X:Ctx}{s:St}{a:Act}{K:List au->AV->Prop}{C:aR->Prop}{ops:Array Oper}{E E':List (Nat×Obj)}
theorem ju.tmp{n:Nat}{rest:List Value}{Ds:List Nat}{a t:Act}(h:ju n rest Ds a t){o:Oper}{i:Nat}(c9:pQ n rest ops)(ho:ops[i]? =some o):Region.wanted o (yielded ops t.tmps)=Region.wanted o (yielded ops a.tmps):=(h.same c9 ho).2
theorem l6(hS:SOk P S Z)(mu:cE Z X){f0:FuncId}{R:Ending->World->Prop}{enter:St->Nat->Oper->Option Tree}{cont:St->Tree}{n:Nat}{rest:List Value}{Ds:List Nat}{b:Frame}{k:List Item}{fs:List Frame}
 (gl:iK ops=true) (c9:pQ n rest ops)
 (aiz:∀s,(cont s).Holds K C->∀ρ a t w,b8 X ρ s a w->ju n rest Ds a t->cB P f0 R b t k fs w)
 (eI:∀s i o tr,enter s i o=some tr->tr.Holds K C->∀ρ a t w,ops[i]? =some o->Region.wanted o (yielded ops a.tmps)=true->b8 X ρ s a w->ju n rest Ds a t->
   cB P f0 R b t (.inRegion ops (range' i (ops.size - i))::k) fs w):
 ∀(l:List Oper) (i:Nat) (s:St),(∀j,l[j]? =ops[i+j]?)->i+l.length=ops.size->(kr P S ops enter cont i l s).Holds K C->∀(ρ:Nat->Value) (a t:Act) (w:World),b8 X ρ s a w->ju n rest Ds a t->
  cB P f0 R b t (.inRegion ops (range' i l.length)::k) fs w
 |[],i,s,hl,cn,h,ρ,a,t,w,hr,ht=>cB.step (λ_=>stepR_region_end) (aiz s h ρ a t w hr ht)|o::l,i,s,hl,cn,h,ρ,a,t,w,hr,ht=>by
  have ho:ops[i]? =some o:=by simpa using(hl 0).symm
  have hl':∀j,l[j]? =ops[i+1+j]? :=λj=>by
   have:=hl (j+1);rw[show i+(j+1)=i+1+j from by omega]at this;simpa using this
  have afd:i+1+l.length=ops.size:=by simp only[length_cons]at cn;omega
  have kf:rest=[]\/∀d,o.dst=some d->d<n:=(c9.op ho).imp id (·.2.1);simp only[length_cons,List.range'_succ];have m6:∀(s:St) (a:Act),b8 X ρ s a w->ju n rest Ds a t->Region.wanted o (yielded ops a.tmps)=true->
   (match enter s i o with
     |some t=>t|none=>match(opR P (S (hJ s o).H.length) (gy (hJ s o).tmps) o).eval (hJ s o).look with
      |some r=>bif xH (hJ s o).H.length r.up then Tree.xG r.aa (kr P S ops enter cont (i+1) l ((hJ s o).put o.dst r))else .stuck ""|none=>.stuck (o.pos++ " " ++(opR P (S (hJ s o).H.length) (gy (hJ s o).tmps) o).why (hJ s o).look)).Holds K C->
   cB P f0 R b t (.inRegion ops (i::range' (i+1) l.length)::k) fs w:=by
   intro s a hr ht hw h;split at h;rename_i tr hc;have:=eI s i o tr hc h ρ a t w ho hw hr ht;rwa[show ops.size - i=l.length+1 from by omega,List.range'_succ]at this;have hr:=hr.hJ o;generalize hJ s o=s at *;split at h;rename_i q hq;rw[Bool.cond_eq_ite]at h;split at h;rename_i hup;have⟨hn,h2⟩:=m0 _ _ h;have hy:=hr.op hS mu hq hn (aiq hup)
   have hy':Yields P o t.eval w (λv w'=>∃aO,b8 X aO (s.put o.dst q) (a.put o.dst v) w'):=by
    unfold Yields at *;rw[(ht.same c9 ho).1];exact hy
   intro cs;have⟨v,w',⟨aO,eu⟩,q7⟩:=ad0 ho (by rw[(ht.same c9 ho).2];exact hw) (m8 gl ho) hy' b k (fs++cs) (rest:=range' (i+1) l.length);have⟨e,w2,fr,g1,g2,g3⟩:=l6 hS mu gl c9 aiz eI l (i+1) _ hl' afd h2 aO _ _ w' eu (ht.put kf v) cs;exact⟨e,w2,fr,g1,Comes.of_steps q7 g2,g3⟩;exact h.elim;exact h.elim
  have m7:∀(s:St) (a:Act),b8 X ρ s a w->ju n rest Ds a t->Region.wanted o (yielded ops a.tmps)=false->(kr P S ops enter cont (i+1) l {s with tmps:=cO s.tmps o.dst (.bO [])}).Holds K C->
   cB P f0 R b t (.inRegion ops (i::range' (i+1) l.length)::k) fs w:=by
   intro s a hr ht hw h;refine cB.step (λcs=>yR ho (by rw[(ht.same c9 ho).2];exact hw) b k (fs++cs)) ?_;exact l6 hS mu gl c9 aiz eI l (i+1) _ hl' afd h ρ _ _ w (hr.skip o.dst) (ht.put kf undef)
  unfold kr at h;simp only[]at h;split at h;rename_i hg;exact m6 s a hr ht (by simp[Region.wanted,hg]) h;rename_i g want hg;split at h;exact h.elim;rename_i d hd;split at h;rename_i b' hb
  have hy:yielded ops a.tmps g=some b':=by
   simp only[yielded,hd,bind_some,lB hr hb]
  rw[Bool.cond_eq_ite]at h;split at h;rename_i hbw;exact m6 s a hr ht (by simp only[Region.wanted,hg,hy];simpa using hbw) h;rename_i hbw;exact m7 s a hr ht (by simp only[Region.wanted,hg,hy];simpa using hbw) h;rename_i b' hb;have eu:b8 X ρ {s with tmps:=s.tmps.set d (.s (.ao b'))} a w:=hr.refine hb m3
  have a8:d<s.tmps.length:=by
   rcases lt_or_ge d s.tmps.length with h3|h3;exact h3;rw[List.getD,getElem?_eq_none h3]at hb;simp at hb
  have hy:yielded ops a.tmps g=some b':=by
   simp only[yielded,hd,bind_some];rw[lB eu (d:=d) (b:=b') (by simp[List.getD,a8])]
  have⟨h1,h2⟩:=h;cases b';have h2:=h2 rfl;cases want;exact m6 _ a eu ht (by simp only[Region.wanted,hg,hy];rfl) h2;exact m7 _ a eu ht (by simp only[Region.wanted,hg,hy];rfl) h2;have h1:=h1 rfl;cases want;exact m7 _ a eu ht (by simp only[Region.wanted,hg,hy];rfl) h1;exact m6 _ a eu ht (by simp only[Region.wanted,hg,hy];rfl) h1;rename_i n0 eq hb
  have a8:d<s.tmps.length:=by
   rcases lt_or_ge d s.tmps.length with h3|h3;exact h3;rw[List.getD,getElem?_eq_none h3]at hb;simp at hb
  have hd0:=hr.den d;rw[hb]at hd0
  obtain⟨bb,hbv,hb0⟩:∃bb,a.tmps.getD d undef=.bool bb/\(bb=eq->n0=0):=by
   have h2:=aw (by simp) hd0;generalize a.tmps.getD d undef=u at h2;cases h2;exact⟨_,rfl,by assumption⟩
  have eu:b8 X ρ {s with tmps:=s.tmps.set d (.s (.ao bb))} a w:=hr.yM hb (by rw[hbv];exact aC (.ao bb))
  have hy:yielded ops a.tmps g=some bb:=by
   simp only[yielded,hd,bind_some];rw[lB eu (d:=d) (b:=bb) (by simp[List.getD,a8])]
  have⟨h1,h2⟩:=h;cases bb;have h2:=h2 (by cases eq<;>first|exact hb0 rfl|trivial);cases want;exact m6 _ a eu ht (by simp only[Region.wanted,hg,hy];rfl) h2;exact m7 _ a eu ht (by simp only[Region.wanted,hg,hy];rfl) h2;have h1:=h1 (by cases eq<;>first|exact hb0 rfl|trivial);cases want;exact m7 _ a eu ht (by simp only[Region.wanted,hg,hy];rfl) h1;exact m6 _ a eu ht (by simp only[Region.wanted,hg,hy];rfl) h1;rename_i hb
  have hy:yielded ops a.tmps g=none:=by
   simp only[yielded,hd,bind_some,afE hr hb,undef]
  exact m7 s a hr ht (by simp only[Region.wanted,hg,hy];simp) h;exact h.elim
theorem Wf.top{f0:FuncId}{c:aR}{vs:List Value}{b:Frame}{t:Act}{fs:List Frame}(hl:c.tmps.length=vs.length)(hw:Wf f0 c.stk vs E b t fs):∃rest Ds,ju c.n rest Ds ⟨vs.toArray,[]⟩ t/\(c.stk.plain=true->rest=[])/\
 ∀a' t',ju c.n rest Ds a' t'->a'.defers=[]->Wf f0 c.stk a'.tmps.toList E b t' fs:=by
 obtain⟨hn,v0,rv,v2,Ds,E1,E2,rfl,rfl,hd,h3,h4⟩:=hw;have⟨l0,l1,l2⟩:=nF hl rfl hd h3 h4;refine⟨rv++(Ds.map dP++v2),Ds,⟨⟨v0,by simp,by rw[h3.act],l0⟩,by rw[h3.act];rfl⟩,λhp=> ?_,λa' t' ht hdf=> ?_⟩;simp only[bt.plain,and_eq_true,Bool.not_eq_true']at hp;have⟨⟨p1,p2⟩,p3⟩:=hp;have e1:rv=[]:=List.eq_nil_of_length_eq_zero (by rw[l1,p1];rfl);have e2:Ds=[]:=List.eq_nil_of_length_eq_zero (hd.trans (Nat.eq_of_beq_eq_true p2));have e3:c.stk.below=[]:=List.isEmpty_iff.1 p3;rw[e3]at h4;rw[e1,e2,h4.1];rfl;have⟨o9,k1,k2,k3⟩:=ht.sl;refine⟨hn,o9,rv,v2,Ds,E1,E2,k1,rfl,hd,⟨h3.fr, ?_,h3.ghost⟩,h4⟩;have⟨tt,td⟩:=t';have:=ht.df;rw[hdf]at this;simp only[List.nil_append]at this;simp only at k2 this;rw[k2,this]
theorem Act.eta{a:Act}(h:a.defers=[]):(⟨a.tmps.toList.toArray,[]⟩:Act)=a:=by
 have⟨x,y⟩:=a;simp only at h;subst h;simp
theorem ju.bool{n:Nat}{rest:List Value}{Ds:List Nat}{a t:Act}(h:ju n rest Ds a t){j:Nat}(hj:rest=[]\/j<n):t.eval (.tmp j)=a.tmps.getD j undef:=by
 rw[h.eval (hj.imp id λg=>λi e=>by cases e;exact g)];rfl
theorem aaS{p q:Bool}{rest:List Value}{R:Prop}(h:(p||q)=true)(h1:p=true->rest=[])(h2:q=true->R):rest=[]\/R:=by
 rcases Bool.or_eq_true_iff.1 h with h|h;exact .inl (h1 h);exact .inr (h2 h)
theorem acL{a b:Nat}(h:a.blt b=true):a<b:=by simpa[Nat.blt,Nat.lt_iff_add_one_le]using h
theorem yT{f0:FuncId}{c:aR}{id:Nat}{y:q8×Lp×List AV}{b:Frame}{t:Act}{fs:List Frame}{k:List Item}(dQ:c.stk.round=true)(dU:c.tmps.getD c.n (.s .aF)=.tag id)
 (hf:jU id c.stk.below (c.tmps.drop (c.n+c.stk.extra))=some (y.1,y.2.1,.ready,y.2.2))
 (m6:Safe P f0 X K {c with todo:=k,stk:={c.stk with below:=iX id .busy c.stk.below (c.tmps.drop (c.n+c.stk.extra))}})
 (fV:∀b,X.G b->G b) (gh:∀b,G b->X.G b\/X.w.heap.size<=b) (hr:b8 (X.at G E) ρ ⟨c.tmps,c.H⟩ a w) (hw:Wf f0 c.stk a.tmps.toList E b t fs):
 cB P f0 (iY X K) b t (.beginRound::k) fs w:=by
 obtain⟨hn,v0,rv,v2,Ds,E1,E2,e1,rfl,hd,h3,h4⟩:=hw;have⟨l0,l1,l2⟩:=nF hr.dp.len e1 hd h3 h4;have hb:=h3.fr;rw[dQ]at hb;obtain⟨r,rfl,l,xg,hrr⟩:=hb;subst xg hrr;have hdp:=hr.dp.drop (c.n+c.stk.extra);rw[l2]at hdp
 have yr:(E2.map (·.1)).Nodup:=by
  rw[map_append]at hn;exact(nodup_append.1 hn).2.1
 have⟨l',D,o9,g1,g2,g3,g4,g5,g6⟩:=nD hf h4 yr hdp.get
 have iF:a.tmps.toList.getD c.n undef=cr l:=by
  rw[e1,List.getD,List.getElem?_append_right (by omega),show c.n - v0.length=0 from by omega];rfl
 have kg:=hr.dp.get c.n;rw[dU,iF]at kg;unfold ae aH at kg;have hll:l'=l:=uO (g1.symm.trans kg.1.symm);subst hll;have fF:=(hr.kept _ (show _∈(E1++E2)from List.mem_append_right _ g3)).2.2;have atS:=run_beginRound (P:=P) fF rfl
 have hl1:l' ∉ E1.map (·.1):=by
  intro hm;rw[map_append]at hn;exact(nodup_append.1 hn).2.2 l' hm l' (List.mem_map_of_mem (f:=Prod.fst) g3) rfl
 have hr2:b8 (X.at G (E1++upE l' (Obj.loop (lA.busy.gg y.2.1 (y.1.f.getD f0) o9.toArray D)) E2)) ρ ⟨c.tmps,c.H⟩ a (w.putObj l' (Obj.loop (lA.busy.gg y.2.1 (y.1.f.getD f0) o9.toArray D))):=
  hr.alY (show(l',Obj.loop (lA.ready.gg y.2.1 (y.1.f.getD f0) o9.toArray D))∈(E1++E2)from List.mem_append_right _ g3) (λz hz=>by
   rcases mem_append.1 hz with h6|h6;exact .inl ⟨List.mem_append_left _ h6,λe=>hl1 (e▸List.mem_map_of_mem (f:=Prod.fst) h6)⟩;rcases ad1 z h6 with h7|h7;exact .inl ⟨List.mem_append_right _ h7.1,h7.2⟩;exact .inr h7)
 have key:=m6 G _ ρ a _ fV gh hr2 _ t fs ⟨by rw[map_append,aaM,<-map_append];exact hn,v0,[cr l'],v2,Ds,E1,_,e1,rfl,hd,h3,g6 .busy⟩;exact cB.step (λcs=>stepR_beginRound (l:=l') rfl atS) key
theorem fX{f:FuncId}{fn:Func}{stop inl:Nat→Bool}(hS:SOk P S Z)(mu:cE Z X)(hm:P.follows .mixedOrders=true)(hf:P.funcs[f]? =some fn):∀(n:Nat) (fst:Bool) (c:aR),(exec P S fn stop inl n fst c).Holds K (Safe P f X K)→Safe P f X K c
 |0,_,c,h=>h
 |n+1,fst,c,h=>by
  intro G E ρ a w fV gh hr b t fs hw;have m6:∀c',(exec P S fn stop inl n false c').Holds K (Safe P f X K)→Safe P f X K c':=fun c' h'=>fX hS mu hm hf n false c' h';obtain⟨rest,Ds,og,rG,hwf⟩:=hw.top hr.dp.len;rw[Act.eta hr.defers]at og;have hto:∀k,(exec P S fn stop inl n fst {c with todo:=k}).Holds K (Safe P f X K)→cB P f (iY X K) b t k fs w:=fun k hk=>fX hS mu hm hf n fst _ hk G E ρ a w fV gh hr b t fs hw
  have hbr:c.stk.round=false→b.roundOf=none:=fun h0=>by
   obtain⟨_,_,_,_,_,_,_,_,_,_,h3,_⟩:=hw;have:=h3.fr;rw[h0]at this;obtain⟨r,rfl,_,rfl⟩:=this;rfl
  have ann:∀k,(k=[]∨∃k',k=.code .ret::k')→c.stk.round=false→
   (match c.stk.fn P fn with
     |some g=>(match gk P ⟨c.tmps.take c.n,c.H⟩ g.results.toList with
      |some vs=>adU c (oneOf vs) (fun c=>exec P S fn stop inl n false c)
      |none=>.stuck "")
     |none=>.stuck "").Holds K (Safe P f X K)→cB P f (iY X K) b t k fs w:=by
   intro k hk h0 h;split at h;rename_i g hg;split at h;rename_i vs hv;have key:=acJ (todo:=k) hf hg h0 hv h m6 fV gh hr hw;refine eX.steps (fun cs=>.one ?_) key;rcases hk with rfl|⟨k',rfl⟩;exact stepR_end (hbr h0);exact stepR_ret (hbr h0);exact h.elim;exact h.elim
  have aq4:∀(ff:Bool) (id:Nat) (rs:Array Oper) (i:Nat) (k:List Item),i≤rs.size→
   (bif iK rs&&(c.stk.plain||l4 c.n rs)then
     kr P S rs (fun s j o=>
      bif stop (ain c.stk id j)&& !(ff&&j.beq i)then some (.at {c with tmps:=s.tmps,H:=s.H,todo:=.inRegion rs (range' j (rs.size - j))::k,stk:={c.stk with rid:=id}})else
      match pM o (gy s.tmps)with
      |some (g,args)=>(match g with
      |.s (.sM f)=>bif inl f then some (mZ P {c with tmps:=s.tmps,H:=s.H} f args ⟨c.stk.f,c.n,c.stk.round,c.stk.marks,none,.inRegion rs (range' j (rs.size - j))::k,(id,j)⟩ (fun c=>exec P S fn stop inl n false c))else none
      |.fn f c8=>bif inl f then some (mZ P {c with tmps:=s.tmps,H:=s.H} f (args++c8) ⟨c.stk.f,c.n,c.stk.round,c.stk.marks,none,.inRegion rs (range' j (rs.size - j))::k,(id,j)⟩ (fun c=>exec P S fn stop inl n false c))else none
      |.tag y=>some (yJ {c with tmps:=s.tmps,H:=s.H} y args ⟨c.stk.f,c.n,c.stk.round,c.stk.marks,none,.inRegion rs (range' j (rs.size - j))::k,(id,j)⟩ (fun c=>exec P S fn stop inl n false c))
      |_=>none)
      |none=>bif adS o then some (.at {c with tmps:=s.tmps,H:=s.H,todo:=.inRegion rs (range' j (rs.size - j))::k,stk:={c.stk with rid:=id}})else none) (fun s=>exec P S fn stop inl n ff {c with tmps:=s.tmps,H:=s.H,todo:=k,stk:={c.stk with rid:=0}}) i (rs.toList.drop i) ⟨c.tmps,c.H⟩
     else .stuck "").Holds K (Safe P f X K)→
   cB P f (iY X K) b t (.inRegion rs (range' i (rs.size - i))::k) fs w:=by
   intro ff id rs i k hi h;rw[Bool.cond_eq_ite]at h;split at h;rename_i hc;simp only[and_eq_true]at hc;have c9:pQ c.n rest rs:=aaS hc.2 rG (fun x=>x);have bL:(rs.toList.drop i).length=rs.size - i:=by simp
   have hcn:∀(s:St),s.tmps.length=c.tmps.length→(aR.n {c with tmps:=s.tmps,H:=s.H})=c.n:=fun s hs=>by unfold aR.n;simp only[hs]
   have key:=l6 (X:=X.at G E) (b:=b) (fs:=fs) (k:=k) (f0:=f) (R:=iY X K) (n:=c.n) (rest:=rest) (Ds:=Ds) hS (mu.at G E) hc.1 c9 (fun s hs aO a' t' w' eu ht'=> ?_) (fun s j o tr xi htr aO a' t' w' ho aaT eu ht'=> ?_)
    (rs.toList.drop i) i ⟨c.tmps,c.H⟩ (fun j=>by rw[List.getElem?_drop,Array.getElem?_toList]) (by rw[bL];omega) h ρ a t w hr og
   rw[bL]at key;exact key;exact fX hS mu hm hf n ff _ hs G E aO a' w' fV gh eu b t' fs (hwf a' t' ht' eu.defers);have hw':=hwf a' t' ht' eu.defers;have gl:=m8 hc.1 ho;rw[Bool.cond_eq_ite]at xi;split at xi;cases xi;exact htr G E aO a' w' fV gh eu b t' fs hw';by_cases aq5:pM o (gy s.tmps)=none;rw[aq5]at xi;simp only[Bool.cond_eq_ite]at xi;split at xi;cases xi;exact htr G E aO a' w' fV gh eu b t' fs hw';cases xi;obtain⟨⟨g,args⟩,er⟩:=Option.ne_none_iff_exists'.1 aq5;rw[er]at xi;simp only[]at xi;obtain⟨vf,us,hvf,hus,hcf,hcy⟩:=alZ (P:=P) er (e:=a'.eval) (fun x _=>eu.ev x);have aiA:Region.wanted o (yielded rs t'.tmps)=true:=by rw[(ht'.same c9 ho).2];exact aaT
   have hj:j<rs.size:=(Array.getElem?_eq_some_iff.1 ho).1
   have mT:range' j (rs.size - j)=j::range' (j+1) (rs.size - (j+1)):=by
    rw[show rs.size - j=rs.size - (j+1)+1 from by omega,List.range'_succ]
   have ano:s.tmps.length=a'.tmps.toList.length:=eu.dp.len
   have atT:c.tmps.length=s.tmps.length:=by
    obtain⟨v0,k1,_,k3⟩:=ht'.sl;obtain⟨o9,k1',_,k3'⟩:=og.sl;rw[ano,k1,hr.dp.len,k1',length_append,length_append,k3,k3']
   have hn':=hcn s atT.symm;obtain⟨hnE,v0,rv,v2,Ds',E1,E2,e1,e2,hd,h3,h4⟩:=hw';obtain⟨q0,q1,q2⟩:=nF (c:={c with tmps:=s.tmps,H:=s.H}) ano e1 hd h3 h4;have ad2:∀key,WfS f (⟨c.stk.f,c.n,c.stk.round,c.stk.marks,none,.inRegion rs (range' j (rs.size - j))::k,key⟩::c.stk.below) a'.tmps.toList E
    (b.atR t' (.inRegion rs (range' j (rs.size - j))::k)::fs):=fun key=>
    ⟨v0,rv,v2,Ds',E1,E2,b,t',fs,[],[],_,by simpa using e1,by simpa using e2,rfl,q0.trans hn',hd,h3,h4,rfl,rfl,rfl⟩
   have push:∀(g':FuncId) (cs:List AV) (vs:List Value),vf=.func (.func g') #[] vs.toArray→bH aO s.look (aV aO s.look G) w' cs vs→
    (mZ P {c with tmps:=s.tmps,H:=s.H} g' (args++cs) ⟨c.stk.f,c.n,c.stk.round,c.stk.marks,none,.inRegion rs (range' j (rs.size - j))::k,(id,j)⟩ (fun c=>exec P S fn stop inl n false c)).Holds K (Safe P f X K)→
    cB P f (iY X K) b t' (.inRegion rs (range' j (rs.size - j))::k) fs w':=by
    intro g' cs vs hv oY htr;obtain⟨aoL,key⟩:=sm (c:={c with tmps:=s.tmps,H:=s.H}) (us:=us++vs) htr m6 fV gh eu (iW hus oY) hnE (ad2 _);refine eX.steps (fun cs=>.one ?_) key;rw[mT];refine ait ho aiA gl ?_ b k (fs++cs);rw[(ht'.same c9 ho).1];exact hcf g' vs hv aoL
   split at xi;rename_i g';rw[Bool.cond_eq_ite]at xi;split at xi;cases xi;exact push g' [] [] (yH (aw (by simp) hvf)) (bc.2 rfl) (by rw[append_nil];exact htr);cases xi;rename_i g' c8;rw[Bool.cond_eq_ite]at xi;split at xi;cases xi;unfold ae at hvf;obtain⟨vs,hv,pK⟩:=hvf;exact push g' c8 vs hv pK htr;cases xi;rename_i y;cases xi;have al0:a'.tmps.toList.drop (aR.n {c with tmps:=s.tmps,H:=s.H}+c.stk.extra)=v2:=q2;obtain⟨l,r,hv,fF,aq6,key⟩:=aaO (c:={c with tmps:=s.tmps,H:=s.H}) (us:=us) htr m6 fV gh eu hus hnE (ad2 _) e2 al0 h4 hvf;refine eX.steps (fun cs=>.one ?_) key;rw[mT];refine aiu ho aiA gl ?_ b k (fs++cs);rw[(ht'.same c9 ho).1];exact hcy l hv r fF aq6;cases xi;exact h.elim
  unfold exec at h;simp only[]at h;split at h;rename_i mz;rw[mz];rw[Bool.cond_eq_ite]at h;split at h;rename_i dQ;exact pa dQ h m6 fV gh hr hw (fun l w' c0 cs h1 h2 h3=>stepR_round_end h1 h2 h3);rename_i dQ;exact ann [] (.inl rfl) (by simpa using dQ) h;rename_i k mz;rw[mz];rw[Bool.cond_eq_ite]at h;split at h;rename_i dQ;exact pa dQ h m6 fV gh hr hw (fun l w' c0 cs h1 h2 h3=>stepR_round_ret h1 h2 h3);rename_i dQ;exact ann _ (.inr ⟨k,rfl⟩) (by simpa using dQ) h;rename_i k mz;rw[mz];exact cB.step (fun _=>stepR_skip) (hto _ h);rename_i k l mz;rw[mz];exact cB.step (fun _=>stepR_label) (hto _ h);rename_i k mz;rw[mz];exact cB.step (fun _=>stepR_inBlock) (hto _ h);rename_i k mz;rw[mz];exact cB.step (fun _=>step_lone_go (by simp[stepG,stepG.exec,Frame.atR])) (hto _ h);rename_i x y k mz;rw[mz];exact cB.step (fun _=>stepR_seq) (hto _ h);rename_i id body k mz;rw[mz];exact cB.step (fun _=>stepR_block) (hto _ h);rename_i body k mz;rw[mz];exact cB.step (fun _=>step_lone_go (by simp[stepG,stepG.exec,Frame.atR])) (hto _ h);rename_i id k mz;rw[mz];split at h;rename_i k' hk';exact cB.step (fun _=>stepR_exit hk') (hto _ h);rename_i hk';rw[Bool.cond_eq_ite]at h;split at h;rename_i dQ;exact pa dQ h m6 fV gh hr hw (fun l w' c0 cs h1 h2 h3=>stepR_round_exit h1 h2 hk' h3);exact h.elim;rename_i j x y k mz;rw[mz];rw[Bool.cond_eq_ite]at h;split at h;rename_i aoM;have c9:rest=[]∨j<c.n:=aaS aoM rG acL;split at h;rename_i bb hb
  have hev:t.eval (.tmp j)=.bool bb:=by
   rw[og.bool c9];have h1:=lB hr hb;rw[getD_eq_getD_getElem?,h1];rfl
  refine cB.step (fun _=>stepR_cond hev) ?_;have:=hto _ h;cases bb<;>exact this;rename_i bb hb;have eu:b8 (X.at G E) ρ ⟨c.tmps.set j (.s (.ao bb)),c.H⟩ a w:=hr.refine hb m3
  have a8:j<c.tmps.length:=by
   rcases lt_or_ge j c.tmps.length with h3|h3;exact h3;rw[List.getD,getElem?_eq_none h3]at hb;simp at hb
  have hev:t.eval (.tmp j)=.bool bb:=by
   rw[og.bool c9];have h1:=lB eu (d:=j) (b:=bb) (by simp[List.getD,a8]);rw[getD_eq_getD_getElem?,h1];rfl
  refine cB.step (fun _=>stepR_cond hev) ?_;obtain⟨h1,h2⟩:=h;cases bb;exact fX hS mu hm hf n _ _ (h2 rfl) G E ρ a w fV gh eu b t fs hw;exact fX hS mu hm hf n _ _ (h1 rfl) G E ρ a w fV gh eu b t fs hw;rename_i n0 eq hb
  have a8:j<c.tmps.length:=by
   rcases lt_or_ge j c.tmps.length with h3|h3;exact h3;rw[List.getD,getElem?_eq_none h3]at hb;simp at hb
  have hd0:=hr.den j;rw[show(St.tmps ⟨c.tmps,c.H⟩).getD j (.s .aF)=_ from hb]at hd0
  obtain⟨bb,hbv,hb0⟩:∃bb,a.tmps.getD j undef=.bool bb∧(bb=eq→n0=0):=by
   have h2:=aw (by simp) hd0;generalize a.tmps.getD j undef=u at h2;cases h2;exact⟨_,rfl,by assumption⟩
  have eu:b8 (X.at G E) ρ ⟨c.tmps.set j (.s (.ao bb)),c.H⟩ a w:=hr.yM hb (by rw[hbv];exact aC (.ao bb));have hev:t.eval (.tmp j)=.bool bb:=by rw[og.bool c9,hbv]
  refine cB.step (fun _=>stepR_cond hev) ?_;obtain⟨h1,h2⟩:=h;cases bb;exact fX hS mu hm hf n _ _ (h2 (by cases eq<;>first|exact hb0 rfl|trivial)) G E ρ a w fV gh eu b t fs hw;exact fX hS mu hm hf n _ _ (h1 (by cases eq<;>first|exact hb0 rfl|trivial)) G E ρ a w fV gh eu b t fs hw;exact h.elim;exact h.elim;rename_i id rs draw k mz;rw[mz];rw[Bool.cond_eq_ite]at h;split at h;have:=h G E ρ a w fV gh hr b t fs hw;rwa[mz]at this;cases draw;simp only[cond_false]at h;have key:=aq4 false id rs 0 k (zero_le _) h;refine cB.step (fun _=>stepR_region) ?_;rw[List.range_eq_range'];simpa using key;simp only[cond_true]at h;rw[Bool.cond_eq_ite]at h;split at h;rename_i hso;simp only[and_eq_true]at hso;obtain⟨⟨⟨aq7,aoN⟩,gl⟩,hsl⟩:=hso;have c9:pQ c.n rest rs:=aaS hsl rG (fun x=>x);rw[Bool.cond_eq_ite]at h;split at h;rename_i hcc;simp only[and_eq_true]at hcc;obtain⟨a8,afI⟩:=hcc;have a8:=acL a8
  have aoO:=acK (j0:=cutAt rs) (Nat.le_of_lt a8) afI (X:=X.at G E) (Q:=fun a' w'=>∃aO s',(exec P S fn stop inl n false {c with tmps:=s'.tmps,H:=s'.H,todo:=.inRegion rs (range' (cutAt rs) (rs.size - cutAt rs))::k,stk:={c.stk with rid:=id}}).Holds K (Safe P f X K)∧b8 (X.at G E) aO s' a' w') hS (mu.at G E) aq7 aoN h (fun s' pq hh=>by
   rw[Bool.cond_eq_ite]at hh;split at hh;rename_i hc;exact hc;exact hh.elim) (fun aO s' pq a' w' hh eu=>by
   rw[Bool.cond_eq_ite]at hh;split at hh;exact⟨aO,s',hh,eu⟩;exact hh.elim) hr.drew
  have acM:=fun tt=>afG (cutAt rs) tt _ a _ aoO;refine cB.step (fun _=>stepR_region_draw) ?_
  have atU:Region.schedule (P.follows .mixedOrders) rs (w.tape w.drawn (.order b.fn id))=Region.linearise.go .any rs (cutAt rs) (w.tape w.drawn (.order b.fn id)) (Array.replicate rs.size false) []++range' (cutAt rs) (rs.size - cutAt rs):=by
   simp only[Region.schedule,hm,Bool.true_or,if_true];exact uR aoN (Nat.le_of_lt a8) afI _
  rw[atU];have aiB:=gN c9 (fun e a w hq=>hq.1) _ a t _ og (acM (w.tape w.drawn (.order b.fn id)));intro cs;obtain⟨a1,w1,⟨_,a',⟨_,aO,s',hh,eu⟩,ht'⟩,jW⟩:=fG gl (fun e a w hq=>hq.1) _ t _ aiB b k (fs++cs);have key:=fX hS mu hm hf n false _ hh G E aO a' w1 fV gh eu b a1 fs (hwf a' a1 ht' eu.defers) cs;obtain⟨e,w2,fr,g1,g2,g3⟩:=key;exact⟨e,w2,fr,g1,Comes.of_steps jW g2,g3⟩
  have aoO:=yP (X:=X.at G E) (Q:=fun a' w'=>∃aO s',(exec P S fn stop inl n false {c with tmps:=s'.tmps,H:=s'.H,todo:=k}).Holds K (Safe P f X K)∧b8 (X.at G E) aO s' a' w') hS (mu.at G E) aq7 aoN h (fun s' pq hh=>by
   rw[Bool.cond_eq_ite]at hh;split at hh;rename_i hc;exact hc;exact hh.elim) (fun aO s' pq a' w' hh eu=>by
   rw[Bool.cond_eq_ite]at hh;split at hh;exact⟨aO,s',hh,eu⟩;exact hh.elim) hr.drew
  have acM:∀tt,wpOps P rs (fun e a' w'=>e=.normal∧∃aO s',(exec P S fn stop inl n false {c with tmps:=s'.tmps,H:=s'.H,todo:=k}).Holds K (Safe P f X K)∧b8 (X.at G E) aO s' a' w') (Region.schedule (P.follows .mixedOrders) rs tt) a {w with drawn:=w.drawn+1}:=fun tt=>by
   simp only[Region.schedule,hm,Bool.true_or,if_true];exact wpAny_sound rs.size tt _ a _ aoO
  refine cB.step (fun _=>stepR_region_draw) ?_;have aiB:=gN c9 (fun e a w hq=>hq.1) _ a t _ og (acM (w.tape w.drawn (.order b.fn id)));intro cs;obtain⟨a1,w1,⟨_,a',⟨_,aO,s',hh,eu⟩,ht'⟩,jW⟩:=gM gl (fun e a w hq=>hq.1) _ t _ aiB b k (fs++cs);have key:=fX hS mu hm hf n false _ hh G E aO a' w1 fV gh eu b a1 fs (hwf a' a1 ht' eu.defers) cs;obtain⟨e,w2,fr,g1,g2,g3⟩:=key;exact⟨e,w2,fr,g1,Comes.of_steps jW g2,g3⟩;exact h.elim;rename_i rs todo k mz;rw[mz];rw[Bool.cond_eq_ite]at h;split at h;rename_i he;simp only[and_eq_true]at he;have hle:todo.length≤rs.size:=le_of_ble_eq_true he.1;have he:todo=range' (rs.size - todo.length) todo.length:=by simpa using he.2
  have key:=aq4 fst c.stk.rid rs (rs.size - todo.length) k (by omega) h;rw[show rs.size - (rs.size - todo.length)=todo.length from by omega,←he]at key;exact key;exact h.elim;rename_i k mz;rw[mz];rw[Bool.cond_eq_ite]at h;split at h;rename_i dQ;split at h;rename_i id dU;split at h;rename_i d L sl hf';exact yT (y:=(d,L,sl)) dQ dU hf' (fX hS mu hm hf n _ _ h) fV gh hr hw;exact h.elim;exact h.elim;exact h.elim;rename_i j ps yI body k mz;rw[mz];rw[Bool.cond_eq_ite]at h;split at h;rename_i aoM;have c9:rest=[]∨j<c.n:=aaS aoM rG acL;split at h;rename_i g hg;have hd0:=hr.den j;rw[show(St.tmps ⟨c.tmps,c.H⟩).getD j (.s .aF)=_ from hg]at hd0;have hv:=yH (aw (by simp) hd0);exact so (g:=.tmp j) (cvs:=[]) rfl h m6 fV gh hr hw (by rw[og.bool c9,hv]) (bc.2 rfl);rename_i g c8 hg;have hd0:=hr.den j;rw[show(St.tmps ⟨c.tmps,c.H⟩).getD j (.s .aF)=_ from hg]at hd0;unfold ae at hd0;obtain⟨vs,hv,pK⟩:=hd0;exact so (g:=.tmp j) (cvs:=vs) rfl h m6 fV gh hr hw (by rw[og.bool c9,hv]) pK;exact h.elim;exact h.elim;rename_i body k mz;rw[mz];rw[Bool.cond_eq_ite]at h;split at h;exact cB.step (fun _=>stepR_loop) (fX hS mu hm hf n _ _ h G E ρ a w fV gh hr b t fs hw);exact cB.step (fun _=>stepR_loop) (h G E ρ a w fV gh hr b t fs hw);rename_i body k mz;rw[mz];rw[Bool.cond_eq_ite]at h;split at h;exact cB.step (fun _=>stepR_inLoop) (fX hS mu hm hf n _ _ h G E ρ a w fV gh hr b t fs hw);exact cB.step (fun _=>stepR_inLoop) (h G E ρ a w fV gh hr b t fs hw);exact h G E ρ a w fV gh hr b t fs hw
theorem Wf.base(f:FuncId){a:Act}(h:a.defers=[]):Wf f {} a.tmps.toList [] {(default:Frame)with fn:=f,kind:=.normal,roundOf:=none} a []:=
 ⟨List.nodup_nil,a.tmps.toList,[],[],[],[],[],by simp,rfl,rfl,⟨⟨none,rfl,rfl,rfl⟩,(Act.eta h).symm,rfl⟩,rfl,rfl,rfl⟩
theorem Safe.al2{f:FuncId}{c:aR}(h:Safe P f X K c)(hc:c.stk={})(hE:X.E=[])(hr:b8 X ρ ⟨c.tmps,c.H⟩ a w):cB P f (iY X K) {(default:Frame)with fn:=f,kind:=.normal,roundOf:=none} a c.todo [] w:=by
 have e:X.at X.G []=X:=by
  obtain⟨x1,x2,x3,x4,x5⟩:=X;simp only at hE;subst hE;rfl
 exact h X.G [] ρ a w (fun _ h=>h) (fun _ h=>.inl h) (by rw[e];exact hr) _ a [] (by rw[hc];exact Wf.base f hr.defers)
end
def allM{α β:Type}(f:α->Option β):List α->Option (List β)
 |[]=>some []|a::aI=>match f a,allM f aI with
  |some b,some bs=>some (b::bs)|_,_=>none
def rnS:SV->SV
 |.aq k n=>.int k n|.ao b=>.bool b|x=>x
def rn(g:Nat->Option Nat):Nat->AV->Option AV
 |0,_=>none|d+1,a=>
  match a with
  |.s x=>some (.s (rnS x))|.ptr id off=>(g id).map λj=>.ptr j off|.jM id off n i=>(g id).map λj=>.jM j off n i|.jo c m j=>some (.jo c m j)|.vec id=>(g id).map λj=>.vec j|.gw id i j=>(g id).map λl=>.gw l i j|.part id lo n=>(g id).map λl=>.part l lo n|.sub id off n=>(g id).map λl=>.sub l off n|.ke id i j n=>(g id).map λl=>.ke l i j n|.emp=>some .emp|.agg segs=>(allM (rn g d) segs).map .agg|.ay k n ws=>some (.ay k n ws)|.bO vs=>(allM (rn g d) vs).map .bO|.fn f c8=>(allM (rn g d) c8).map (.fn f)|.fnb f c8=>(allM (rn g d) c8).map (.fnb f)|.iy id=>(g id).map λj=>.iy j|.tag id=>(g id).map λj=>.tag j
def rH(g:Nat->Option Nat):au->Option au
 |.ad segs e=>(allM (rn g 20) segs).map λs=>.ad s e|.vec c e=>some (.vec c e)|.map ck m=>some (.map ck m)|.wZ ck m gid=>match g gid with
  |some j=>some (.wZ ck m j)|none=>some (.map ck m)
 |.iter mid gid ck left cur=>match g mid,g gid with
  |some i,some j=>some (.iter i j ck left cur)|_,_=>none
 |.aW=>some .aW
structure Emb (g:Nat->Option Nat) (ρ:Nat->Value) (H:aJ) (O:Nat->Prop) (aO:Nat->Value) (H':aJ) (O':Nat->Prop):Prop where
 id:∀i j,g i=some j->aO j=ρ i/\∀o,H i=some o->∃o',H' j=some o'/\∀c e,o'=.vec c e->o=.vec c e
 ft:∀b,O' b->O b
section
variable{g:Nat->Option Nat}{ρ aO:Nat->Value}{H H':aJ}{G O O':Nat->Prop}{w w':World}{P:Program}{S:fa}{Z:aP}{X:Ctx}{s:St}{a:Act}{K:List au->AV->Prop}{C:aR->Prop}
theorem allM_cons{α β:Type}{f:α->Option β}{a:α}{aI:List α}{l:List β}(h:allM f (a::aI)=some l):∃b bs,f a=some b/\allM f aI=some bs/\l=b::bs:=by
 unfold allM at h;split at h;rename_i b bs h1 h2;simp only[Option.some.injEq]at h;exact⟨b,bs,h1,h2,h.symm⟩;cases h
theorem eE{α β:Type}{f:α->Option β}:∀{aI:List α} {l:List β},allM f aI=some l->l.length=aI.length
 |[],l,h=>by simp only[allM,Option.some.injEq]at h;subst h;rfl
 |a::aI,l,h=>by
  obtain⟨b,bs,_,h2,rfl⟩:=allM_cons h;simp[eE h2]
theorem dE{α β:Type}{f:α->Option β}:∀{aI:List α} {l:List β},allM f aI=some l->∀(i:Nat) (a:α),aI[i]? =some a->∃b,f a=some b/\l[i]? =some b
 |[],l,h,i,a,hi=>by simp at hi
 |a::aI,l,h,i,x,hi=>by
  obtain⟨b,bs,h1,h2,rfl⟩:=allM_cons h;cases i with
  |zero=>simp only[List.getElem?_cons_zero,Option.some.injEq]at hi;subst hi;exact⟨b,h1,rfl⟩|succ i=>simpa using dE h2 i x (by simpa using hi)
theorem aX.less(ft:∀b,O' b->O b){x:SV}{v:Value}(h:aX O w x v):aX O' w x v:=
 h.step (λb hb=>.inl (ft b hb)) (λ_ _ _=>rfl) (le_refl _)
theorem aX.rnS{x:SV}{v:Value}(h:aX O w x v):aX O w (rnS x) v:=by
 cases h<;>first
  |exact aX.int _ _|exact aX.bool _|(refine aX.ro _ _ _ _ _ _ ?_ ?_ ?_ ?_ ?_<;>assumption)
  |(constructor<;>assumption)
  |constructor
theorem afJ(ft:∀b,O' b->O b){x:SV}{v:Value}(h:ae ρ H O w (.s x) v):ae aO H' O' w (.s (Sx.rnS x)) v:=by
 by_cases hx:x=.aF;subst hx;unfold ae;trivial;have h1:=aw hx h;exact aC (h1.less ft).rnS
theorem rI(E:Emb g ρ H O aO H' O'):∀(d:Nat),
 (∀a a' v,rn g d a=some a'->ae ρ H O w a v->ae aO H' O' w a' v)/\(∀a a' cs,rn g d a=some a'->aN ρ H O w a cs->aN aO H' O' w a' cs):=by
 have isSome:∀{i j:Nat},g i=some j->(H i).isSome=true->(H' j).isSome=true:=by
  intro i j hg hi;have⟨o,ho⟩:=isSome_iff_exists.1 hi;have⟨o',c5,_⟩:=(E.id i j hg).2 o ho;rw[c5];rfl
 have aq8:∀{i j:Nat} {v:Value},g i=some j->aH ρ H O w (.vec i) v->aH aO H' O' w (.vec j) v:=by
  intro i j v hg h;unfold aH at *;have⟨h0,o,ho,h1⟩:=h;have⟨hr,h2⟩:=E.id i j hg;have⟨o',c5,h3⟩:=h2 o ho;exact⟨h0,o',c5,λc e hc=>by rw[hr];exact h1 c e (h3 c e hc)⟩
 have anp:∀{i j:Nat} {v:Value} {m n:Nat},g i=some j->aH ρ H O w (.gw i m n) v->aH aO H' O' w (.gw j m n) v:=by
  intro i j v m n hg h;unfold aH at *;have⟨h0,o,ho,h1⟩:=h;have⟨hr,h2⟩:=E.id i j hg;have⟨o',c5,h3⟩:=h2 o ho;exact⟨h0,o',c5,λc e hc=>by rw[hr];exact h1 c e (h3 c e hc)⟩
 have anq:∀{i j:Nat} {v:Value} {m n:Nat},g i=some j->aH ρ H O w (.part i m n) v->aH aO H' O' w (.part j m n) v:=by
  intro i j v m n hg h;unfold aH at *;have⟨h0,o,ho,h1⟩:=h;have⟨hr,h2⟩:=E.id i j hg;have⟨o',c5,h3⟩:=h2 o ho;exact⟨h0,o',c5,λc e hc=>by rw[hr];exact h1 c e (h3 c e hc)⟩
 have aiC:∀{i j:Nat} {v:Value} {m n:Nat},g i=some j->aH ρ H O w (.sub i m n) v->aH aO H' O' w (.sub j m n) v:=by
  intro i j v m n hg h;unfold aH at *;have⟨h0,b,a,cap,h1,h2,h4,h3⟩:=h;exact⟨h0,b,a,cap,by rw[(E.id i j hg).1,h1],h2,h4,isSome hg h3⟩
 have anr:∀{i j:Nat} {v:Value} {m n l:Nat},g i=some j->aH ρ H O w (.ke i m n l) v->aH aO H' O' w (.ke j m n l) v:=by
  intro i j v m n l hg h;unfold aH at *;have⟨h0,o,ho,h1⟩:=h;have⟨hr,h2⟩:=E.id i j hg;have⟨o',c5,h3⟩:=h2 o ho;exact⟨h0,o',c5,λc e hc=>by rw[hr];exact h1 c e (h3 c e hc)⟩
 have aq9:∀{i j:Nat} {v:Value} {off:Nat},g i=some j->aH ρ H O w (.ptr i off) v->aH aO H' O' w (.ptr j off) v:=by
  intro i j v off hg h;unfold aH at *;have⟨b,h1,h2,h3⟩:=h;exact⟨b,by rw[(E.id i j hg).1,h1],h2,isSome hg h3⟩
 have ara:∀{i j:Nat} {v:Value},g i=some j->aH ρ H O w (.iy i) v->aH aO H' O' w (.iy j) v:=by
  intro i j v hg h;unfold aH at *;have⟨b,h1,h2,h3⟩:=h;exact⟨b,by rw[(E.id i j hg).1,h1],h2,isSome hg h3⟩
 have arb:∀{i j:Nat} {v:Value},g i=some j->aH ρ H O w (.tag i) v->aH aO H' O' w (.tag j) v:=by
  intro i j v hg h;unfold aH at *;have⟨h1,h2,h3⟩:=h;exact⟨by rw[(E.id i j hg).1,h1],h2,isSome hg h3⟩
 have ans:∀{i j:Nat} {v:Value} {off n l:Nat},g i=some j->aH ρ H O w (.jM i off n l) v->aH aO H' O' w (.jM j off n l) v:=by
  intro i j v off n l hg h;unfold aH at *;have⟨h0,b,h1,h2,h3⟩:=h;exact⟨h0,b,by rw[(E.id i j hg).1,h1],h2,isSome hg h3⟩
 have ant:∀{c:aS} {m j:Nat} {v:Value},aH ρ H O w (.jo c m j) v->aH aO H' O' w (.jo c m j) v:=by
  intro c m j v h;unfold aH at *;have⟨b,o,us,h1,h2,h3,h4⟩:=h;exact⟨b,o,us,h1,λh5=>h2 (E.ft b h5),h3,λi hi=>⟨(h4 i hi).1,(h4 i hi).2.less E.ft⟩⟩
 intro d
 induction d with
 |zero=>exact⟨λa a' v h=>by simp[rn]at h,λa a' cs h=>by simp[rn]at h⟩
 |succ d ih=>
  have lst:∀(aI dB:List AV) (vs:List Value),allM (rn g d) aI=some dB->bH ρ H O w aI vs->bH aO H' O' w dB vs:=by
   intro aI
   induction aI with
   |nil=>intro dB vs h hd;simp only[allM,Option.some.injEq]at h;subst h;rw[bc.1 hd];exact bc.2 rfl
   |cons a aI ihl=>
    intro dB vs h hd;obtain⟨b,bs,h1,h2,rfl⟩:=allM_cons h;obtain⟨v,rest,rfl,h3,h4⟩:=aG.1 hd;exact aG.2 ⟨v,rest,rfl,ih.1 a b v h1 h3,ihl bs rest h2 h4⟩
  have sgs:∀(aI dB:List AV) (cs:List Value),allM (rn g d) aI=some dB->aA ρ H O w aI cs->aA aO H' O' w dB cs:=by
   intro aI
   induction aI with
   |nil=>intro dB vs h hd;simp only[allM,Option.some.injEq]at h;subst h;rw[aB.1 hd];exact aB.2 rfl
   |cons a aI ihl=>
    intro dB vs h hd;obtain⟨b,bs,h1,h2,rfl⟩:=allM_cons h;obtain⟨c1,c2,rfl,h3,h4⟩:=ah.1 hd;exact ah.2 ⟨c1,c2,rfl,ih.2 a b c1 h1 h3,ihl bs c2 h2 h4⟩
  refine⟨λa a' v h hd=> ?_,λa a' cs h hd=> ?_⟩;cases a<;>simp only[rn,map_eq_some_iff,Option.some.injEq,reduceCtorEq]at h
  case s x=>subst h;exact afJ E.ft hd
  case ptr id off=>obtain⟨j,hg,rfl⟩:=h;unfold ae at *;exact aq9 hg hd
  case jM id off n i=>obtain⟨j,hg,rfl⟩:=h;unfold ae at *;exact ans hg hd
  case jo c m j=>subst h;unfold ae at *;exact ant hd
  case vec id=>obtain⟨j,hg,rfl⟩:=h;unfold ae at *;exact aq8 hg hd
  case gw id i j=>obtain⟨l,hg,rfl⟩:=h;unfold ae at *;exact anp hg hd
  case part id lo n=>obtain⟨l,hg,rfl⟩:=h;unfold ae at *;exact anq hg hd
  case sub id off n=>obtain⟨l,hg,rfl⟩:=h;unfold ae at *;exact aiC hg hd
  case ke id i j n=>obtain⟨l,hg,rfl⟩:=h;unfold ae at *;exact anr hg hd
  case emp=>subst h;unfold ae at *;exact hd
  case agg segs=>obtain⟨l,hl,rfl⟩:=h;unfold ae at *;have⟨cs,h1,h2⟩:=hd;exact⟨cs,h1,sgs _ _ _ hl h2⟩
  case ay k n ws=>subst h;unfold ae at *;exact hd
  case bO vs=>obtain⟨l,hl,rfl⟩:=h;unfold ae at *;have⟨us,h1,h2⟩:=hd;exact⟨us,h1,lst _ _ _ hl h2⟩
  case fn f c8=>obtain⟨l,hl,rfl⟩:=h;unfold ae at *;have⟨us,h1,h2⟩:=hd;exact⟨us,h1,lst _ _ _ hl h2⟩
  case fnb f c8=>obtain⟨l,hl,rfl⟩:=h;unfold ae at *;have⟨us,h1,h2⟩:=hd;exact⟨us,h1,lst _ _ _ hl h2⟩
  case iy id=>obtain⟨j,hg,rfl⟩:=h;unfold ae at *;exact ara hg hd
  case tag id=>obtain⟨j,hg,rfl⟩:=h;unfold ae at *;exact arb hg hd
  cases a<;>simp only[rn,map_eq_some_iff,Option.some.injEq,reduceCtorEq]at h
  case s x=>subst h;unfold aN at *;have⟨u,h1,h2⟩:=hd;exact⟨u,h1,(h2.less E.ft).rnS⟩
  case ptr id off=>obtain⟨j,hg,rfl⟩:=h;unfold aN at *;have⟨u,h1,h2⟩:=hd;exact⟨u,h1,aq9 hg h2⟩
  case jM id off n i=>obtain⟨j,hg,rfl⟩:=h;unfold aN at *;have⟨u,h1,h2⟩:=hd;exact⟨u,h1,ans hg h2⟩
  case jo c m j=>subst h;unfold aN at *;have⟨u,h1,h2⟩:=hd;exact⟨u,h1,ant h2⟩
  case vec id=>obtain⟨j,hg,rfl⟩:=h;unfold aN at *;have⟨u,h1,h2⟩:=hd;exact⟨u,h1,aq8 hg h2⟩
  case gw id i j=>obtain⟨l,hg,rfl⟩:=h;unfold aN at *;have⟨u,h1,h2⟩:=hd;exact⟨u,h1,anp hg h2⟩
  case part id lo n=>obtain⟨l,hg,rfl⟩:=h;unfold aN at *;have⟨u,h1,h2⟩:=hd;exact⟨u,h1,anq hg h2⟩
  case sub id off n=>obtain⟨l,hg,rfl⟩:=h;unfold aN at *;have⟨u,h1,h2⟩:=hd;exact⟨u,h1,aiC hg h2⟩
  case ke id i j n=>obtain⟨l,hg,rfl⟩:=h;unfold aN at *;have⟨u,h1,h2⟩:=hd;exact⟨u,h1,anr hg h2⟩
  case emp=>subst h;unfold aN at *;exact hd
  case agg segs=>unfold aN at hd;exact hd.elim
  case ay k n ws=>subst h;unfold aN at *;exact hd
  case bO vs=>unfold aN at hd;exact hd.elim
  case fn f c8=>obtain⟨l,hl,rfl⟩:=h;unfold aN at *;have⟨u,h1,us,h2,h3⟩:=hd;exact⟨u,h1,us,h2,lst _ _ _ hl h3⟩
  case fnb f c8=>obtain⟨l,hl,rfl⟩:=h;unfold aN at *;have⟨u,h1,us,h2,h3⟩:=hd;exact⟨u,h1,us,h2,lst _ _ _ hl h3⟩
  case iy id=>obtain⟨j,hg,rfl⟩:=h;unfold aN at *;have⟨u,h1,h2⟩:=hd;exact⟨u,h1,ara hg h2⟩
  case tag id=>obtain⟨j,hg,rfl⟩:=h;unfold aN at *;have⟨u,h1,h2⟩:=hd;exact⟨u,h1,arb hg h2⟩
theorem pT(E:Emb g ρ H O aO H' O'){d:Nat}:∀{aI dB:List AV} {vs:List Value},allM (rn g d) aI=some dB->bH ρ H O w aI vs->bH aO H' O' w dB vs
 |[],dB,vs,h,hd=>by simp only[allM,Option.some.injEq]at h;subst h;rw[bc.1 hd];exact bc.2 rfl
 |a::aI,dB,vs,h,hd=>by
  obtain⟨b,bs,h1,h2,rfl⟩:=allM_cons h;obtain⟨v,rest,rfl,h3,h4⟩:=aG.1 hd;exact aG.2 ⟨v,rest,rfl,(rI E d).1 a b v h1 h3,pT E h2 h4⟩
theorem uT(E:Emb g ρ H O aO H' O'){d:Nat}:∀{aI dB:List AV} {cs:List Value},allM (rn g d) aI=some dB->aA ρ H O w aI cs->aA aO H' O' w dB cs
 |[],dB,vs,h,hd=>by simp only[allM,Option.some.injEq]at h;subst h;rw[aB.1 hd];exact aB.2 rfl
 |a::aI,dB,vs,h,hd=>by
  obtain⟨b,bs,h1,h2,rfl⟩:=allM_cons h;obtain⟨c1,c2,rfl,h3,h4⟩:=ah.1 hd;exact ah.2 ⟨c1,c2,rfl,(rI E d).2 a b c1 h1 h3,uT E h2 h4⟩
theorem pU(E:Emb g ρ H O aO H' O'){o o':au}{iR:Value}(h:rH g o=some o')(hs:kG ρ H O w iR o):kG aO H' O' w iR o':=by
 cases o with
 |aW=>simp only[rH,Option.some.injEq]at h;subst h;trivial|map ck m=>simp only[rH,Option.some.injEq]at h;subst h;exact hs|wZ ck m gid=>
  have⟨b,es,clock,h0,h1,h2,h3,h4⟩:=hs;simp only[rH]at h;split at h;rename_i j hj;simp only[Option.some.injEq]at h;subst h;have⟨e1,e2⟩:=E.id _ _ hj;have⟨o,ho⟩:=isSome_iff_exists.1 h4;have⟨o',c5,_⟩:=e2 o ho;exact⟨b,es,clock,h0,h1,h2,by rw[e1];exact h3,by rw[c5];rfl⟩;simp only[Option.some.injEq]at h;subst h;exact⟨b,es,clock,h0,h1,h2⟩
 |iter mid gid ck left cur=>
  have⟨b,mb,es,clock,seen,h0,h1,h2,h3,h4,h5,h6⟩:=hs;simp only[rH]at h;split at h;rename_i i j hi hj;simp only[Option.some.injEq]at h;subst h;have⟨e1,e2⟩:=E.id _ _ hj;have⟨o,ho⟩:=isSome_iff_exists.1 h4;have⟨o',c5,_⟩:=e2 o ho;have⟨e3,e4⟩:=E.id _ _ hi;have⟨p,hp⟩:=isSome_iff_exists.1 h6;have⟨p',ri,_⟩:=e4 p hp;exact⟨b,mb,es,clock,seen,h0,h1,h2,by rw[e1];exact h3,by rw[c5];rfl,by rw[e3];exact h5,by rw[ri];rfl⟩;cases h
 |ad segs e=>
  simp only[rH,map_eq_some_iff]at h;obtain⟨l,hl,rfl⟩:=h;have⟨b,cells,fr,h0,h1,h2,h3⟩:=hs;exact⟨b,cells,fr,h0,h1,h2,uT E hl h3⟩
 |vec c e=>
  simp only[rH,Option.some.injEq]at h;subst h;have⟨r,cap,h0,h1,h2,h3⟩:=hs;refine⟨r,cap,h0,h1,h2,h3.imp id ?_⟩;rintro⟨b,f,cells,fr,us,h4,h5,h6,h7,h8⟩;exact⟨b,f,cells,fr,us,h4,h5,h6,h7,λi j hi hj=>⟨(h8 i j hi hj).1,(h8 i j hi hj).2.less E.ft⟩⟩
theorem bq{o o':au}(h:rH g o=some o'):o'.alive=o.alive/\∀c e,o'=.vec c e->o=.vec c e:=by
 cases o with
 |aW=>simp only[rH,Option.some.injEq]at h;subst h;exact⟨rfl,λc e hc=>by cases hc⟩
 |map ck m=>simp only[rH,Option.some.injEq]at h;subst h;exact⟨rfl,λc e hc=>by cases hc⟩
 |wZ ck m gid=>
  simp only[rH]at h;split at h<;>simp only[Option.some.injEq]at h<;>subst h<;>exact⟨rfl,λc e hc=>by cases hc⟩
 |iter mid gid ck left cur=>
  simp only[rH]at h;split at h;simp only[Option.some.injEq]at h;subst h;exact⟨rfl,λc e hc=>by cases hc⟩;cases h
 |ad segs e=>
  simp only[rH,map_eq_some_iff]at h;obtain⟨l,hl,rfl⟩:=h;exact⟨rfl,λc e hc=>by cases hc⟩
 |vec c e=>simp only[rH,Option.some.injEq]at h;subst h;exact⟨rfl,λc e hc=>hc⟩
def sQ:List Nat->Nat->Nat->Option Nat
 |[],_,_=>none|x::xs,k,id=>bif x.beq id then some k else sQ xs (k+1) id
def idx(σ:List Nat)(id:Nat):Option Nat:=sQ σ 0 id
def pW(σ:List Nat)(L:List au):Option (List au):=allM (λid=>match L[id]? with|some o=>rH (idx σ) o|none=>none) σ
def rJ:List Nat->Bool
 |[]=>true|x::xs=> !(xs.any (x.beq ·))&&rJ xs
theorem jK:∀{σ:List Nat} {k id j:Nat},sQ σ k id=some j->k<=j/\σ[j - k]? =some id
 |[],k,id,j,h=>by simp[sQ]at h
 |x::xs,k,id,j,h=>by
  simp only[sQ,Bool.cond_eq_ite]at h;split at h;rename_i hx;obtain rfl:x=id:=Nat.eq_of_beq_eq_true hx;obtain rfl:k=j:=by simpa using h
  exact⟨le_refl _,by simp⟩;have⟨h1,h2⟩:=jK h;refine⟨by omega, ?_⟩;rw[show j - k=(j - (k+1))+1 from by omega];simpa using h2
theorem uU{σ:List Nat}{id j:Nat}(h:idx σ id=some j):σ[j]? =some id:=by simpa using(jK h).2
theorem iZ:∀{σ:List Nat},rJ σ=true->σ.Nodup
 |[],_=>.nil|x::xs,h=>by
  simp only[rJ,and_eq_true,Bool.not_eq_true',List.any_eq_false]at h;refine List.nodup_cons.2 ⟨λhm=> ?_,iZ h.2⟩;have:=h.1 x hm;simp at this
theorem nG{σ:List Nat}{L L':List au}(h:pW σ L=some L'){j:Nat}{o':au}(hj:L'[j]? =some o'):∃(id:Nat) (o:au),σ[j]? =some id/\L[id]? =some o/\rH (idx σ) o=some o':=by
 have bL:=eE h;have a8:j<σ.length:=by rw[<-bL];exact(List.getElem?_eq_some_iff.1 hj).1
 have⟨b,h1,h2⟩:=dE h j σ[j] (getElem?_eq_getElem a8);rw[hj]at h2;simp only[Option.some.injEq]at h2;subst h2;split at h1;rename_i o ho;exact⟨σ[j],o,getElem?_eq_getElem a8,ho,h1⟩;cases h1
theorem aaU{σ:List Nat}{L L':List au}(h:pW σ L=some L'){j id:Nat}(hj:σ[j]? =some id):∃o o',L[id]? =some o/\rH (idx σ) o=some o'/\L'[j]? =some o':=by
 have⟨b,h1,h2⟩:=dE h j id hj;split at h1;rename_i o ho;exact⟨o,b,ho,h1,h2⟩;cases h1
def pull(σ:List Nat)(ρ:Nat->Value):Nat->Value:=λj=>ρ (σ.getD j 0)
theorem pX{σ:List Nat}{L L':List au}(hv:pW σ L=some L'){b:Nat}(h:Own (pull σ ρ) (λj=>L'[j]?) b):∃(j id:Nat) (o:au),σ[j]? =some id/\L[id]? =some o/\o.alive=true/\eD (ρ id)=some b:=by
 have⟨j,o',c5,ha,hb⟩:=h;have⟨id,o,h1,h2,h3⟩:=nG hv c5;have:pull σ ρ j=ρ id:=by simp[pull,List.getD,h1]
 rw[this]at hb;exact⟨j,id,o,h1,h2,by rw[<-(bq h3).1];exact ha,hb⟩
theorem rK{σ:List Nat}{L L':List au}{G':Nat->Prop}(hs:Sat ρ (λi=>L[i]?) G w)(hn:σ.Nodup)(hv:pW σ L=some L')(hG:∀b,G' b->aV ρ (λi=>L[i]?) G b)(hap:∀b,Own (pull σ ρ) (λj=>L'[j]?) b->¬G' b):
 Sat (pull σ ρ) (λj=>L'[j]?) G' w/\Emb (idx σ) ρ (λi=>L[i]?) (aV ρ (λi=>L[i]?) G) (pull σ ρ) (λj=>L'[j]?) (aV (pull σ ρ) (λj=>L'[j]?) G'):=by
 have iD:∀{j id:Nat},σ[j]? =some id->pull σ ρ j=ρ id:=λh1=>by simp[pull,List.getD,h1]
 have E:Emb (idx σ) ρ (λi=>L[i]?) (aV ρ (λi=>L[i]?) G) (pull σ ρ) (λj=>L'[j]?) (aV (pull σ ρ) (λj=>L'[j]?) G'):=by
  refine⟨λi j kT=> ?_,λb hb=> ?_⟩;have h1:=uU kT;refine⟨iD h1,λo ho=> ?_⟩;have⟨o1,o',h2,h3,h4⟩:=aaU hv h1;rw[show L[i]? =some o from ho]at h2;simp only[Option.some.injEq]at h2;subst h2;exact⟨o',h4,(bq h3).2⟩;rcases hb with hb|hb;have⟨j,id,o,h1,h2,h3,h4⟩:=pX hv hb;exact .inl ⟨id,o,h2,h3,h4⟩;exact hG b hb
 refine⟨⟨λj o' c5=> ?_,λi j oi oj b hi hj ai aj bi bj=> ?_,hap,λb hb=>ua hs (hG b hb)⟩,E⟩;have⟨id,o,h1,h2,h3⟩:=nG hv c5;rw[iD h1];exact pU E h3 (hs.obj id o h2);have⟨id,o,h1,h2,h3⟩:=nG hv hi;have⟨id',o',h1',h2',h3'⟩:=nG hv hj;rw[iD h1]at bi;rw[iD h1']at bj;have:=hs.inj id id' o o' b h2 h2' (by rw[<-(bq h3).1];exact ai) (by rw[<-(bq h3').1];exact aj) bi bj;subst this;have ep:=List.getElem?_eq_some_iff.1 h1;have js:=List.getElem?_eq_some_iff.1 h1';have⟨wY,xd⟩:=ep;have⟨hj1,hj2⟩:=js;exact(List.getElem_inj hn).1 (xd.trans hj2.symm)
theorem xK{σ:List Nat}{L L':List au}{ρ0:Nat->Value}{H0:aJ}{O0:Nat->Prop}{w0:World}{m:Nat}(hs:Sat ρ (λi=>L[i]?) G w)(hn:σ.Nodup)(hv:pW σ L=some L')(afK:∀i,i<m->σ[i]? =some i)(h0:∀id,m<=id->H0 id=none)
 (st:Step ρ0 H0 O0 w0 ρ (λi=>L[i]?) (aV ρ (λi=>L[i]?) G) w):Step ρ0 H0 O0 w0 (pull σ ρ) (λj=>L'[j]?) (aV (pull σ ρ) (λj=>L'[j]?) G) w:=by
 have E:=(rK (G':=G) hs hn hv (λb hb=>.inr hb) (λb hb=>by
  have⟨j,id,o,h1,h2,h3,h4⟩:=pX hv hb;exact hs.apart b ⟨id,o,h2,h3,h4⟩)).2
 have a8:∀{id:Nat} {o:au},H0 id=some o->id<m:=λ{id o} h=>by
  rcases lt_or_ge id m with h1|h1;exact h1;rw[h0 id h1]at h;cases h
 refine⟨λid o ho=> ?_,λid o ho=> ?_,λb hb=>st.ft b (E.ft b hb),st.heap,st.size⟩;rw[show pull σ ρ id=ρ id from by simp[pull,List.getD,afK id (a8 ho)]];exact st.pt id o ho;have⟨o1,h1,h2⟩:=st.eT id o ho;have⟨o2,o',h3,h4,h5⟩:=aaU hv (afK id (a8 ho));rw[show L[id]? =some o1 from h1]at h3;simp only[Option.some.injEq]at h3;subst h3;exact⟨o',h5,λc e hc=>h2 c e ((bq h4).2 c e hc)⟩
theorem Good.view{σ:List Nat}{L L':List au}{m d:Nat}{r r':AV}{v:Value}(h:Good ρ H G w (λi=>L[i]?) r v w')(hn:σ.Nodup)(hv:pW σ L=some L')(afK:∀i,i<m->σ[i]? =some i)(h0:∀id,m<=id->H id=none)(hr:rn (idx σ) d r=some r'):
 Good ρ H G w (λi=>L'[i]?) r' v w':=by
 have⟨aO,h1,h2,h3,h4⟩:=h
 have⟨h5,h6⟩:=rK (G':=G) h1 hn hv (λb hb=>.inr hb) (λb hb=>by
  have⟨j,id,o,h1',h2,h3,h4⟩:=pX hv hb;exact h1.apart b ⟨id,o,h2,h3,h4⟩)
 exact⟨pull σ aO,h5,(rI h6 d).1 r r' v hr h2,xK h1 hn hv afK h0 h3,h4⟩
theorem b8.view{σ:List Nat}{tmps sq:List AV}{L L':List au}{m d:Nat}(h:b8 X ρ ⟨tmps,L⟩ a w)(hn:σ.Nodup)(hv:pW σ L=some L')(afK:∀i,i<m->σ[i]? =some i)(h0:∀id,m<=id->X.H id=none)(ht:allM (rn (idx σ) d) tmps=some sq):
 b8 X (pull σ ρ) ⟨sq,L'⟩ a w:=by
 have hs:Sat ρ (λi=>L[i]?) X.G w:=h.sat
 have⟨h5,h6⟩:=rK (G':=X.G) hs hn hv (λb hb=>.inr hb) (λb hb=>by
  have⟨j,id,o,h1',h2,h3,h4⟩:=pX hv hb;exact hs.apart b ⟨id,o,h2,h3,h4⟩)
 refine⟨h5,by rw[<-h.size];exact eE ht,λt=> ?_,h.defers,xK hs hn hv afK h0 h.cu,h.iH,h.kept⟩;have hd:=h.den t;simp only[]at hd ⊢;rcases lt_or_ge t tmps.length with a8|hge;have⟨b,h1,h2⟩:=dE ht t tmps[t] (getElem?_eq_getElem a8);have e1:tmps.getD t (.s .aF)=tmps[t]:=by simp[List.getD,a8]
 have e2:sq.getD t (.s .aF)=b:=by simp[List.getD,h2]
 rw[e1]at hd;rw[e2];exact(rI h6 d).1 _ _ _ h1 hd
 have e2:sq.getD t (.s .aF)=.s .aF:=by
  have:=eE ht;simp[List.getD,getElem?_eq_none (show sq.length<=t by omega)]
 rw[e2];unfold ae;trivial
def dX(ks:List Nat):Nat->List AV->List AV
 |_,[]=>[]|i,a::aI=>(bif ks.any (i.beq ·)then a else .s .aF)::dX ks (i+1) aI
theorem mo(ks:List Nat):∀(i:Nat) (aI:List AV),(dX ks i aI).length=aI.length
 |_,[]=>rfl|i,a::aI=>by simp[dX,mo ks (i+1) aI]
theorem pY(ks:List Nat):∀(i:Nat) (aI:List AV) (t:Nat),(dX ks i aI).getD t (.s .aF)=aI.getD t (.s .aF)\/(dX ks i aI).getD t (.s .aF)=.s .aF
 |_,[],t=>.inl rfl|i,a::aI,0=>by
  simp only[dX,List.getD_cons_zero];cases ks.any (i.beq ·);exact .inr rfl;exact .inl rfl
 |i,a::aI,t+1=>by
  simp only[dX,List.getD_cons_succ];exact pY ks (i+1) aI t
theorem b8.dX{tmps:List AV}{L:List au}(ks:List Nat)(h:b8 X ρ ⟨tmps,L⟩ a w):b8 X ρ ⟨dX ks 0 tmps,L⟩ a w:=by
 refine⟨h.sat,by rw[<-h.size];exact mo ks 0 tmps,λt=> ?_,h.defers,h.cu,h.iH,h.kept⟩;rcases pY ks 0 tmps t with h1|h1;simp only[];rw[h1];exact h.den t;simp only[];rw[h1];unfold ae;trivial
def nH(c:aS)(e:TypeId)(t:Nat)(tmps:List AV)(L:List au):List AV×List au:=
 match tmps.getD t (.s .aF)with
 |.emp=>bif c.n.beq 0 then(tmps.set t (.vec L.length),L++[.vec c e])else(tmps,L)|_=>(tmps,L)
theorem Step.alloc{v:Value}{c:aS}{e:TypeId}{L:List au}(hb:eD v=none):
 Step ρ (λi=>L[i]?) (aV ρ (λi=>L[i]?) G) w (λj=>if j=L.length then v else ρ j) (λi=>(L++[.vec c e])[i]?) (aV (λj=>if j=L.length then v else ρ j) (λi=>(L++[.vec c e])[i]?) G) w:=by
 have a8:∀{id:Nat} {o:au},L[id]? =some o->id<L.length:=λh=>(List.getElem?_eq_some_iff.1 h).1;refine⟨λid o ho=> ?_,λid o ho=> ?_,λb ue=>.inl ?_,λ_ _ _=>rfl,le_refl _⟩;have:=a8 ho;rw[if_neg (by omega)];have h1:=a8 ho;exact⟨o,by show(L++[.vec c e])[id]? =_;rw[getElem?_append_left h1];exact ho,λc' e' hc=>⟨c',e',hc,rfl,rfl⟩⟩;rcases ue with⟨id,o,ho,ha,hbl⟩|hg;by_cases dU:id=L.length;simp only[dU,if_true]at hbl;rw[hb]at hbl;cases hbl;simp only[dU,if_false]at hbl
 have c5:L[id]? =some o:=by
  have h2:=(List.getElem?_eq_some_iff.1 ho).1;simp only[length_append,length_cons,length_nil]at h2;have h3:id<L.length:=by omega
  have h4:(L++[.vec c e])[id]? =L[id]? :=getElem?_append_left h3;rw[<-h4];exact ho
 exact .inl ⟨id,o,c5,ha,hbl⟩;exact .inr hg
theorem b8.nH{c:aS}{e:TypeId}{t:Nat}{tmps:List AV}{L:List au}(h:b8 X ρ ⟨tmps,L⟩ a w):∃aO,b8 X aO ⟨(nH c e t tmps L).1,(nH c e t tmps L).2⟩ a w:=by
 unfold Sx.nH;split;rename_i he;rw[Bool.cond_eq_ite];split;rename_i hc;have hc:c.n=0:=Nat.eq_of_beq_eq_true hc;have hd:=h.den t;simp only[]at hd;rw[he]at hd;unfold ae at hd;have⟨r,hv⟩:=hd;have ko:eD (.slice r 0 0)=none:=by cases r<;>simp[eD]
 let aO:Nat->Value:=λj=>if j=L.length then .slice r 0 0 else ρ j
 have st:Step ρ (λi=>L[i]?) (aV ρ (λi=>L[i]?) X.G) w aO (λi=>(L++[.vec c e])[i]?) (aV aO (λi=>(L++[.vec c e])[i]?) X.G) w:=Step.alloc ko;have hs:Sat ρ (λi=>L[i]?) X.G w:=h.sat
 have old:∀{id:Nat} {o:au},(L++[.vec c e])[id]? =some o->(id=L.length/\o=.vec c e)\/(id≠L.length/\L[id]? =some o):=by
  intro id o ho;have h2:=(List.getElem?_eq_some_iff.1 ho).1;simp only[length_append,length_cons,length_nil]at h2;by_cases dU:id=L.length;subst dU;simp at ho;exact .inl ⟨rfl,ho.symm⟩;refine .inr ⟨dU, ?_⟩;rwa[getElem?_append_left (by omega)]at ho
 have dD:∀b,Own aO (λi=>(L++[.vec c e])[i]?) b->Own ρ (λi=>L[i]?) b:=by
  rintro b ⟨id,o,ho,ha,hb⟩;rcases old ho with⟨h1,h2⟩|⟨h1,h2⟩;simp only[aO,h1,if_true]at hb;rw[ko]at hb;cases hb;simp only[aO,h1,if_false]at hb;exact⟨id,o,h2,ha,hb⟩
 refine⟨aO,⟨⟨λid o ho=> ?_,λi j oi oj b hi hj ai aj bi bj=> ?_,λb hb=>hs.apart b (dD b hb),hs.low⟩,by simpa using h.size,λu=> ?_,h.defers, ?_,h.iH,h.kept⟩⟩;rcases old ho with⟨h1,h2⟩|⟨h1,h2⟩;subst h2;simp only[aO,h1,if_true];exact⟨r,0,by rw[hc],by omega,zero_le _,.inl rfl⟩;simp only[aO,h1,if_false];exact(hs.obj id o h2).step st (λ_ _ _=>rfl);rcases old hi with⟨h1,h2⟩|⟨h1,h2⟩;simp only[aO,h1,if_true]at bi;rw[ko]at bi;cases bi;rcases old hj with⟨h3,h4⟩|⟨h3,h4⟩;simp only[aO,h3,if_true]at bj;rw[ko]at bj;cases bj;simp only[aO,h1,if_false]at bi;simp only[aO,h3,if_false]at bj;exact hs.inj i j oi oj b h2 h4 ai aj bi bj;simp only[];rw[cM];split;rename_i hu;obtain⟨rfl,_⟩:=hu;rw[hv];unfold ae aH;refine⟨rfl,.vec c e,by simp[St.look],λc' e' _=> ?_⟩;exact(if_pos rfl).symm;exact ae.step st _ _ (h.den u);exact h.cu.trans st;exact⟨ρ,h⟩;exact⟨ρ,h⟩
def ad6:Nat->AV->List Nat
 |0,_=>[]|d+1,a=>match a with
  |.ptr id _|.jM id _ _ _|.vec id|.gw id _ _|.part id _ _|.iy id|.tag id|.sub id _ _|.ke id _ _ _=>[id]|.agg aI|.bO aI|.fn _ aI|.fnb _ aI=>aI.flatMap (ad6 d)|_=>[]
def aiD:Option au->List Nat
 |some (.ad segs _)=>segs.flatMap (ad6 20)|some (.iter mid gid _ _ _)=>[mid,gid]|_=>[]
def reach(L:List au):Nat->List Nat->List Nat->List Nat
 |0,_,acc=>acc|_,[],acc=>acc|n+1,id::todo,acc=>bif acc.any (id.beq ·)then reach L n todo acc else reach L n (todo++aiD L[id]?) (acc++[id])
def aoP(m:Nat)(σ:List Nat):Bool:=(List.range m).all λi=>match σ[i]? with|some j=>i.beq j|none=>false
structure Norm where
 oJ:List (Nat×aS×TypeId)
 eT:List Nat
 m:Nat
 cells:List (Nat×Nat×Bool×aS×TypeId)
def gm:List (Nat×aS×TypeId)->List AV->List au->List AV×List au
 |[],tmps,L=>(tmps,L)|(t,c,e)::ns,tmps,L=>let p:=nH c e t tmps L;gm ns p.1 p.2
def pZ(id j:Nat)(c:aS)(e:TypeId)(L:List au):List au:=
 match L[id]? with
 |some (.ad segs e0)=>(match segs[j]? with
  |some .emp=>bif c.n.beq 0 then L.set id (.ad (segs.set j (.vec L.length)) e0)++[.vec c e]else L|_=>L)
 |_=>L
def uV(id j:Nat)(c:aS)(L:List au):List au:=
 match L[id]? with
 |some (.ad segs e0)=>(match segs[j]? with
  |some .emp=>bif c.n.beq 0 then L.set id (.ad (segs.set j (.s (.ro c))) e0)else L|_=>L)
 |_=>L
def p7(id j:Nat)(L:List au):List au:=
 match L[id]? with
 |some (.ad segs e0)=>(match segs[j]? with
  |some (.vec v)=>(match L[v]? with
   |some (.vec c _)=>(L.set v .aW).set id (.ad (segs.set j (.s (.ro c))) e0)|_=>L)
  |_=>L)
 |_=>L
def gn:List (Nat×Nat×Bool×aS×TypeId)->List au->List au
 |[],L=>L|(id,j,ro,c,e)::ns,L=>gn ns (bif ro then p7 id j (uV id j c L)else pZ id j c e L)
def roots(L:List au)(m:Nat)(tmps:List AV):List Nat:=
 reach L 4000 ((List.range m).flatMap (λi=>aiD L[i]?)++tmps.flatMap (ad6 20)) (List.range m)
def fY(m:Nat)(tmps:List AV)(L:List au):Option (List AV×List au):=
 let σ:=roots L m tmps
 bif rJ σ&&aoP m σ then
  match pW σ L,allM (rn (idx σ) 20) tmps with
  |some L',some sq=>some (sq,L')|_,_=>none
 else none
def Norm.run(N:Norm)(c:aR):Option aR:=
 match fY N.m (dX N.eT 0 c.tmps) c.H with
 |some (t1,L1)=>
  let p:=gm N.oJ t1 L1
  (match fY N.m p.1 (gn N.cells p.2)with
  |some (t2,L2)=>some ⟨t2,L2,c.todo,c.stk⟩|none=>none)
 |none=>none
theorem uW:∀(segs:List AV) (j:Nat) {cells:List Value},segs[j]? =some .emp->aA ρ H O w segs cells->
 ∃r,∀(aO:Nat->Value) (H':aJ) (O':Nat->Prop) (x:AV),(∀a cs,aN ρ H O w a cs->aN aO H' O' w a cs)->aN aO H' O' w x [.slice r 0 0]->aA aO H' O' w (segs.set j x) cells
 |[],j,cells,h,hd=>by simp at h
 |a::aI,0,cells,h,hd=>by
  simp only[List.getElem?_cons_zero,Option.some.injEq]at h;subst h;obtain⟨c1,c2,rfl,h1,h2⟩:=ah.1 hd;unfold aN at h1;obtain⟨u,rfl,r,rfl⟩:=h1;refine⟨r,λaO H' O' x hs hx=> ?_⟩;simp only[List.set_cons_zero];refine ah.2 ⟨_,c2,rfl,hx, ?_⟩;clear hd
  induction aI generalizing c2 with
  |nil=>rw[aB.1 h2];exact aB.2 rfl|cons b bs ih=>
   obtain⟨d1,d2,rfl,h3,h4⟩:=ah.1 h2;exact ah.2 ⟨d1,d2,rfl,hs _ _ h3,ih d2 h4⟩
 |a::aI,j+1,cells,h,hd=>by
  obtain⟨c1,c2,rfl,h1,h2⟩:=ah.1 hd;have⟨r,h3⟩:=uW aI j (by simpa using h) h2;refine⟨r,λaO H' O' x hs hx=> ?_⟩;simp only[List.set_cons_succ];exact ah.2 ⟨c1,c2,rfl,hs _ _ h1,h3 aO H' O' x hs hx⟩
theorem b8.pZ{id j:Nat}{c:aS}{e:TypeId}{tmps:List AV}{L:List au}(h:b8 X ρ ⟨tmps,L⟩ a w):∃aO,b8 X aO ⟨tmps,pZ id j c e L⟩ a w:=by
 unfold Sx.pZ;split;rename_i segs e0 dU;split;rename_i hj;rw[Bool.cond_eq_ite];split;rename_i hc;have hc:c.n=0:=Nat.eq_of_beq_eq_true hc;have hs:Sat ρ (λi=>L[i]?) X.G w:=h.sat;have⟨b,cells,fr,h0,h1,h2,h3⟩:=hs.obj id _ dU;have⟨r,mQ⟩:=uW segs j hj h3;have ko:eD (.slice r 0 0)=none:=by cases r<;>simp[eD]
 have a8:id<L.length:=(List.getElem?_eq_some_iff.1 dU).1;let aO:Nat->Value:=λk=>if k=L.length then .slice r 0 0 else ρ k
 let L':=L.set id (.ad (segs.set j (.vec L.length)) e0)++[.vec c e]
 have old:∀{k:Nat} {o:au},L'[k]? =some o->(k=L.length/\o=.vec c e)\/(k=id/\k≠L.length/\o=.ad (segs.set j (.vec L.length)) e0)\/(k≠L.length/\k≠id/\L[k]? =some o):=by
  intro k o ho;have h2:=(List.getElem?_eq_some_iff.1 ho).1;simp only[L',length_append,List.length_set,length_cons,length_nil]at h2;by_cases hk:k=L.length;subst hk;simp only[L']at ho;rw[List.getElem?_append_right (by simp)]at ho;simp at ho;exact .inl ⟨rfl,ho.symm⟩;simp only[L']at ho;rw[getElem?_append_left (by simp;omega),List.getElem?_set]at ho;split at ho;rename_i hki;exact .inr (.inl ⟨hki.symm,hk,by simpa using ho.symm⟩);rename_i hki;exact .inr (.inr ⟨hk,Ne.symm hki,ho⟩)
 have new:∀{k:Nat} {o:au},L[k]? =some o->∃o',L'[k]? =some o'/\(∀c' e',o'=.vec c' e'->o=.vec c' e'):=by
  intro k o ho;have hk:k<L.length:=(List.getElem?_eq_some_iff.1 ho).1;by_cases hki:k=id;subst hki;refine⟨.ad (segs.set j (.vec L.length)) e0, ?_,λc' e' hc=>by cases hc⟩;simp only[L'];rw[getElem?_append_left (by simpa using hk),List.getElem?_set_self hk];refine⟨o, ?_,λc' e' hc=>hc⟩;simp only[L'];rw[getElem?_append_left (by simpa using hk),List.getElem?_set_ne (Ne.symm hki)];exact ho
 have dD:∀b,Own aO (λi=>L'[i]?) b->Own ρ (λi=>L[i]?) b:=by
  rintro b ⟨k,o,ho,ha,hb⟩;rcases old ho with⟨h1,h2⟩|⟨h1,h2,h3⟩|⟨h1,h2,h3⟩;simp only[aO,h1,if_true]at hb;rw[ko]at hb;cases hb;simp only[aO,h2,if_false]at hb;exact⟨id,_,dU,rfl,h1▸hb⟩;simp only[aO,h1,if_false]at hb;exact⟨k,o,h3,ha,hb⟩
 have st:Step ρ (λi=>L[i]?) (aV ρ (λi=>L[i]?) X.G) w aO (λi=>L'[i]?) (aV aO (λi=>L'[i]?) X.G) w:=by
  refine⟨λk o ho=> ?_,λk o ho=> ?_,λb hb=>.inl ?_,λ_ _ _=>rfl,le_refl _⟩;have hk:k<L.length:=(List.getElem?_eq_some_iff.1 ho).1;simp only[aO];rw[if_neg (by omega)];have⟨o',h4,h5⟩:=new ho;exact⟨o',h4,λc' e' hc=>⟨c',e',h5 c' e' hc,rfl,rfl⟩⟩;rcases hb with hb|hb;exact .inl (dD b hb);exact .inr hb
 have mv:aH aO (λi=>L'[i]?) (aV aO (λi=>L'[i]?) X.G) w (.vec L.length) (.slice r 0 0):=by
  unfold aH;refine⟨rfl,.vec c e, ?_,λc' e' _=>(if_pos rfl).symm⟩;simp only[L'];rw[List.getElem?_append_right (by simp)];simp
 refine⟨aO,⟨⟨λk o ho=> ?_,λi l oi ol b hi hl ai al bi bl=> ?_,λb hb=>hs.apart b (dD b hb),hs.low⟩,h.size,λu=>ae.step st _ _ (h.den u),h.defers,h.cu.trans st,h.iH,h.kept⟩⟩;rcases old ho with⟨g1,g2⟩|⟨g1,g2,g3⟩|⟨g1,g2,g3⟩;subst g2;simp only[aO,g1,if_true];exact⟨r,0,by rw[hc],by omega,zero_le _,.inl rfl⟩;subst g3;simp only[aO,g2,if_false];rw[g1,h0];exact⟨b,cells,fr,rfl,h1,h2,mQ aO _ _ _ (λa cs hd=>aN.step st a cs hd) (by unfold aN;exact⟨_,rfl,mv⟩)⟩;simp only[aO,g1,if_false];exact(hs.obj k o g3).step st (λ_ _ _=>rfl)
 have low:∀{k:Nat} {o:au},L'[k]? =some o->o.alive=true->eD (aO k)=some b->∃o2,L[k]? =some o2/\o2.alive=true/\eD (ρ k)=some b:=by
  intro k o ho ha hb;rcases old ho with⟨g1,g2⟩|⟨g1,g2,g3⟩|⟨g1,g2,g3⟩;simp only[aO,g1,if_true]at hb;rw[ko]at hb;cases hb;simp only[aO,g2,if_false]at hb;exact⟨_,g1▸dU,rfl,hb⟩;simp only[aO,g1,if_false]at hb;exact⟨o,g3,ha,hb⟩
 have⟨o1,q1,q2,q3⟩:=low hi ai bi;have⟨o2,q4,q5,q6⟩:=low hl al bl;exact hs.inj i l o1 o2 b q1 q4 q2 q5 q3 q6;exact⟨ρ,h⟩;exact⟨ρ,h⟩;exact⟨ρ,h⟩
theorem yU{c:aS}(hc:c.n=0)(r:Option Addr):aX O w (.ro c) (.slice r 0 0):=by
 have:=aX.ro (O:=O) (w:=w) c r 0 (λ_ _=>undef) 0 0 (by omega) (zero_le _) (λh=>by omega) (λi j hi hj=>by omega) (λi j hi hj=>by omega);rwa[hc]at this
theorem b8.uV{id j:Nat}{c:aS}{tmps:List AV}{L:List au}(h:b8 X ρ ⟨tmps,L⟩ a w):b8 X ρ ⟨tmps,uV id j c L⟩ a w:=by
 unfold Sx.uV;split;rename_i segs e0 dU;split;rename_i hj;rw[Bool.cond_eq_ite];split;rename_i hc;have hc:c.n=0:=Nat.eq_of_beq_eq_true hc;have hs:Sat ρ (λi=>L[i]?) X.G w:=h.sat;have⟨b,cells,fr,h0,h1,h2,h3⟩:=hs.obj id _ dU;have⟨r,mQ⟩:=uW segs j hj h3;have a8:id<L.length:=(List.getElem?_eq_some_iff.1 dU).1;let L':=L.set id (.ad (segs.set j (.s (.ro c))) e0)
 have old:∀{k:Nat} {o:au},L'[k]? =some o->(k=id/\o=.ad (segs.set j (.s (.ro c))) e0)\/(k≠id/\L[k]? =some o):=by
  intro k o ho;simp only[L']at ho;rw[List.getElem?_set]at ho;split at ho;rename_i hki;exact .inl ⟨hki.symm,by simpa using ho.symm⟩;rename_i hki;exact .inr ⟨Ne.symm hki,ho⟩
 have dD:∀b,Own ρ (λi=>L'[i]?) b->Own ρ (λi=>L[i]?) b:=by
  rintro b ⟨k,o,ho,ha,hb⟩;rcases old ho with⟨h1,h2⟩|⟨h1,h2⟩;exact⟨id,_,dU,rfl,h1▸hb⟩;exact⟨k,o,h2,ha,hb⟩
 have st:Step ρ (λi=>L[i]?) (aV ρ (λi=>L[i]?) X.G) w ρ (λi=>L'[i]?) (aV ρ (λi=>L'[i]?) X.G) w:=by
  refine⟨λ_ _ _=>rfl,λk o ho=> ?_,λb hb=>.inl ?_,λ_ _ _=>rfl,le_refl _⟩;by_cases hk:k=id;subst hk;refine⟨.ad (segs.set j (.s (.ro c))) e0, ?_,λc' e' hc=> ?_⟩;show(L.set k _)[k]? =_;rw[List.getElem?_set_self a8];cases hc;refine⟨o, ?_,λc' e' hc=>⟨c',e',hc,rfl,rfl⟩⟩;show(L.set id _)[k]? =_;rw[List.getElem?_set_ne (Ne.symm hk)];exact ho;rcases hb with hb|hb;exact .inl (dD b hb);exact .inr hb
 refine⟨⟨λk o ho=> ?_,λi l oi ol b hi hl ai al bi bl=> ?_,λb hb=>hs.apart b (dD b hb),hs.low⟩,h.size,λu=>ae.step st _ _ (h.den u),h.defers,h.cu.trans st,h.iH,h.kept⟩;rcases old ho with⟨g1,g2⟩|⟨g1,g2⟩;subst g2;rw[g1,h0];exact⟨b,cells,fr,rfl,h1,h2,mQ ρ _ _ _ (λa cs hd=>aN.step st a cs hd) (by unfold aN;exact⟨_,rfl,yU hc r⟩)⟩;exact(hs.obj k o g2).step st (λ_ _ _=>rfl)
 have low:∀{k:Nat} {o:au},L'[k]? =some o->o.alive=true->∃o2,L[k]? =some o2/\o2.alive=true:=by
  intro k o ho ha;rcases old ho with⟨g1,g2⟩|⟨g1,g2⟩;exact⟨_,g1▸dU,rfl⟩;exact⟨o,g2,ha⟩
 have⟨o1,q1,q2⟩:=low hi ai;have⟨o2,q4,q5⟩:=low hl al;exact hs.inj i l o1 o2 b q1 q4 q2 q5 bi bl;exact h;exact h;exact h
theorem aaV:∀(segs:List AV) (j:Nat) {cells:List Value} {a:AV},segs[j]? =some a→aA ρ H O w segs cells→
 ∃cs,aN ρ H O w a cs∧∀(aO:Nat→Value) (H':aJ) (O':Nat→Prop) (x:AV),(∀a cs,aN ρ H O w a cs→aN aO H' O' w a cs)→aN aO H' O' w x cs→aA aO H' O' w (segs.set j x) cells
 |[],j,cells,a,h,hd=>by simp at h
 |b::aI,0,cells,a,h,hd=>by
  simp only[List.getElem?_cons_zero,Option.some.injEq]at h;subst h;obtain⟨c1,c2,rfl,h1,h2⟩:=ah.1 hd;refine⟨c1,h1,fun aO H' O' x hs hx=> ?_⟩;simp only[List.set_cons_zero];refine ah.2 ⟨_,c2,rfl,hx, ?_⟩;clear hd
  induction aI generalizing c2 with
  |nil=>rw[aB.1 h2];exact aB.2 rfl
  |cons b bs ih=>
   obtain⟨d1,d2,rfl,h3,h4⟩:=ah.1 h2;exact ah.2 ⟨d1,d2,rfl,hs _ _ h3,ih d2 h4⟩
 |b::aI,j+1,cells,a,h,hd=>by
  obtain⟨c1,c2,rfl,h1,h2⟩:=ah.1 hd;obtain⟨cs,h3,h4⟩:=aaV aI j (by simpa using h) h2;refine⟨cs,h3,fun aO H' O' x hs hx=> ?_⟩;simp only[List.set_cons_succ];exact ah.2 ⟨c1,c2,rfl,hs _ _ h1,h4 aO H' O' x hs hx⟩
theorem afL(hs:Sat ρ H G w){id:Nat}{c:aS}{e:TypeId}(ho:H id=some (.vec c e)):aX (aV ρ (aK H id .aW) G) w (.ro c) (ρ id):=by
 have eW:=hs.obj id _ ho;have⟨a,cap,hr,h2,h3,h4⟩:=eW;have ail:∀b,aV ρ (aK H id .aW) G b->aV ρ H G b:=λb hb=>hb.imp g9 (λx=>x);rw[hr];by_cases hc:cap=0;have h0:c.n=0:=by omega
 have:=aX.ro (O:=aV ρ (aK H id .aW) G) (w:=w) c a cap (λ_ _=>undef) 0 0 h2 h3 (λh=>by omega) (λi j hi hj=>by omega) (λi j hi hj=>by omega);exact this;obtain⟨b,o,cells,fr,us,rfl,g1,g2,g3,g4⟩:=h4.resolve_left hc;have ko:eD (ρ id)=some b:=by rw[hr];simp only[eD];rw[if_neg hc]
 refine aX.ro c _ cap us b o h2 h3 (λ_=>⟨rfl,λhb=> ?_,(Array.getElem?_eq_some_iff.1 g1).1⟩) (λi j hi hj=> ?_) (λi j hi hj=> ?_);rcases hb with⟨j,x,hx,ha,hb⟩|hb;by_cases hj:j=id;subst hj;simp only[aK,if_true,Option.some.injEq]at hx;subst hx;cases ha;simp only[aK,hj,if_false]at hx;exact hj (hs.inj j id x _ b hx ho ha rfl hb ko);exact hs.apart b ⟨id,_,ho,rfl,ko⟩ hb;rw[cX g1];exact(g4 i j hi hj).1;exact(g4 i j hi hj).2.less ail
theorem ad7{L:List au}{v:Nat}{o x:au}(h:L[v]? =some o):(λi=>(L.set v x)[i]?)=aK (λi=>L[i]?) v x:=by
 funext i;simp only[aK,List.getElem?_set];by_cases hi:v=i;subst hi;rw[if_pos rfl,if_pos rfl,if_pos (List.getElem?_eq_some_iff.1 h).1];rw[if_neg hi,if_neg (Ne.symm hi)]
theorem b8.p7{id j:Nat}{tmps:List AV}{L:List au}(h:b8 X ρ ⟨tmps,L⟩ a w):b8 X ρ ⟨tmps,p7 id j L⟩ a w:=by
 unfold Sx.p7;split;rename_i segs e0 dU;split;rename_i v hj;split;rename_i c e hv;have cG:v≠id:=λe1=>by rw[e1,dU]at hv;cases hv
 have hs:Sat ρ (λi=>L[i]?) X.G w:=h.sat;have⟨b,cells,fr,h0,h1,h2,h3⟩:=hs.obj id _ dU;have⟨cs,hc,mQ⟩:=aaV segs j hj h3
 have oY:cs=[ρ v]:=by
  unfold aN at hc;obtain⟨u,rfl,hd⟩:=hc;unfold aH at hd;have⟨_,o,ho,hu⟩:=hd;rw[show o=.vec c e from by simpa[hv]using ho.symm]at hu;rw[hu _ _ rfl]
 have atV:(L.set v .aW)[id]? =some (.ad segs e0):=by rw[List.getElem?_set_ne cG];exact dU
 have hro:=afL hs hv;have s1:=hs.kill hv;have st1:=jJ (ρ:=ρ) (G:=X.G) (w:=w) (H:=λi=>L[i]?) hv;show b8 X ρ ⟨tmps,(L.set v .aW).set id (.ad (segs.set j (.s (.ro c))) e0)⟩ a w
 have e1:(St.look ⟨tmps,(L.set v .aW).set id (.ad (segs.set j (.s (.ro c))) e0)⟩)=aK (aK (λi=>L[i]?) v .aW) id (.ad (segs.set j (.s (.ro c))) e0):=by
  show(λi=>((L.set v .aW).set id _)[i]?)=_;rw[ad7 atV,ad7 hv]
 generalize hH1:aK (λi=>L[i]?) v .aW=H1 at *;have anu:H1 id=some (.ad segs e0):=by rw[<-hH1];simp only[aK];rw[if_neg (Ne.symm cG)];exact dU
 have dD:∀b,Own ρ (aK H1 id (.ad (segs.set j (.s (.ro c))) e0)) b->Own ρ H1 b:=by
  rintro b ⟨k,o,ho,ha,hb⟩;simp only[aK]at ho;split at ho;rename_i hk;exact⟨id,_,anu,rfl,hk▸hb⟩;exact⟨k,o,ho,ha,hb⟩
 have st2:Step ρ H1 (aV ρ H1 X.G) w ρ (aK H1 id (.ad (segs.set j (.s (.ro c))) e0)) (aV ρ (aK H1 id (.ad (segs.set j (.s (.ro c))) e0)) X.G) w:=by
  refine⟨λ_ _ _=>rfl,λk o ho=> ?_,λb hb=>.inl (hb.imp (dD b) (λx=>x)),λ_ _ _=>rfl,le_refl _⟩;by_cases hk:k=id;exact⟨.ad (segs.set j (.s (.ro c))) e0,by simp[aK,hk],λc' e' hc=>by cases hc⟩;exact⟨o,by simp only[aK];rw[if_neg hk];exact ho,λc' e' hc=>⟨c',e',hc,rfl,rfl⟩⟩
 have st:=st1.trans st2;refine⟨?_,h.size,λu=> ?_,h.defers, ?_,h.iH,h.kept⟩;rw[e1];refine⟨λk o ho=> ?_,λi l oi ol b hi hl ai al bi bl=> ?_,λb hb=>s1.apart b (dD b hb),hs.low⟩
 replace ho:aK H1 id (.ad (segs.set j (.s (.ro c))) e0) k=some o:=ho
 unfold aK at ho;split at ho;rename_i hk;cases ho;rw[hk,h0];refine⟨b,cells,fr,rfl,h1,h2,mQ ρ _ _ _ (λa cs hd=>aN.step st a cs hd) ?_⟩;rw[oY];unfold aN;exact⟨_,rfl,hro.less (λb hb=>hb.imp (dD b) (λx=>x))⟩;exact(s1.obj k o ho).step st2 (λ_ _ _=>rfl)
 have low:∀{k:Nat} {o:au},aK H1 id (.ad (segs.set j (.s (.ro c))) e0) k=some o->o.alive=true->∃o2,H1 k=some o2/\o2.alive=true:=by
  intro k o ho ha;simp only[aK]at ho;split at ho;rename_i hk;exact⟨_,hk▸anu,rfl⟩;exact⟨o,ho,ha⟩
 have⟨o1,q1,q2⟩:=low hi ai;have⟨o2,q4,q5⟩:=low hl al;exact s1.inj i l o1 o2 b q1 q4 q2 q5 bi bl;rw[e1];exact ae.step st _ _ (h.den u);rw[e1];exact h.cu.trans st;exact h;exact h;exact h
theorem b8.gn:∀(ns:List (Nat×Nat×Bool×aS×TypeId)) {ρ:Nat->Value} {tmps:List AV} {L:List au},b8 X ρ ⟨tmps,L⟩ a w->∃aO,b8 X aO ⟨tmps,gn ns L⟩ a w
 |[],ρ,tmps,L,h=>⟨ρ,h⟩|(id,j,ro,c,e)::ns,ρ,tmps,L,h=>by
  cases ro;have⟨aO,h'⟩:=h.pZ (c:=c) (e:=e) (id:=id) (j:=j);exact b8.gn ns h';exact b8.gn ns ((h.uV (c:=c) (id:=id) (j:=j)).p7 (id:=id) (j:=j))
theorem b8.gm:∀(ns:List (Nat×aS×TypeId)) {ρ:Nat->Value} {tmps:List AV} {L:List au},b8 X ρ ⟨tmps,L⟩ a w->∃aO,b8 X aO ⟨(gm ns tmps L).1,(gm ns tmps L).2⟩ a w
 |[],ρ,tmps,L,h=>⟨ρ,h⟩|(t,c,e)::ns,ρ,tmps,L,h=>by
  have⟨aO,h'⟩:=h.nH (c:=c) (e:=e) (t:=t);exact b8.gm ns h'
theorem afM{m:Nat}{σ:List Nat}(h:aoP m σ=true):∀i,i<m->σ[i]? =some i:=by
 intro i hi;simp only[aoP,all_eq_true,mem_range]at h;have:=h i hi;split at this;rename_i j hj;rw[hj,Nat.eq_of_beq_eq_true this];cases this
theorem b8.fY{m:Nat}{tmps t1:List AV}{L L1:List au}(h0:∀id,m<=id->X.H id=none)(h:fY m tmps L=some (t1,L1))(hr:b8 X ρ ⟨tmps,L⟩ a w):∃aO,b8 X aO ⟨t1,L1⟩ a w:=by
 unfold Sx.fY at h;simp only[Bool.cond_eq_ite]at h;split at h;rename_i hb;simp only[and_eq_true]at hb;split at h;rename_i L' sq hL ht;simp only[Option.some.injEq,Prod.mk.injEq]at h;obtain⟨rfl,rfl⟩:=h;exact⟨_,hr.view (iZ hb.1) hL (afM hb.2) h0 ht⟩;cases h;cases h
theorem Norm.safe{N:Norm}{f:FuncId}{c c':aR}(h0:∀id,N.m<=id->X.H id=none)(h:N.run c=some c')(hs:Safe P f X K c'):Safe P f X K c:=by
 intro G E ρ a w fV gh hr b a' fs hw;unfold Norm.run at h;split at h;rename_i t1 L1 h1;simp only[]at h;split at h;rename_i t2 L2 h2;simp only[Option.some.injEq]at h;subst h;have⟨gB,r1⟩:=b8.fY (X:=X.at G E) h0 h1 (b8.dX N.eT hr);have⟨eB,r2⟩:=b8.gm N.oJ r1;have⟨ρ3,r3⟩:=b8.gn N.cells r2;have⟨ρ4,r4⟩:=b8.fY (X:=X.at G E) h0 h2 r3;exact hs G E _ a w fV gh r4 b a' fs hw;cases h;cases h
end
end Go.Sx
