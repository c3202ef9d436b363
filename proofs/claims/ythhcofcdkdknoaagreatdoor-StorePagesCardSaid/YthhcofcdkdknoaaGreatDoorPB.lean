/- Lemmas: SxArr, SxZeros, SxOverlaps, SxEq, SxOp, SxCfg, SxRun, SxSeq, SxDrawn, SxFrames, SxFrames2, SxFrames3, SxResult, SxFrames4, SxSplit, SxThaw, SxExecOk, SxView. -/
import Derived.Laws.IdiomStrings
import Derived.Lib.Overlaps
import Derived.Orders
import Derived.RangeFuncIn
import Derived.RangeFuncRecord
import Derived.RangeFuncNested
import Derived.Test.YthhcofcdkdknoaaGreatDoorPA
open Array (getD_eq_getD_getElem? length_toList toList_inj)
open Bool (and_eq_true cond_eq_ite not_eq_true')
open Int (toNat_natCast)
open List (all_cons all_eq_true append_assoc append_nil cons_append getElem?_append_left getElem?_append_right getElem?_eq_getElem getElem?_eq_none getElem?_eq_some_iff getElem?_map getElem?_set getElem?_take length_append length_cons length_drop length_map length_nil length_take map_append map_cons map_nil mem_append mem_append_right mem_cons mem_cons_of_mem mem_map mem_range nil_append nodup_append pairwise_cons range' replicate)
open Nat (add_mul add_zero beq_eq le_of_ble_eq_true le_refl le_trans lt_or_ge zero_add zero_le)
open Option (bind_eq_some_iff getD_some isSome_iff_exists map_eq_some_iff map_some)
open Result (andThen_ok)
namespace Go.Sx
open Go
section
variable{ρ aQ:Nat->Value}{H H':aV}{G O O':Nat->Prop}{w w':World}{P:Program}
theorem Good.block(hs:Sat ρ H G w){w1:World}(hw:w1.heap=w.heap)(ht:w1.tape=w.tape)(hos:w1.os=w.os)(pH:w1.output=w.output){obj:Obj}{r:AV}{v:Value}
 (hr:ak ρ H (bd ρ H G) (w1.alloc obj) r v):Good ρ H G w H r v (w1.alloc obj):=by
 have cq:(w1.alloc obj).heap.size=w.heap.size+1:=by rw[ga,hw]
 have hold:∀i,i<w.heap.size->(w1.alloc obj).heap[i]? =w.heap[i]? :=λi hi=>by rw[alloc_old (by rw[hw];exact hi),hw]
 have st:Step ρ H (bd ρ H G) w ρ H (bd ρ H G) (w1.alloc obj):=
  ⟨λ_ _ _=>rfl,λ_ o ho=>⟨o,ho,λc' e' e=>⟨c',e',e,rfl,rfl⟩⟩,λb hb=>.inl hb,λb hb _=>hold b hb,by omega⟩
 exact⟨ρ,⟨λj x hx=>(hs.obj j x hx).step st (λb ha hb=>hold b (iy hs ⟨j,x,hx,ha,hb⟩)),hs.inj,hs.apart,λb hb=>by have:=hs.low b hb;omega⟩,hr,st,hos,ht,pH,λb hb _=>hold b hb⟩
theorem aiX{e:TypeId}{k:IntKind}(hk:kindOf P e=some k):P.underlying e=some (.int k):=by
 unfold kindOf at hk;split at hk<;>first|(cases hk;assumption)|cases hk
theorem jH(s:ByteArray):(bP s).length=s.size:=by simp[bP]
theorem ack{src dst:TypeId}{x:AV}{vx:Value}{q:b8}(h:(vM P src dst x).eval H=some q)(hn:bT q.ab)(hs:Sat ρ H G w)(hd:ak ρ H (bd ρ H G) w x vx)(base:Nat):
 ∃v w',(convert src dst vx).run P w=.ok v w'/\Good ρ H G w (di H q.up base q.new) (q.r base) v w':=by
 unfold vM at h;split at h;rename_i e s pI lG;obtain rfl:=fP hd;split at h;rename_i hk;have he:=aiX hk;simp only[plain,RM.eval,Option.some.injEq]at h;subst h;have hsm:s.size<=4294967296:=hn.1;refine⟨_,_,run_bytes_of_string w src dst e s pI lG he, ?_⟩;rw[mh];refine Good.block (w1:=w.drew) hs rfl rfl rfl rfl (aJ ?_);have hc:(a8.aw .u8 (bP s)).n=s.size:=jH s;have ad:=bg.ro (O:=bd ρ H G) (w:=w.drew.alloc (.cells (bytesRow s (grownCap w s.size 0 e)) e ((bytesRow s (grownCap w s.size 0 e)).size,(bytesRow s (grownCap w s.size 0 e)).size+1)))
  (a8.aw .u8 (bP s)) (some ⟨w.heap.size,0,none⟩) (grownCap w s.size 0 e) (λi _=>.int .u8 ((bP s).getD i 0)) w.heap.size 0 (by rw[hc];exact grownCap_ge w _ _ _)
  (grownCap_le_maxLen w _ _ _ (by simp only[maxLen];omega)) (λ_=>⟨rfl,λhh=>Nat.lt_irrefl _ (aaD hs hh),by rw[ga];exact Nat.lt_succ_self _⟩) (λi j hi hj=> ?_) (λi j hi hj=>by simp only[a8.cell];exact .int _ _)
 rw[hc]at ad;exact ad;simp only[a8.size]at hj;obtain rfl:j=0:=by omega
 rw[hc]at hi;have hb:(w.drew.alloc (.cells (bytesRow s (grownCap w s.size 0 e)) e ((bytesRow s (grownCap w s.size 0 e)).size,(bytesRow s (grownCap w s.size 0 e)).size+1))).heap[w.heap.size]? =
  some (.cells (bytesRow s (grownCap w s.size 0 e)).toList.toArray e ((bytesRow s (grownCap w s.size 0 e)).size,(bytesRow s (grownCap w s.size 0 e)).size+1)):=kH (w:=w.drew)
 rw[dJ hb];have fG:i<s.data.size:=hi;have hi2:i<s.data.toList.length:=by simpa using fG
 simp only[bytesRow,bP,a8.size,Nat.mul_one,add_zero,zero_add,Array.toList_append,Array.toList_map];rw[getElem?_append_left (by rw[length_map];exact hi2),getElem?_map,getElem?_eq_getElem hi2];simp[List.getD];rw[Array.getElem?_eq_getElem fG];rfl;cases h;cases h
theorem acm{t:TypeId}{x:AV}{vx:Value}{q:b8}(h:(vN P t x).eval H=some q)(hn:bT q.ab)(hd:ak ρ H O w x vx):fI P ρ H O w q (Instr.arrayAt t vx):=by
 unfold vN at h;split at h;rename_i n e k zs ht;rw[cond_eq_ite]at h;split at h;rename_i h1;have h1:=le_of_ble_eq_true h1;have hx:=aC (by simp) hd;cases hx with
 |ro _ a cap us b o g1 g2 g3 g4 g5=>
  refine aP h (λcX=> ?_) hn;have hnz:n<=zs.length:=cX.1;obtain⟨rfl,h8,h9⟩:=g3 (by simp only[a8.n];omega);refine⟨.pointer (some ⟨b,o,none⟩), ?_, ?_⟩;have:¬zs.length<n:=by omega
  simp[Instr.arrayAt,run_underlying ht,a8.n,this];unfold ak aO;refine⟨b,o,λj=>us j 0,rfl,h8,h9,λl hl=> ?_⟩;have hl':l<n:=hl;have e1:=g4 l 0 (by simp only[a8.n];omega) Nat.one_pos;have e2:=g5 l 0 (by simp only[a8.n];omega) Nat.one_pos;simp only[a8.size,Nat.mul_one,add_zero]at e1;refine⟨e1, ?_⟩
  have e3:(a8.az [.arr k n] [(zs.take n,())]).cell 0 l=.int k (zs.getD l 0):=by
   show(bif l.blt n then SV.int k (List.getD (zs.take n) l 0)else .bk)=_;rw[nt hl'];simp[List.getD,getElem?_take,hl']
  rw[e3];exact e2
 cases h;cases h
theorem wj{x:AV}{k:IntKind->List Int->Prop->RM b8}{v:Value}{q:b8}(h:(uZ x k).eval H=some q)(hs:Sat ρ H G w)(hd:ak ρ H (bd ρ H G) w x v):
 ∃kk zs p,(k kk zs p).eval H=some q/\(p->(Builtin.lenOf v).run P w=.ok zs.length w/\∀m,m<=zs.length->(Builtin.firstCells 1 m v).run P w=.ok ((zs.take m).map (Value.int kk)).toArray w):=by
 unfold uZ at h;split at h;rename_i s;obtain rfl:=fP hd;refine⟨_,_,_,h,λ_=>⟨by simp[Builtin.lenOf],λm hm=> ?_⟩⟩;simp only[Builtin.firstCells,Sem.run_pure];congr 1;apply toList_inj.1;rw[Array.toList_map];simp[ByteArray.data_extract];rfl;rename_i id off n;simp only[RM.eval]at h;split at h;rename_i kk m ws e ho;unfold ak aO at hd;obtain⟨_,b,a,cap,hb,rfl,ha,_⟩:=hd;refine⟨_,_,_,h,λhp=> ?_⟩;have⟨hl,hc⟩:=zh hs ho hb hp;refine⟨by rw[hl];simp[Builtin.lenOf],λl hm=> ?_⟩;rw[hl]at hm;rcases Nat.eq_zero_or_pos n with h0|h0;have:l=0:=by omega
 subst this;cases a with
 |none=>simp[Builtin.firstCells]
 |some a=>simp[Builtin.firstCells];rfl
 rw[ha (by omega)];simp only[Builtin.firstCells,Nat.mul_one]
 have e1:(((ws.drop off).take n).take l).map (Value.int kk)=(List.range l).map λi=>Value.int kk (((ws.drop off).take n).getD i 0):=by
  apply List.ext_getElem?;intro i;simp only[getElem?_map,List.getElem?_range'];by_cases hi:i<l;have:i<((ws.drop off).take n).length:=by omega
  rw[getElem?_take,if_pos hi,getElem?_eq_getElem this,getElem?_eq_getElem (by simpa using hi)];simp[List.getD,getElem?_eq_getElem this];rw[getElem?_take,if_neg hi,getElem?_eq_none (by simp;omega)];rfl
 rw[e1];refine run_loadCells w _ _ (λi=>Value.int kk (((ws.drop off).take n).getD i 0)) (λj hj=> ?_);rw[bp];exact hc j (by omega);cases h;cases h
theorem wk{k:IntKind}{m:Nat}(x:CL [.arr k m])(j:Nat):CL.cell [.arr k m] x j=bif j.blt m then .int k ((j9 x).getD j 0)else .bk:=rfl
theorem wm{cs:List CK}(xs:List (CL cs))(i j:Nat):(a8.az cs xs).cell i j=CL.cell cs (xs.getD i (CL.d cs)) j:=rfl
theorem uo{k:IntKind}{m:Nat}(ws:List Int):j9 (zb ws:CL [.arr k m])=ws:=rfl
theorem mZ{α:Type}{xs:List α}{i:Nat}{x d:α}(h:i<xs.length):(xs.set i x).getD i d=x:=by simp[List.getD,h]
theorem wo{α:Type}{xs:List α}{i i':Nat}{x d:α}(h:i'≠i):(xs.set i x).getD i' d=xs.getD i' d:=by simp[List.getD,List.getElem?_set_ne (Ne.symm h)]
theorem akC{α:Type}{l:List α}{i:Nat}{d:α}(h:i<l.length):l.getD i d=l[i]:=by simp[List.getD,h]
theorem aiY(hs:Sat ρ H G w){id i j b f n cap:Nat}{c c':a8}{e:TypeId}(ho:H id=some (.aq c e))(eW:ρ id=.slice (some ⟨b,f,none⟩) n cap)(hi:i<c.n){vs:List Value}(hj:j+vs.length<=c.size)(hp:0<c.size)
 (k1:c'.n=c.n) (k2:c'.size=c.size) (sZ:∀v∈vs,v.oneCell'=true) (k4:∀l u,vs[l]? =some u->bg (bd ρ H G) w (c'.cell i (j+l)) u)
 (k5:∀i' j',i'<c.n->j'<c.size->¬(i'=i/\j<=j'/\j'<j+vs.length)->c'.cell i' j'=c.cell i' j') (z:Int):
 ∃w',(storeCells ⟨b,f+i*c.size+j,none⟩ vs 0).run P w=.ok () w'/\Good ρ H G w (aF H id (.aq c' e)) (.s (.int .i64 z)) (.int .i64 z) w':=by
 have⟨a,aiw,h5,h6,h7,h8⟩:=hs.obj id _ ho;rw[eW]at h5;cases h5;rcases h8 with rfl|⟨b',o',cells,fr,us,e1,g1,g2,g3,g4⟩;omega;cases e1
 have mR:fp (ρ id)=some b:=by
  rw[eW];simp only[fp];rw[if_neg (by omega)]
 have hmul:i*c.size+c.size<=cap*c.size:=by
  rw[<-Nat.succ_mul];exact Nat.mul_le_mul_right _ (by omega)
 have bK:f+i*c.size+j+vs.length<=cells.length:=by omega
 have st:=kV (G:=G) (w:=w) (o':=.aq c' e) ho rfl mR (λc1 e1 hc1=>by cases hc1;exact⟨c,e,rfl,k1,k2⟩)
  (.cells (cells.take (f+i*c.size+j)++vs++cells.drop (f+i*c.size+j+vs.length)).toArray e fr)
 refine⟨_,cu (f+i*c.size+j) _ 0 g1 g2.unm (by omega) sZ, ?_⟩;simp only[add_zero];refine Good.write hs ho rfl rfl mR (λc1 e1 hc1=>by cases hc1;exact⟨c,e,rfl,k1,k2⟩) ?_ (aJ (.int _ _));refine⟨some ⟨b,f,none⟩,cap,by rw[eW,k1],by omega,h7,.inr ⟨b,f,_,fr,λi' j'=>if i'=i/\j<=j'/\j'<j+vs.length then(vs.getD (j' - j) undef)else us i' j',rfl,fi g1,g2.over sZ bK, ?_, ?_⟩⟩;simp only[length_append,length_take,length_drop];rw[k2];omega;intro i' j' fG kq;rw[k1]at fG;rw[k2]at kq;rw[k2,aaL _ _ _ bK];dsimp only;by_cases dv:i'=i/\j<=j'/\j'<j+vs.length;obtain⟨rfl,h9,uP⟩:=dv;rw[if_pos ⟨by omega,by omega⟩,if_pos ⟨rfl,h9,uP⟩];have hx1:j' - j<vs.length:=by omega
 refine⟨by rw[show f+i'*c.size+j' - (f+i'*c.size+j)=j' - j from by omega];exact iB _ _ _ hx1, ?_⟩;have:=k4 (j' - j) _ (iB _ _ undef hx1);rw[show j+(j' - j)=j' from by omega]at this;exact this.step st.gy st.heap st.size;rw[if_neg dv]
 have pH:¬(f+i*c.size+j<=f+i'*c.size+j'/\f+i'*c.size+j'<f+i*c.size+j+vs.length):=by
  rintro⟨h9,uP⟩;have hd:f+i*c.size+(f+i'*c.size+j' - (f+i*c.size))=f+i'*c.size+j':=by omega
  have⟨h11,h12⟩:=akt (f:=f) (i:=i) (i':=i') (j:=f+i'*c.size+j' - (f+i*c.size)) (by omega) kq hd;subst h11;exact dv ⟨rfl,by omega,by omega⟩
 rw[if_neg pH,k5 i' j' fG kq dv];have⟨h9,uP⟩:=g4 i' j' fG kq;exact⟨h9,uP.step st.gy st.heap st.size⟩
theorem acn{α β:Type}(f:α->β)(xs ys:List α)(lo k:Nat):(over xs lo k ys).map f=(xs.map f).take lo++(ys.take k).map f++(xs.map f).drop (lo+k):=by
 simp[over,List.map_take,List.map_drop]
theorem aiZ{t t' ty:TypeId}{x y:AV}{vx vy:Value}{q:b8}(h:(aeV P t x y).eval H=some q)(hn:bT q.ab)(hs:Sat ρ H G w)
 (hx:ak ρ H (bd ρ H G) w x vx) (hy:ak ρ H (bd ρ H G) w y vy):
 ∃v w',(Builtin.copy_ #[t,t'] ty #[vx,vy]).run P w=.ok v w'∧∀base,Good ρ H G w (di H q.up base q.new) (q.r base) v w':=by
 unfold aeV at h;split at h;rename_i e ht;split at h;rename_i sz cq;rw[cond_eq_ite]at h;split at h;rename_i h1;obtain rfl:sz=1:=by simpa using h1
 split at h;rename_i id off n;obtain⟨kk,zs,p,h2,pI⟩:=wj (P:=P) h hs hy;simp only[RM.eval]at h2;split at h2;rename_i k m ws e' ho;rw[cond_eq_ite]at h2;split at h2;rename_i hk;obtain rfl:=bC hk;simp only[RM.eval,Option.some.injEq]at h2;subst h2;obtain⟨hp,hnm,_⟩:=hn;obtain⟨bK,kW⟩:=pI hp;unfold ak aO at hx;obtain⟨_,b,a,cap,hb,rfl,ha,_⟩:=hx;obtain⟨cells,fr,g1,g2,g3⟩:=o9 hs ho hb;obtain⟨c1,c2,rfl,e3,e4⟩:=ao.1 g3;obtain⟨e5,rfl⟩:=dt.1 e3;obtain rfl:=aH.1 e4;rw[append_nil]at g1 g2 g3;have kb:=kW (min zs.length n) (Nat.min_le_left _ _);have zo:((zs.take (min zs.length n)).map (Value.int kk)).length=min zs.length n:=by rw[length_map,length_take];omega
 have sZ:∀v∈(zs.take (min zs.length n)).map (Value.int kk),v.oneCell'=true:=fun v hv=>by obtain⟨y,_,rfl⟩:=mem_map.1 hv;rfl
 have mY:=cu (P:=P) off ((zs.take (min zs.length n)).map (Value.int kk)) 0 g1 g2 (by rw[zo,length_map];omega) sZ
 have auY:((ws.map (Value.int kk)).take (off+0)++(zs.take (min zs.length n)).map (Value.int kk)++(ws.map (Value.int kk)).drop (off+0+((zs.take (min zs.length n)).map (Value.int kk)).length))=(over ws off (min zs.length n) zs).map (Value.int kk):=by
  rw[acn,zo,add_zero]
 rw[auY]at mY;have hwl:(over ws off (min zs.length n) zs).length=m:=by rw[gf _ _ (by omega) (Nat.min_le_left _ _)];exact e5
 have aco:∀base,Good ρ H G w (di H [(id,.ay [.aw kk m (over ws off (min zs.length n) zs)] e')] base []) (.s (.int .i64 ((min zs.length n:Nat):Int))) (.int .i64 ((min zs.length n:Nat):Int)) (World.cV w b (.cells ((over ws off (min zs.length n) zs).map (Value.int kk)).toArray e' fr)):=fun base=>by
  simp only[gl];have mR:fp (ρ id)=some b:=by rw[hb];rfl
  have hd':aE ρ H (bd ρ H G) w [.aw kk m (over ws off (min zs.length n) zs)] ((over ws off (min zs.length n) zs).map (Value.int kk)):=
   ao.2 ⟨_,[],(append_nil _).symm,dt.2 ⟨hwl,rfl⟩,aH.2 rfl⟩
  have st:=kV (G:=G) (w:=w) (o':=.ay [.aw kk m (over ws off (min zs.length n) zs)] e') ho rfl mR (by simp) (.cells ((over ws off (min zs.length n) zs).map (Value.int kk)).toArray e' fr);exact Good.write hs ho rfl rfl mR (by simp) ⟨b,_,fr,hb,fi g1,by rw[length_map,hwl,←e5,←length_map (Value.int kk)];exact g2,hd'.step st⟩ (aJ (.int _ _))
 rcases Nat.eq_zero_or_pos n with h0|h0;subst h0;have e6:(over ws off (min zs.length 0) zs).map (Value.int kk)=ws.map (Value.int kk):=by rw[acn];simp
 have e7:World.cV w b (.cells ((over ws off (min zs.length 0) zs).map (Value.int kk)).toArray e' fr)=w:=by rw[e6];exact uf g1
 refine⟨_,w,mm ht cq bK kb (fun x hx=> ?_) (fun _=>rfl),fun base=>by have:=aco base;rw[e7]at this;exact this⟩;simp[storeCells];rw[ha (by omega)];exact⟨_,_,mm ht cq bK kb (fun x hx=>by cases hx;exact mY) (fun hx=>by cases hx),aco⟩;cases h2;cases h2;rename_i id i j n;obtain⟨kk,zs,p,h2,pI⟩:=wj (P:=P) h hs hy;simp only[RM.eval]at h2;split at h2;rename_i k m xs e' ho;rw[cond_eq_ite]at h2;split at h2;rename_i hk;simp only[and_eq_true]at hk;obtain⟨hk,hm0⟩:=hk;have hm0:=le_of_ble_eq_true hm0;obtain rfl:=bC hk;simp only[RM.eval,Option.some.injEq]at h2;subst h2;obtain⟨hp,hxl,_⟩:=hn;obtain⟨bK,kW⟩:=pI hp;unfold ak aO at hx;obtain⟨_,o,dP,hv⟩:=hx;rw[ho]at dP;cases dP;obtain⟨hi,hj,b,f,n',cap,a,aiw,eW,rfl,ha⟩:=hv _ _ rfl;have hi:i<xs.length:=hi;have hj:j+n≤m:=hj;have kb:=kW (min zs.length n) (Nat.min_le_left _ _);have zo:((zs.take (min zs.length n)).map (Value.int kk)).length=min zs.length n:=by rw[length_map,length_take];omega
 have sZ:∀v∈(zs.take (min zs.length n)).map (Value.int kk),v.oneCell'=true:=fun v hv=>by obtain⟨y,_,rfl⟩:=mem_map.1 hv;rfl
 generalize aox:min zs.length n=cnt at *;obtain⟨w',s1,s2⟩:=aiY (P:=P) (c':=.az [.arr kk m] (xs.set i (zb (over (j9 (xs.getD i (CL.d [.arr kk m]))) j cnt zs)))) hs ho eW hi (vs:=(zs.take cnt).map (Value.int kk)) (by rw[zo];show j+cnt≤m;omega) hm0
  List.length_set rfl sZ (fun l u hu=>by
   obtain⟨bA,hu⟩:=getElem?_eq_some_iff.1 hu;rw[zo]at bA;rw[wm,mZ hi,wk,uo,nt (by omega),kI _ _ _ (by omega) (by omega),if_pos ⟨by omega,by omega⟩,←hu];simp only[List.getElem_map,List.getElem_take,cond_true];rw[show j+l - j=l from by omega,akC (by omega)];exact .int _ _)
  (fun i' j' fG kq te=>by
    have fG:i'<xs.length:=fG;have kq:j'<m:=kq;rw[zo]at te;rw[wm,wm];by_cases hii:i'=i;subst hii;rw[mZ hi,wk,wk,uo,kI _ _ _ (by omega) (by omega),if_neg (fun hc=>te ⟨rfl,hc⟩)];rw[wo hii]) ((cnt:Nat):Int)
 rcases Nat.eq_zero_or_pos n with h0|h0;have hc0:cnt=0:=by omega
 have e7:w'=w:=by
  subst hc0;simp[storeCells]at s1;exact s1.symm
 subst e7;refine⟨_,_,mm ht cq bK (by rw[aox];exact kb) (fun x hx=> ?_) (fun _=>rfl),fun base=>by simp only[gl,aox];exact s2⟩;subst hc0;simp[storeCells];rw[ha (by omega)];exact⟨_,_,mm ht cq bK (by rw[aox];exact kb) (fun x hx=>by cases hx;exact s1) (fun hx=>by cases hx),fun base=>by simp only[gl,aox];exact s2⟩;cases h2;cases h2;cases h;cases h;cases h;cases h
theorem akD{es ml:Array MapEntry}{c c':Nat}(h:ab2 es c=ab2 ml c'):es=ml/\c=c':=by
 simp only[ab2,Value.tuple.injEq,Array.mk.injEq,List.cons.injEq,Value.int.injEq,true_and,and_true]at h;have⟨h1,h2⟩:=h;refine⟨?_,by omega⟩
 have akE:∀a b:MapEntry,Value.tuple #[a.ad,a.val,.int .i64 (a.born:Int)]=Value.tuple #[b.ad,b.val,.int .i64 (b.born:Int)]->a=b:=λa b e=>by
  simp only[Value.tuple.injEq,Array.mk.injEq,List.cons.injEq,Value.int.injEq,true_and,and_true]at e;have⟨e1,e2,e3⟩:=e;cases a;cases b;simp only at e1 e2 e3;rw[e1,e2,Int.ofNat.inj e3]
 apply toList_inj.1;have h3:=congrArg Array.toList h2;simp only[Array.toList_map]at h3;exact List.map_inj_right (λa b=>akE a b) |>.1 h3
theorem find_born{es:List MapEntry}(hb:(es.map (·.born)).Nodup){e:MapEntry}(he:e∈es):es.find? (λx=>x.born==e.born)=some e:=by
 induction es with
 |nil=>simp at he
 |cons x es ih=>
  simp only[map_cons,List.nodup_cons]at hb;rw[List.find?_cons];rcases mem_cons.1 he with rfl|he;simp
  have:(x.born==e.born)=false:=by
   rw[beq_eq_false_iff_ne];exact λh=>hb.1 (mem_map.2 ⟨e,he,h.symm⟩)
  rw[this];exact ih hb.2 he
theorem acp(hs:Sat ρ H G w){id mid gid b:Nat}{ck ck':CK}{left:List (Int×ck.V)}{cur:Option (Int×ck.V)}{m:List (Int×ck'.V)}(ho:H id=some (.iter mid gid ck left cur))(hm:H mid=some (.jA ck' m gid))
 (hb:ρ id=.pointer (some ⟨b,0,none⟩)):∃mb es clock seen,w.heap[b]? =some (.mapIter (some mb) clock seen clock)/\w.heap[mb]? =some (.map es clock)/\vR ck left cur es clock seen/\jC ck' m es.toList clock/\
   ρ mid=.map (some mb)/\ρ gid=ab2 es clock/\(H gid).isSome=true:=by
 have⟨b',mb,es,clock,seen,h1,h2,h3,h4,h5,h6,h7⟩:=hs.obj id _ ho;rw[hb]at h1;cases h1;have⟨mb',ml,wg,g1,g2,g3,g4,_⟩:=hs.obj mid _ hm;rw[h6]at g1;cases g1;rw[h4]at g4;obtain⟨rfl,rfl⟩:=akD g4;exact⟨mb,es,clock,seen,h2,g2,h3,g3,h6,h4,h5⟩
theorem acq{ck:CK}(h:ck.plain=true)(v:ck.V):ck.av v≠.s .bk:=by
 cases ck<;>simp only[CK.plain,Bool.false_eq_true]at h<;>simp[CK.av]
theorem ai0{x:AV}{vx:Value}{q:b8}(h:(aeY x).eval H=some q)(hn:bT q.ab)(hs:Sat ρ H G w)(hd:ak ρ H (bd ρ H G) w x vx):
 fI P ρ H (bd ρ H G) w q (Instr.entry vx):=by
 unfold aeY at h;split at h;rename_i id;simp only[RM.eval]at h;split at h;rename_i mid gid ck left cur ho;simp only[RM.eval]at h;split at h;rename_i ck' m auS hm;rw[cond_eq_ite]at h;split at h;rename_i hc;simp only[and_eq_true,beq_eq]at hc;obtain⟨rfl,hp⟩:=hc;split at h;rename_i p;unfold ak aO at hd;obtain⟨b,hb,rfl,_⟩:=hd;have⟨mb,es,clock,seen,h1,h2,h3,_⟩:=acp hs ho hm hb;have⟨hf,e,he,k1,k2,k3⟩:=h3.cur p rfl;have e1:(getObj b).run P w=.ok (.mapIter (some mb) clock seen clock) w:=by simp[getObj,Sem.run,h1]
 have e2:(getObj mb).run P w=.ok (.map es clock) w:=by simp[getObj,Sem.run,h2]
 have e3:es.find? (λx=>x.born==e.born)=some e:=by rw[<-Array.find?_toList];exact find_born h3.vQ he
 refine aP h (λ_=>⟨.tuple #[.int .i64 p.1,ck.val p.2], ?_, ?_⟩) hn;simp[Instr.entry,e1,e2,k1,e3,k2,k3];unfold ak;refine⟨[.int .i64 p.1,ck.val p.2],rfl,aI.2 ⟨_,_,rfl,aJ (.int _ _),aI.2 ⟨_,_,rfl,aaQ hf ?_,bo.2 rfl⟩⟩⟩;exact acq hp _;cases h;cases h;cases h;cases h;cases h
end
section
variable{ρ aQ:Nat->Value}{H H':aV}{G O O':Nat->Prop}{w w':World}{P:Program}
theorem tj{t t' ty e:TypeId}{kn k:IntKind}{i:TypeInfo}{z:Value}{a:Option Addr}{n cap:Nat}{j:Nat}{olds:List Value}
 (ht:P.underlying t=some (.slice e)) (htn:P.underlying t'=some (.int kn)) (hi:P.info? e=some i) (hz:i.zero=some z)
 (hold:(Builtin.firstCells i.size n (.slice a n cap)).run P w.drew=.ok olds.toArray w.drew) (n7:¬n+j<=cap)
 (hsm:n+j<=4294967296) (hby:i.bytes<=256) (h1:1<=i.size) (h0:0<j):
 ∃n9,n+j<=n9/\n9<=maxLen/\(Builtin.append_ #[t,t'] ty #[.slice a n cap,.int k (j:Int)]).run P w=
  .ok (.slice (some ⟨w.heap.size,0,none⟩) (n+j) n9) (w.drew.alloc (.cells (olds++(Builtin.zeroCells z.cells j).toList++(Builtin.zeroCells z.cells (n9 - (n+j))).toList).toArray e)):=by
 refine⟨grownCap w (n+j) cap e,grownCap_ge w _ _ _,grownCap_le_maxLen w _ _ _ (by simp only[maxLen];omega), ?_⟩
 have acf:¬(281474976710656<Builtin.nextslicecap (n+j) cap*i.bytes):=by
  have h1:=nextslicecap_le (ab:=n+j) (old:=cap) (by omega);have h2:Builtin.nextslicecap (n+j) cap*i.bytes<=(2*(n+j)+192)*256:=Nat.mul_le_mul h1 hby;omega
 have afa:¬(9223372036854775807<(n:Int)+(j:Int)):=by omega
 have hw:IntKind.i64.wrap (j:Int)=(j:Int):=cM ⟨by omega,by omega⟩;have axH:¬((j:Int)<0):=by omega
 have axI:¬((281474976710656:Int)<(j:Int)*(i.bytes:Int)):=by
  have:j*i.bytes<=4294967296*256:=Nat.mul_le_mul (by omega) hby;have h3:((j*i.bytes:Nat):Int)<=((4294967296*256:Nat):Int):=Int.ofNat_le.2 this;rw[Int.natCast_mul]at h3;omega
 have aot:∀X Y:Array Value,olds.toArray++(X++Y)=(olds++(X.toList++Y.toList)).toArray:=λX Y=>by
  apply toList_inj.1;simp
 have hq:¬((Question.appendCap (n+j) cap e).forced=true):=by simp[Question.forced]
 have cX:¬(j*i.size=0):=by
  have:0<j*i.size:=Nat.mul_pos h0 (by omega);omega
 simp[Builtin.append_,run_underlying ht,run_underlying htn,sizeOf,typeInfo,hi,n7,afa,acf,hold,zeroValue,hz,newRow,hw,axH,axI,cX,asInt,asIntOf];rw[if_neg hq,aot];rfl
theorem acr{t t' ty:TypeId}{x y:AV}{vx vy:Value}{q:b8}(h:(vK P t t' x y).eval H=some q)(hn:bT q.ab)(hs:Sat ρ H G w)
 (hx:ak ρ H (bd ρ H G) w x vx) (hy:ak ρ H (bd ρ H G) w y vy) {base:Nat} (hb:∀i,i<q.new.length->H (base+i)=none):
 ∃v w',(Builtin.append_ #[t,t'] ty #[vx,vy]).run P w=.ok v w'/\Good ρ H G w (di H q.up base q.new) (q.r base) v w':=by
 unfold vK at h;split at h;rename_i e kt c k kd lit j ht ht' hy0;have hvy:=cG hy0 hy;split at h;rename_i i hi;rw[cond_eq_ite]at h;split at h;rename_i hc;simp only[and_eq_true]at hc;have⟨⟨⟨c1,c2⟩,c3⟩,c4⟩:=hc;have c1:=le_of_ble_eq_true c1;have c2:=le_of_ble_eq_true c2;have c3:c.size=i.size:=Nat.eq_of_beq_eq_true c3
 obtain⟨z,hz,hzf,hzs⟩:∃z,i.zero=some z/\gG (shapeOf P e) z.cells.toList=true/\z.cells.size=i.size:=by
  cases hz:i.zero with
  |none=>simp[hz]at c4
  |some z=>
   simp only[hz,Option.any_some,and_eq_true,beq_iff_eq]at c4;exact⟨z,rfl,c4.1,c4.2⟩
 simp only[RM.eval,Option.some.injEq]at h;subst h;have⟨hj0,n7,hsm,_⟩:=hn;have ka:H base=none:=by simpa using hb 0 (by simp)
 have zg:=aC (by simp) hx;cases zg with
 |rot _ _ a n cap hro hk=>
  obtain⟨jn,rfl⟩:∃jn:Nat,j=(jn:Int):=⟨j.toNat,by omega⟩;cases hro with
  |ro _ _ _ us b o q1 q2 q3 q4 q5=>
  have yy:qo (bd ρ H G) w c (.slice a c.n cap):=⟨a,cap,us,rfl,q1,q2,λh0=>⟨b,o,(q3 h0).1,(q3 h0).2.2,λi j hi hj=>⟨q4 i j hi hj,q5 i j hi hj⟩⟩⟩;have⟨olds,we⟩:=u6 (P:=P) yy c3 c1;have⟨f1,f2⟩:=lN (O:=bd ρ H G) (w:=w) hzf jn;have hzl:z.cells.toList.length=i.size:=by rw[length_toList,hzs]
  have han:(dI c (dR (shapeOf P e) jn)).n=c.n+jn:=by rw[wb,mq]
  have aov:(dI c (dR (shapeOf P e) jn)).size=i.size:=by rw[n6 c _ (by rw[f1,hzl,c3]),c3]
  have⟨n9,g1,g2,g3⟩:=tj (ty:=ty) (k:=kd) ht ht' hi hz (we.first w.drew rfl) (j:=jn) (by omega) (by omega) c2 c1 (by omega);rw[hvy];refine⟨_,_,g3, ?_⟩;simp only[jG,toNat_natCast];rw[<-han]
  have hnl:(Builtin.zeroCells z.cells jn).toList.length=(dR (shapeOf P e) jn).n*i.size:=by
   rw[length_toList,size_zeroCells,hzs,mq]
  have ad:=tg (rest:=(Builtin.zeroCells z.cells (n9 - (c.n+jn))).toList) (O:=bd ρ H G) (w:=w) c3 (by rw[f1,hzl]) c1 we.length hnl we.den (λi' j' fG kq=>by
   rw[mq]at fG;have⟨u,k1,k2⟩:=f2 i' j' fG (by omega);refine⟨u, ?_,k2⟩;rw[<-hzs,lY jn fG (by rw[hzs];exact kq)];exact k1) []
  simp only[nil_append,length_nil,zero_add]at ad;rw[<-han]at ad;refine mj (w1:=w.drew) hs rfl rfl rfl rfl ka (by rw[han];exact g1) g2 ?_ _ ad (λu hu=> ?_);rw[aov];simp only[length_append,we.length,length_toList,size_zeroCells,hzs];rw[<-add_mul,<-add_mul];exact Nat.mul_le_mul_right _ (by omega);rcases mem_append.1 hu with hu|hu;rcases mem_append.1 hu with hu|hu;exact we.one u hu;exact jt hzf jn u hu;exact jt hzf _ u hu
 cases h;cases h;cases h
end
section
variable{ρ aQ:Nat->Value}{H H':aV}{G O O':Nat->Prop}{w w':World}{P:Program}
theorem wq(hs:Sat ρ H G w){x:AV}{i:Nat}{c:a8}{e:TypeId}(hx:ownRow x=some i)(hi:H i=some (.aq c e))(cq:1<=c.size){v:Value}(hd:ak ρ H (bd ρ H G) w x v):
 ∃(a:Option Addr) (n cap:Nat),v=.slice a n cap/\(n=0\/∃(b o:Nat) (cells:List Value) (fr:Nat×Nat),a=some ⟨b,o,none⟩/\fp (ρ i)=some b/\w.heap[b]? =some (.cells cells.toArray e fr)/\aaC fr cells/\o<=cells.length/\0<cells.length):=by
 have⟨a,cap,r1,r2,r3,r4⟩:=hs.obj i _ hi;unfold ownRow at hx;split at hx;rename_i id;cases hx;unfold ak aO at hd;have⟨_,o,ho,hv⟩:=hd;rw[hi]at ho;cases ho;rw[hv c e rfl,r1];refine⟨a,c.n,cap,rfl, ?_⟩;by_cases h0:c.n=0;exact .inl h0;rcases r4 with h4|⟨b,o,cells,fr,us,rfl,q1,q2,q3,q4⟩;omega;have:1*1<=cap*c.size:=Nat.mul_le_mul (by omega) cq;exact .inr ⟨b,o,cells,fr,rfl,by simp only[fp];rw[if_neg (by omega)],q1,q2,by omega,by omega⟩;rename_i id lo n;cases hx;unfold ak aO at hd;have⟨_,o,ho,hv⟩:=hd;rw[hi]at ho;cases ho;obtain⟨hle,a2,re,a',k1,k2,rfl,k4⟩:=hv c e rfl;rw[r1]at k1;simp only[Value.slice.injEq,true_and]at k1;obtain⟨rfl,rfl⟩:=k1;refine⟨a',n,cap - lo,rfl, ?_⟩;by_cases h0:n=0;exact .inl h0;rcases r4 with h4|⟨b,o,cells,fr,us,rfl,q1,q2,q3,q4⟩;omega;have:lo*c.size<=cap*c.size:=Nat.mul_le_mul_right _ (by omega);have h1:1*1<=cap*c.size:=Nat.mul_le_mul (by omega) cq;refine .inr ⟨b,o+lo*c.size,cells,fr, ?_,by rw[r1];simp only[fp];rw[if_neg (by omega)],q1,q2,by omega,by omega⟩;rw[k4 (by omega),map_some,bp];cases hx
theorem aaU{motive:Array Value->Sort 1}{a b:Option Addr}{la ca lb cb:Nat}{h1:(a:Option Addr)->(la cap:Nat)->(b:Option Addr)->(lb cb:Nat)->motive #[.slice a la cap,.slice b lb cb]}{h2:(x:Array Value)->motive x}:
 Extern.SlicesOverlaps.overlaps.match_4 motive #[.slice a la ca,.slice b lb cb] h1 h2=h1 a la ca b lb cb:=rfl
theorem m5{f:FuncId}{args:List AV}{vs:List Value}{q:b8}(h:(sQ P f args).eval H=some q)(hn:bT q.ab)(hs:Sat ρ H G w)(hd:bV ρ H (bd ρ H G) w args vs):
 ∃v,(callFunc f vs.toArray).run P w=.ok (.value v) w/\q.up=[]/\q.new=[]/\∀base,ak ρ H (bd ρ H G) w (q.r base) v:=by
 unfold sQ at h;split at h;rename_i x y;split at h;rename_i i j hx hy;rw[cond_eq_ite]at h;split at h;cases h;rename_i lI;have lI:i≠j:=λe=>lI (by subst e;exact Nat.beq_refl i);simp only[RM.eval]at h;split at h;rename_i c e1 hi;simp only[RM.eval]at h;split at h;rename_i d e2 hj;rw[cond_eq_ite]at h;split at h;rename_i cq;simp only[and_eq_true]at cq;simp only[plain,RM.eval,Option.some.injEq]at h;subst h;have⟨⟨fn,t,e,tR,size,o1,o2,o3,o4,o5,o6,o7⟩,_⟩:=hn;obtain⟨vx,r1,rfl,dx,hd1⟩:=aI.1 hd;obtain⟨vy,r2,rfl,dy,hd2⟩:=aI.1 hd1;obtain rfl:=bo.1 hd2;obtain⟨a,n,cap,rfl,ha⟩:=wq hs hx hi (le_of_ble_eq_true cq.1) dx;obtain⟨a2,n2,re,rfl,ha2⟩:=wq hs hy hj (le_of_ble_eq_true cq.2) dy
 have hz:∀w:World,(Go.sizeOf e).run P w=.ok size w:=λw=>by
  obtain⟨inf,hi,rfl⟩:=map_eq_some_iff.1 o7;simp[sizeOf,typeInfo,hi]
 refine⟨.bool false, ?_,rfl,rfl,λ_=>aJ (.aT false)⟩;rw[run_callFunc_extern o1 o2 o3 o4 o5]
 have ad:(Extern.SlicesOverlaps.overlaps #[t,t] #[tR] #[.slice a n cap,.slice a2 n2 re]).run P w=.ok (.bool false) w:=by
  have zero:n=0\/n2=0->(Extern.SlicesOverlaps.overlaps #[t,t] #[tR] #[.slice a n cap,.slice a2 n2 re]).run P w=.ok (.bool false) w:=by
   intro h0;delta Extern.SlicesOverlaps.overlaps;rw[aaU];have h1:n=0\/n2=0\/size=0:=by rcases h0 with h0|h0<;>simp[h0]
   cases a with
   |none=>simp[run_underlying o6,hz]
   |some a=>
    cases a2 with
    |none=>simp[run_underlying o6,hz]
    |some b=>simp[run_underlying o6,hz,h1]
  rcases ha with h0|⟨b,o,cells,fr,rfl,hb,jI,hu,ho,azy⟩;exact zero (.inl h0);rcases ha2 with h0|⟨b2,o2',asx,fr2,rfl,hb2,asy,hu2,ho2,azq⟩;exact zero (.inr h0);have cX:b≠b2:=λe=>lI (hs.inj i j _ _ b hi hj rfl rfl hb (e▸hb2))
  have frz:∀{b:Nat} {cells:List Value} {fr:Nat×Nat} {e:TypeId} (off:Nat),w.heap[b]? =some (.cells cells.toArray e fr)->aaC fr cells->off<=cells.length->w.frozen? ⟨b,off,none⟩=false:=by
   intro b cells fr e off h1 h2 h3;have⟨lo,hi⟩:=fr;unfold World.frozen?;simp only[h1];have:=h2.1 off h3;simp only at this;cases hd:(decide (lo<=off)&&decide (off<hi))with
   |false=>rfl
   |true=>simp only[and_eq_true,decide_eq_true_eq]at hd;exact absurd hd this
  refine Lib.run_overlaps_apart w t tR e o6 size hz ⟨b,o,none⟩ ⟨b2,o2',none⟩ n cap n2 re cX e1 e2 cells.length asx.length ?_ ?_ (by omega) (frz o jI hu ho) (frz _ jI hu (le_refl _));simp only[World.shape?,jI];rfl;simp only[World.shape?,asy];rfl
 rw[ad];rfl;cases h;cases h;cases h;cases h;cases h
end
section
variable{ρ:Nat->Value}{H:aV}{O:Nat->Prop}{w:World}{P:Program}
theorem afe(d:Nat){e:TypeId}{k:IntKind}{i:TypeInfo}(he:P.underlying e=some (.int k))(hs:i.size=1)
 (ws nA:List Int) (w:World) (n:Nat) (h1:ws.length=n) (h2:nA.length=n):∀(m s:Nat),s+m=n->
 (forIn (m:=Sem) (range' s m 1) ((none,()):Option Bool×Unit) λj _=>do
   if(!(<-Op.equalIn (d+1) e (<-part e (ws.map (Value.int k)).toArray (j*i.size)) (<-part e (nA.map (Value.int k)).toArray (j*i.size))))=true then
    pure (ForInStep.done (some false,()))else pure (ForInStep.yield (none,()))).run P w=.ok (if ws.drop s=nA.drop s then(none,())else(some false,())) w:=by
 intro m
 induction m with
 |zero=>
  intro s hs';have e1:ws.drop s=[]:=List.drop_eq_nil_of_le (by omega);have e2:nA.drop s=[]:=List.drop_eq_nil_of_le (by omega);simp[e1,e2]
 |succ m ih=>
  intro s hs';have hi1:s<ws.length:=by omega
  have hi2:s<nA.length:=by omega
  have p1:∀w,(part e (ws.map (Value.int k)).toArray (s*i.size)).run P w=.ok (.int k ws[s]) w:=by
   intro w;simp[part,isAgg,run_underlying he,hs,hi1]
  have p2:∀w,(part e (nA.map (Value.int k)).toArray (s*i.size)).run P w=.ok (.int k nA[s]) w:=by
   intro w;simp[part,isAgg,run_underlying he,hs,hi2]
  rw[List.range'_succ,List.forIn_cons];simp only[Sem.run_bind,p1,p2,andThen_ok,run_equalIn_int _ _ _ _ _ _ _ he];rw[List.drop_eq_getElem_cons hi1,List.drop_eq_getElem_cons hi2];by_cases hq:ws[s]=nA[s];simp only[hq,beq_self_eq_true,Bool.not_true,Bool.false_eq_true,if_false,Sem.run_pure,andThen_ok,List.cons.injEq,true_and];exact ih (s+1) (by omega);have:(ws[s]==nA[s])=false:=by simpa using hq
  have cX:¬(ws[s]::ws.drop (s+1)=nA[s]::nA.drop (s+1)):=λe=>hq (List.cons.inj e).1;rw[if_neg cX];simp only[this,Bool.not_false,if_true,Sem.run_pure,andThen_ok]
theorem uq(d:Nat){t e:TypeId}{n:Nat}{k:IntKind}{i:TypeInfo}(ht:P.underlying t=some (.array n e))(he:P.underlying e=some (.int k))(hi:P.info? e=some i)(hs:i.size=1)
 (ws nA:List Int) (h1:ws.length=n) (h2:nA.length=n) (w:World):
 (Op.equalIn (d+2) t (.agg (ws.map (Value.int k)).toArray) (.agg (nA.map (Value.int k)).toArray)).run P w=.ok (decide (ws=nA)) w:=by
 have ad:=afe (P:=P) d he hs ws nA w n h1 h2 n 0 (by omega);unfold Op.equalIn;simp only[Sem.run_bind,run_underlying ht,andThen_ok,sizeOf,typeInfo,run_program,hi,Sem.run_pure];rw[Std.Legacy.Range.forIn_eq_forIn_range'];simp only[Std.Legacy.Range.size,Nat.sub_zero,Nat.add_sub_cancel,Nat.div_one];rw[ad];by_cases hq:ws=nA<;>simp[hq]
theorem acs(d:Nat){e:TypeId}{i:TypeInfo}(hs:i.size=1)(qQ:∀w,(isAgg e).run P w=.ok false w)(cx cy:List Value)(w:World)(n:Nat)(h1:cx.length=n)(h2:cy.length=n):∀(m s:Nat) (bs:List Bool),s+m=n->bs.length=m->
 (∀j (hj:j<m) (hx:s+j<cx.length) (hy:s+j<cy.length) (hb:j<bs.length),(Op.equalIn (d+1) e cx[s+j] cy[s+j]).run P w=.ok bs[j] w)->
 (forIn (m:=Sem) (range' s m 1) ((none,()):Option Bool×Unit) λj _=>do
   if(!(<-Op.equalIn (d+1) e (<-part e cx.toArray (j*i.size)) (<-part e cy.toArray (j*i.size))))=true then
    pure (ForInStep.done (some false,()))else pure (ForInStep.yield (none,()))).run P w=.ok (if bs.all id then(none,())else(some false,())) w:=by
 intro m
 induction m with
 |zero=>
  intro s bs _ hb _;obtain rfl:bs=[]:=List.length_eq_zero_iff.1 hb;simp
 |succ m ih=>
  intro s bs hs' hb aaN;have hi1:s<cx.length:=by omega
  have hi2:s<cy.length:=by omega
  match bs,hb,aaN with
  |b::bs,hb,aaN=>
  have p1:∀w,(part e cx.toArray (s*i.size)).run P w=.ok cx[s] w:=by
   intro w;simp[part,qQ,hs,hi1]
  have p2:∀w,(part e cy.toArray (s*i.size)).run P w=.ok cy[s] w:=by
   intro w;simp[part,qQ,hs,hi2]
  have h0:(Op.equalIn (d+1) e cx[s] cy[s]).run P w=.ok b w:=by
   have:=aaN 0 (by omega) (by omega) (by omega) (by simp);simpa using this
  rw[List.range'_succ,List.forIn_cons];simp only[Sem.run_bind,p1,p2,andThen_ok,h0];cases b with
  |true=>
   simp only[Bool.not_true,Bool.false_eq_true,if_false,Sem.run_pure,andThen_ok]
   have:=ih (s+1) bs (by omega) (by simpa using hb) (λj hj hx hy uN=>by
    have:=aaN (j+1) (by omega) (by omega) (by omega) (by simp;omega);simp only[show s+(j+1)=s+1+j from by omega]at this;simpa using this)
   simpa using this
  |false=>simp
theorem aoy{x y:AV}{b:Bool}{vx vy:Value}(d:Nat){e:TypeId}(he:∃ms,P.underlying e=some (.interface ms))(h:akb P x y=some b)(hx:ak ρ H O w x vx)(hy:ak ρ H O w y vy):(Op.equalIn (d+2) e vx vy).run P w=.ok b w:=by
 have⟨ms,he⟩:=he
 have step:∀(t:TypeId) (a c:Value) (r:Bool),(P.info? t).any (·.comparable)=true->(Op.equalIn (d+1) t a c).run P w=.ok r w->(Op.equalIn (d+2) e (.iface t a) (.iface t c)).run P w=.ok r w:=by
  intro t a c r hc hr
  obtain⟨i,hi,hcc⟩:∃i,P.info? t=some i/\i.comparable=true:=by
   cases hi:P.info? t with
   |none=>simp[hi]at hc
   |some i=>exact⟨i,rfl,by simpa[hi]using hc⟩
  rw[show d+2=(d+1)+1 from rfl];unfold Op.equalIn;simp[run_underlying he,typeInfo,hi,hcc,hr]
 unfold akb at h;split at h;rename_i t k n t' k' n';rw[cond_eq_ite]at h;split at h;rename_i hc;simp only[and_eq_true,beq_eq]at hc;obtain⟨⟨⟨rfl,hk⟩,akF⟩,ht⟩:=hc;obtain rfl:=bC hk;simp only[Option.some.injEq]at h;subst h;have h1:=aC (by simp) hx;have h2:=aC (by simp) hy;cases h1;cases h2;unfold aj9 at ht;split at ht;rename_i k2 ht2;refine step t _ _ _ akF ?_;unfold Op.equalIn;simp[run_underlying ht2];cases ht;cases h;rename_i t s t' s';rw[cond_eq_ite]at h;split at h;rename_i hc;simp only[and_eq_true,beq_eq]at hc;obtain⟨⟨rfl,akF⟩,ht⟩:=hc;simp only[Option.some.injEq]at h;subst h;have h1:=aC (by simp) hx;have h2:=aC (by simp) hy;cases h1;cases h2;unfold aka at ht;split at ht;rename_i ht2;refine step t _ _ _ akF ?_;rw[run_equalIn_string _ _ _ _ _ ht2,ae1];cases ht;cases h;rename_i t b1 t' b2;rw[cond_eq_ite]at h;split at h;rename_i hc;simp only[and_eq_true,beq_eq]at hc;obtain⟨⟨rfl,akF⟩,ht⟩:=hc;simp only[Option.some.injEq]at h;subst h;have h1:=aC (by simp) hx;have h2:=aC (by simp) hy;cases h1;cases h2;unfold agu at ht;split at ht;rename_i ht2;exact step t _ _ _ akF (run_equalIn_bool' _ _ _ _ _ ht2);cases ht;cases h;cases h
theorem akG(d:Nat){e:TypeId}(he:∃ms,P.underlying e=some (.interface ms)):∀{xs ys:List AV} {b:Bool} {cx cy:List Value},eqI P xs ys=some b->aE ρ H O w xs cx->aE ρ H O w ys cy->
 ∃bs:List Bool,bs.length=xs.length/\cx.length=xs.length/\cy.length=ys.length/\bs.all id=b/\∀j (hx:j<cx.length) (hy:j<cy.length) (hb:j<bs.length),(Op.equalIn (d+2) e cx[j] cy[j]).run P w=.ok bs[j] w
 |[],[],b,cx,cy,h,hx,hy=>by
  simp only[eqI,Option.some.injEq]at h;subst h;rw[aH.1 hx,aH.1 hy];exact⟨[],rfl,rfl,rfl,rfl,λj hj=>by simp at hj⟩
 |[],_::_,b,cx,cy,h,hx,hy=>by simp[eqI]at h
 |_::_,[],b,cx,cy,h,hx,hy=>by simp[eqI]at h
 |x::xs,y::ys,b,cx,cy,h,hx,hy=>by
  simp only[eqI]at h;split at h;rename_i b1 b2 h1 h2;simp only[Option.some.injEq]at h;subst h;obtain⟨u1,c1,rfl,g1,g2⟩:=ao.1 hx;obtain⟨u2,c2,rfl,g3,g4⟩:=ao.1 hy;have sx:∃a,x=.s a/\∀c,a≠.ro c:=by unfold akb at h1;split at h1<;>first|exact⟨_,rfl,by simp⟩|cases h1
  have sy:∃a,y=.s a/\∀c,a≠.ro c:=by unfold akb at h1;split at h1<;>first|exact⟨_,rfl,by simp⟩|cases h1
  obtain⟨a,rfl,_⟩:=sx;obtain⟨a',rfl,_⟩:=sy;unfold aU at g1 g3;obtain⟨v1,rfl,d1⟩:=g1;obtain⟨v2,rfl,d2⟩:=g3;have k1:=aoy (ρ:=ρ) (H:=H) (O:=O) (w:=w) d he h1 (aJ d1) (aJ d2);have⟨bs,e1,e2,e3,e4,e5⟩:=akG d he h2 g2 g4;refine⟨b1::bs,by simp[e1],by simp[e2],by simp[e3],by simp[e4],λj hx hy hb=> ?_⟩;cases j with
  |zero=>exact k1
  |succ j=>exact e5 j (by simpa using hx) (by simpa using hy) (by simpa using hb)
  cases h
theorem agC(d:Nat){t e:TypeId}(ht:P.underlying t=some (.pointer e))(b:Option Addr):(Op.equalIn (d+1) t (.pointer none) (.pointer b)).run P w=.ok b.isNone w:=by
 unfold Op.equalIn;simp[run_underlying ht]
theorem aoz(d:Nat){t e:TypeId}(ht:P.underlying t=some (.pointer e))(a:Addr):(Op.equalIn (d+1) t (.pointer (some a)) (.pointer none)).run P w=.ok false w:=by
 unfold Op.equalIn;simp[run_underlying ht]
def mk(P:Program)(t:TypeId)(cs:List Value):Value:=
 match iv P t with
 |some true=>.agg cs.toArray
 |_=>cs.headD undef
theorem aaV{d d':Nat}(ih:∀{t:TypeId} {xs ys:List AV} {b:Bool} {cx cy:List Value},eqC P d t xs ys=some b->aE ρ H O w xs cx->aE ρ H O w ys cy->(Op.equalIn d' t (mk P t cx) (mk P t cy)).run P w=.ok b w)
 {xs ys:List AV} {cx cy:List Value} (hx:aE ρ H O w xs cx) (hy:aE ρ H O w ys cy):∀(fs:List Field) {b:Bool},aix P (eqC P d) fs xs ys=some b->(Op.eqFields d' cx.toArray cy.toArray fs).run P w=.ok b w
 |[],b,h=>by
  simp only[aix,Option.some.injEq]at h;subst h;rfl
 |f::fs,b,h=>by
  simp only[aix,cond_eq_ite]at h;simp only[Op.eqFields,Sem.run_ite];split at h;rename_i hn;rw[if_neg (by simpa using hn)];exact aaV ih hx hy fs h;rename_i hn;rw[if_pos (by simpa using hn)];split at h;rename_i sz yn cq qQ;split at h
  case isFalse=>cases h
  rename_i sZ;split at h;rename_i a b' h1 h2;have⟨sa,h3,h4⟩:=bind_eq_some_iff.1 h1;have⟨sb,h5,h6⟩:=bind_eq_some_iff.1 h2;have⟨g1,g2⟩:=fX _ _ h3 hx;have⟨g3,g4⟩:=fY _ _ h4 g2;have⟨k1,k2⟩:=fX _ _ h5 hy;have⟨k3,k4⟩:=fY _ _ h6 k2;split at h;rename_i p q h7 h8;simp only[Option.some.injEq]at h;subst h;have hp:=ih h7 g4 k4
  have aq7:∀(cs:List Value),f.offset<=cs.length->sz<=(cs.drop f.offset).length->(part f.type cs.toArray f.offset).run P w=.ok (mk P f.type ((cs.drop f.offset).take sz)) w:=by
   intro cs q1 q2;cases yn;have axJ:sz=1:=by simpa using sZ
   subst axJ;simp only[length_drop]at q2;have bA:f.offset<cs.length:=by omega
   have e1:mk P f.type ((cs.drop f.offset).take 1)=cs[f.offset]:=by
    simp only[mk,qQ];rw[List.drop_eq_getElem_cons bA];rfl
   rw[e1];simp[part,hZ qQ,bA];simp only[mk,qQ];simp[part,hZ qQ,run_sizeOf cq,List.extract_eq_take_drop]
  simp only[Sem.run_bind,aq7 cx g1 g3,aq7 cy k1 k3,andThen_ok,hp,Sem.run_ite];cases p;simp;simpa using aaV ih hx hy fs h8;cases h;cases h;cases h
theorem akH:∀(d:Nat) {t:TypeId} {xs ys:List AV} {b:Bool} {cx cy:List Value},eqC P d t xs ys=some b->aE ρ H O w xs cx->aE ρ H O w ys cy->∀{d':Nat},d<=d'->(Op.equalIn d' t (mk P t cx) (mk P t cy)).run P w=.ok b w
 |0,t,xs,ys,b,cx,cy,h,_,_,_,_=>by simp[eqC]at h
 |d+1,t,xs,ys,b,cx,cy,h,hx,hy,0,hd=>by omega
 |d+1,t,xs,ys,b,cx,cy,h,hx,hy,d'+1,hd=>by
  simp only[eqC]at h
  have one:∀{x:AV} {cs:List Value},aE ρ H O w [x] cs->(∀k n ws,x≠.aw k n ws)->∃u,cs=[u]/\ak ρ H O w x u:=by
   intro x cs h hx;obtain⟨c1,c2,rfl,h1,h2⟩:=ao.1 h;rw[aH.1 h2];obtain⟨u,rfl,_,h3⟩:=fZ h1 (gW hx) hx;exact⟨u,rfl,h3⟩
  split at h;rename_i k0 ht;have ha:iv P t=some false:=by simp[iv,ht]
  split at h;rename_i x y;split at h;rename_i k l a k' l' b' h1 h2;rw[cond_eq_ite]at h;split at h;rename_i hk;obtain rfl:=bC hk;simp only[Option.some.injEq]at h;subst h;obtain⟨u,rfl,hu⟩:=one hx (by rintro k n ws rfl;simp[AV.cP]at h1);obtain⟨v,rfl,hv⟩:=one hy (by rintro k n ws rfl;simp[AV.cP]at h2);obtain rfl:=cG h1 hu;obtain rfl:=cG h2 hv;simp only[mk,ha,List.headD_cons];exact run_equalIn_int _ _ _ _ _ _ _ ht;cases h;cases h;cases h;rename_i ht;have ha:iv P t=some false:=by simp[iv,ht]
  split at h;rename_i x y;split at h;rename_i l a l' b' h1 h2;simp only[Option.some.injEq]at h;subst h;obtain⟨u,rfl,hu⟩:=one hx (by rintro k n ws rfl;simp[AV.fT]at h1);obtain⟨v,rfl,hv⟩:=one hy (by rintro k n ws rfl;simp[AV.fT]at h2);obtain rfl:=kG h1 hu;obtain rfl:=kG h2 hv;simp only[mk,ha,List.headD_cons];exact run_equalIn_bool' _ _ _ _ _ ht;cases h;cases h;rename_i ht;have ha:iv P t=some false:=by simp[iv,ht]
  split at h;rename_i a b';simp only[Option.some.injEq]at h;subst h;obtain⟨u,rfl,hu⟩:=one hx (by simp);obtain⟨v,rfl,hv⟩:=one hy (by simp);obtain rfl:=fP hu;obtain rfl:=fP hv;simp only[mk,ha,List.headD_cons];rw[run_equalIn_string _ _ _ _ _ ht,ae1];cases h;rename_i n e ht;have ha:iv P t=some true:=by simp[iv,ht]
  split at h;rename_i k m ws k' m' nA;split at h;rename_i k'' he;rw[cond_eq_ite]at h;split at h;rename_i hc;simp only[and_eq_true,beq_iff_eq]at hc;have⟨⟨⟨⟨⟨e0,e1⟩,e2⟩,e3⟩,e4⟩,e5⟩:=hc;have e0:=le_of_ble_eq_true e0;obtain rfl:=bC e1;obtain rfl:=bC e2;subst e3;subst e4;simp only[Option.some.injEq]at h;subst h;obtain⟨c1,c2,rfl,h1,h2⟩:=ao.1 hx;rw[aH.1 h2];obtain⟨c3,c4,rfl,h3,h4⟩:=ao.1 hy;rw[aH.1 h4];unfold aU at h1 h3;obtain⟨l1,rfl⟩:=h1;obtain⟨l2,rfl⟩:=h3
  obtain⟨i,hi,hs⟩:∃i,P.info? e=some i/\i.size=1:=by
   cases hi:P.info? e with
   |none=>simp[hi]at e5
   |some i=>exact⟨i,rfl,by simpa[hi]using e5⟩
  obtain⟨d2,rfl⟩:∃d2,d'=d2+1:=⟨d' - 1,by omega⟩;simp only[mk,ha,append_nil];exact uq d2 ht he hi hs ws nA l1 l2 w;cases h;cases h;cases h;rename_i fs ht;have ha:iv P t=some true:=by simp[iv,ht]
  have hf:P.fieldsOf t=fs:=by simp[Program.fieldsOf,ht]
  rw[cond_eq_ite]at h;split at h;cases h;rename_i mY;simp only[mk,ha];rw[run_equalIn_struct w d' t _ _ (by rw[hf];exact ht) (by simpa using mY),hf];exact aaV (λh1 h2 h3=>akH d h1 h2 h3 (by omega)) hx hy fs.toList h;cases h
theorem akI{t:TypeId}{x y:AV}{vx vy:Value}{q:Bool×Bool}(h:eqR P t x y=some q)(hx:ak ρ H O w x vx)(hy:ak ρ H O w y vy):
 (Op.equal t vx vy).run P w=.ok q.2 w/\(∀op a b,(eqGuard op t a b vx vy).run P w=.ok () w)/\
 (∀op,op=.eql\/op=.neq->(binOp op t vx vy).run P w=((do let b <-Op.equal t vx vy;pure (.bool (if op=.eql then b else !b))):Sem Value).run P w):=by
 have ad:∀vx vy:Value,(∀k a,vx≠.int k a)->(∀s,vx≠.string s)->(∀k a,vx≠.float k a)->(∀k a b,vx≠.complex k a b)->
  ∀op,op=.eql\/op=.neq->(binOp op t vx vy).run P w=((do let b <-Op.equal t vx vy;pure (.bool (if op=.eql then b else !b))):Sem Value).run P w:=by
  intro vx vy h1 h2 h3 h4 op yj
  rcases yj with rfl|rfl<;>cases vx<;>cases vy<;>first
   |rfl
   |(exact(h1 _ _ rfl).elim)
   |(exact(h2 _ rfl).elim)
   |(exact(h3 _ _ rfl).elim)
   |(exact(h4 _ _ _ rfl).elim)
 unfold eqR at h;split at h;rename_i ht;split at h;rename_i lx a ly b h1 h2;simp only[Option.some.injEq]at h;subst h;obtain rfl:=kG h1 hx;obtain rfl:=kG h2 hy;exact⟨run_equal_bool w t a b ht,λop c d=>aaB op t c d a b,ad _ _ (by simp) (by simp) (by simp) (by simp)⟩;cases h;rename_i n e k m ws k' m' nA ht;split at h;rename_i k'' he;simp only[cond_eq_ite]at h;split at h;rename_i hc;simp only[and_eq_true,beq_iff_eq,not_eq_true']at hc;have⟨⟨⟨⟨⟨e1,e2⟩,e3⟩,e4⟩,e5⟩,e6⟩:=hc;obtain rfl:=bC e1;obtain rfl:=bC e2;subst e3;subst e4;simp only[Option.some.injEq]at h;subst h;unfold ak at hx hy;obtain⟨l1,rfl⟩:=hx;obtain⟨l2,rfl⟩:=hy
 obtain⟨i,hi,hs⟩:∃i,P.info? e=some i/\i.size=1:=by
  cases hi:P.info? e with
  |none=>simp[hi]at e5
  |some i=>exact⟨i,rfl,by simpa[hi]using e5⟩
 exact⟨uq 9998 ht he hi hs ws nA l1 l2 w,λop c d=>run_eqGuard_agg w op t c d _ _ e6,ad _ _ (by simp) (by simp) (by simp) (by simp)⟩;cases h;cases h;rename_i e ht;simp only[Option.some.injEq]at h;subst h;have h1:=aC (by simp) hx;have h2:=aC (by simp) hy;cases h1;cases h2;exact⟨agC 9999 ht none,λop c d=>nO op t c d _ _,ad _ _ (by simp) (by simp) (by simp) (by simp)⟩;rename_i e id off ht;simp only[Option.some.injEq]at h;subst h;have h1:=aC (by simp) hx;cases h1;unfold ak aO at hy;obtain⟨b,_,rfl,_⟩:=hy;exact⟨agC 9999 ht _,λop c d=>nO op t c d _ _,ad _ _ (by simp) (by simp) (by simp) (by simp)⟩;rename_i e id off ht;simp only[Option.some.injEq]at h;subst h;have h1:=aC (by simp) hy;cases h1;unfold ak aO at hx;obtain⟨b,_,rfl,_⟩:=hx;exact⟨aoz 9999 ht _,λop c d=>nO op t c d _ _,ad _ _ (by simp) (by simp) (by simp) (by simp)⟩;rename_i n e xs ys ht;split at h;rename_i ms he;rw[cond_eq_ite]at h;split at h;rename_i hc;simp only[and_eq_true,beq_iff_eq,not_eq_true']at hc;have⟨⟨⟨hn1,uO⟩,cq⟩,hg⟩:=hc;obtain⟨b,h1,rfl⟩:=map_eq_some_iff.1 h
 obtain⟨i,hi,hs⟩:∃i,P.info? e=some i/\i.size=1:=by
  cases hi:P.info? e with
  |none=>simp[hi]at cq
  |some i=>exact⟨i,rfl,by simpa[hi]using cq⟩
 unfold ak at hx hy;obtain⟨cx,rfl,hx⟩:=hx;obtain⟨cy,rfl,hy⟩:=hy;have⟨bs,e1,e2,e3,e4,e5⟩:=akG (P:=P) 9997 ⟨ms,he⟩ h1 hx hy
 have aoo:=acs (P:=P) 9998 (e:=e) hs (λw=>by simp[isAgg,run_underlying he]) cx cy w n (by omega) (by omega) n 0 bs (by omega) (by omega) (λj hj hx hy hb=>by
  simp only[zero_add];exact e5 j (by omega) (by omega) hb)
 refine⟨?_,λop c d=>run_eqGuard_agg w op t c d _ _ hg,ad _ _ (by simp) (by simp) (by simp) (by simp)⟩;show(Op.equalIn (9999+1) t _ _).run P w=_;unfold Op.equalIn;simp only[Sem.run_bind,run_underlying ht,andThen_ok,sizeOf,typeInfo,run_program,hi,Sem.run_pure];rw[Std.Legacy.Range.forIn_eq_forIn_range'];simp only[Std.Legacy.Range.size,Nat.sub_zero,Nat.add_sub_cancel,Nat.div_one];rw[aoo,<-e4];cases bs.all id<;>simp;cases h;cases h;rename_i fs xs ys ht;rw[cond_eq_ite]at h;split at h;cases h;rename_i hg;obtain⟨b,h1,rfl⟩:=map_eq_some_iff.1 h;unfold ak at hx hy;obtain⟨cx,rfl,hx⟩:=hx;obtain⟨cy,rfl,hy⟩:=hy;have hk:=akH (P:=P) 20 h1 hx hy (d':=10000) (by omega);have ha:iv P t=some true:=by simp[iv,ht]
 simp only[mk,ha]at hk;exact⟨hk,λop c d=>run_eqGuard_agg w op t c d _ _ (by simpa using hg),ad _ _ (by simp) (by simp) (by simp) (by simp)⟩;cases h
theorem acu{x:AV}{k:IntKind}{v:Value}(h:x.kind? =some k)(hd:ak ρ H O w x v):∃n,v=.int k n:=by
 unfold AV.kind? at h;split at h<;>cases h
 all_goals
  have:=aC (by simp) hd;cases this;exact⟨_,rfl⟩
theorem ai1{op:BinOp}{t:TypeId}{k:IntKind}{a b:Int}{r:AV}(h:aeL op k=some r):∃v,(binOp op t (.int k a) (.int k b)).run P w=.ok v w/\ak ρ H O w r v:=by
 have ar:∀(op:BinOp) (n:Int),vI op k true true a b=some ([],.s (.aZ k n))->∃v,(binOp op t (.int k a) (.int k b)).run P w=.ok v w/\ak ρ H O w (.s (.aat k)) v:=λop n h=>by
  have⟨v,h3,h4⟩:=sR (P:=P) (t:=t) (ρ:=ρ) (H:=H) (O:=O) (w:=w) h trivial;have:=aC (by simp) h4;cases this;exact⟨_,h3,aJ (.aat _ _)⟩
 have cm:∀(op:BinOp) (c:Bool),vI op k true true a b=some ([],.s (.aT c))->∃v,(binOp op t (.int k a) (.int k b)).run P w=.ok v w/\ak ρ H O w (.s (.lD 0 true)) v:=λop c h=>by
  have⟨v,h3,h4⟩:=sR (P:=P) (t:=t) (ρ:=ρ) (H:=H) (O:=O) (w:=w) h trivial;have:=aC (by simp) h4;cases this;exact⟨_,h3,aJ (.lD 0 true _ (λ_=>rfl))⟩
 unfold aeL at h;split at h<;>cases h;exact ar .add _ rfl;exact ar .sub _ rfl;exact ar .mul _ rfl;exact ar .and _ rfl;exact ar .or _ rfl;exact ar .xor _ rfl;exact ar .andNot _ rfl;exact cm .eql _ rfl;exact cm .neq _ rfl;exact cm .lss _ rfl;exact cm .leq _ rfl;exact cm .gtr _ rfl;exact cm .geq _ rfl
theorem agD{op:BinOp}{t:TypeId}{x y:AV}{ox oy:Operand}{vx vy:Value}{q:List Prop×AV}(h:aod P op t x y=some q)(hn:bT q.1)
 (hx:ak ρ H O w x vx) (hy:ak ρ H O w y vy):
 ∃v,(do eqGuard op t ox oy vx vy;binOp op t vx vy:Sem Value).run P w=.ok v w/\ak ρ H O w q.2 v:=by
 unfold aod at h;split at h;rename_i a b;obtain rfl:=fP hx;obtain rfl:=fP hy;have⟨v,h1,h2⟩:=aiy (P:=P) (t:=t) (ρ:=ρ) (H:=H) (O:=O) (w:=w) h hn;exact⟨v,by simp[ab1,h1],h2⟩;split at h;rename_i k lx a k' ly b h1 h2;obtain rfl:=cG h1 hx;obtain rfl:=cG h2 hy;split at h;have⟨v,h3,h4⟩:=zf (P:=P) (t:=t) (k':=k') (ρ:=ρ) (H:=H) (O:=O) (w:=w) h hn;exact⟨v,by simp[hY,h3],h4⟩;have⟨v,h3,h4⟩:=zf (P:=P) (t:=t) (k':=k') (ρ:=ρ) (H:=H) (O:=O) (w:=w) h hn;exact⟨v,by simp[hY,h3],h4⟩;rw[cond_eq_ite]at h;split at h;rename_i hk;obtain rfl:=bC hk;have⟨v,h3,h4⟩:=sR (P:=P) (t:=t) (ρ:=ρ) (H:=H) (O:=O) (w:=w) h hn;exact⟨v,by simp[hY,h3],h4⟩;cases h;split at h;rename_i k k' uQ ri;rw[cond_eq_ite]at h;split at h;rename_i hk;obtain rfl:=bC hk;obtain⟨a,rfl⟩:=acu uQ hx;obtain⟨b,rfl⟩:=acu ri hy;simp only[map_eq_some_iff]at h;obtain⟨r,hr,rfl⟩:=h;have⟨v,h3,h4⟩:=ai1 (P:=P) (t:=t) (ρ:=ρ) (H:=H) (O:=O) (w:=w) (a:=a) (b:=b) hr;exact⟨v,by simp[hY,h3],h4⟩;cases h;split at h;simp only[map_eq_some_iff]at h;obtain⟨⟨l,b⟩,h1,rfl⟩:=h;have⟨h2,h3,h4⟩:=akI h1 hx hy;exact⟨.bool b,by simp[h3,h4 .eql (.inl rfl),h2],qm _ _⟩;simp only[map_eq_some_iff]at h;obtain⟨⟨l,b⟩,h1,rfl⟩:=h;have⟨h2,h3,h4⟩:=akI h1 hx hy;exact⟨.bool (!b),by simp[h3,h4 .neq (.inr rfl),h2],qm _ _⟩;cases h
theorem aoA{t:TypeId}{x:AV}{vx:Value}{q:b8}(h:(asm P t x).eval H=some q)(hn:bT q.ab)(hx:ak ρ H O w x vx):fI P ρ H O w q (Instr.makeInterface t vx):=by
 have run:∀(v:Value) {u:TypeDesc},P.underlying t=some u->(∀ms,u≠.interface ms)->(Instr.makeInterface t v).run P w=.ok (.iface t v) w:=by
  intro v u hu hni;unfold Instr.makeInterface;simp only[Sem.run_bind,run_underlying hu,andThen_ok,Sem.run_pure]
 unfold asm at h;split at h;simp[RM.eval]at h;rename_i u k n cX hu;have h1:=aC (by simp) hx;cases h1;exact aP h (λ_=>⟨_,run _ hu (λms e=>cX ms e),aJ (.ifi t k n)⟩) hn;rename_i u k n cX hu;have h1:=aC (by simp) hx;cases h1;exact aP h (λ_=>⟨_,run _ hu (λms e=>cX ms e),aJ (.ifi t k n)⟩) hn;rename_i u s cX hu;have h1:=aC (by simp) hx;cases h1;exact aP h (λ_=>⟨_,run _ hu (λms e=>cX ms e),aJ (.ifs t s)⟩) hn;rename_i u b cX hu;have h1:=aC (by simp) hx;cases h1;exact aP h (λ_=>⟨_,run _ hu (λms e=>cX ms e),aJ (.ifb t b)⟩) hn;rename_i u b cX hu;have h1:=aC (by simp) hx;cases h1;exact aP h (λ_=>⟨_,run _ hu (λms e=>cX ms e),aJ (.ifb t b)⟩) hn;simp[RM.eval]at h
end
def Yields(P:Program)(o:Oper)(e:Operand->Value)(w:World)(R:Value->World->Prop):Prop:=
 match(execOp e o).run P w with
 |.ok (.value v) w'=>R v w'
 |.ok .skip w'=>R undef w'
 |.ok (.enter f args) w'=>Calls P f args w' λen w''=>∃v,en=.returned v/\R v w''
 |_=>False
structure bB where
 bs:List Nat
 ok:World->Prop
 low:∀w,ok w->∀b,b∈bs->b<w.heap.size
 fq:∀w w',ok w->(∀b,b∈bs->w'.heap[b]? =w.heap[b]?)->ok w'
def ZAt(Z:bB)(ρ:Nat->Value)(H:aV)(w:World):Prop:=Z.ok w/\∀b,b∈Z.bs->¬Own ρ H b
def SOk(P:Program)(S:fO)(Z:bB):Prop:=
 ∀(base:Nat) (f:FuncId) (args:List AV) (H:aV) (q:b8),jB P f=true->(S base f args).eval H=some q->bT q.ab->∀(ρ:Nat->Value) (G:Nat->Prop) (w:World) (vs:List Value),
  (∀i,i<q.new.length->H (base+i)=none)->ZAt Z ρ H w->Sat ρ H G w->bV ρ H (bd ρ H G) w args vs->
  Calls P f vs.toArray w λen w'=>∃v,en=.returned v/\Good ρ H G w (di H q.up base q.new) (q.r base) v w'
section
variable{ρ aQ:Nat->Value}{H H':aV}{G O O':Nat->Prop}{w w':World}{P:Program}{S:fO}{Z:bB}
theorem pd{why:String}{p:Option (List Prop×AV)}{q:b8}(h:(qc why p).eval H=some q):∃x,p=some x/\q=⟨x.1,[],[],λ_=>x.2⟩:=by
 cases p with
 |none=>simp[qc,RM.eval]at h
 |some x=>simp only[qc,plain,RM.eval,Option.some.injEq]at h;exact⟨x,rfl,h.symm⟩
theorem bM{o:Oper}{e:Operand->Value}{q:b8}{s:Sem Value}(hs:Sat ρ H G w)(h:fI P ρ H (bd ρ H G) w q s)(he:(execOp e o).run P w=(do pure (Next.value (<-s)):Sem Next).run P w)(base:Nat):
 Yields P o e w (λv w'=>Good ρ H G w (di H q.up base q.new) (q.r base) v w'):=by
 have⟨h1,h2,v,h3,h4⟩:=h;unfold Yields;rw[he,h1,h2,mh];simp only[Sem.run_bind,h3,andThen_ok,Sem.run_pure];exact Good.val hs (h4 base)
theorem dj{o:Oper}{e:Operand->Value}{R:Value->World->Prop}{s:Sem Value}(h:∃v w',s.run P w=.ok v w'/\R v w')(he:(execOp e o).run P w=(do pure (Next.value (<-s)):Sem Next).run P w):Yields P o e w R:=by
 have⟨v,w',h1,h2⟩:=h;unfold Yields;rw[he];simp only[Sem.run_bind,h1,andThen_ok,Sem.run_pure];exact h2
theorem oa{ev:Operand->AV}{e:Operand->Value}:∀(l:List Operand),(∀x∈l,ak ρ H O w (ev x) (e x))->bV ρ H O w (l.map ev) (l.map e)
 |[],_=>bo.2 rfl
 |x::l,h=>aI.2 ⟨e x,l.map e,rfl,h x (by simp),oa l (λy hy=>h y (by simp[hy]))⟩
theorem jJ{aS bs:List AV}{us vs:List Value}(h1:bV ρ H O w aS us)(h2:bV ρ H O w bs vs):bV ρ H O w (aS++bs) (us++vs):=by
 induction aS generalizing us with
 |nil=>rw[bo.1 h1];exact h2
 |cons a aS ih=>
  obtain⟨v,rest,rfl,h3,h4⟩:=aI.1 h1;exact aI.2 ⟨v,rest++vs,rfl,h3,ih h4⟩
theorem iC{f:FuncId}(h:jB P f=true)(args:Array Value)(w:World):(callFunc f args).run P w=.ok (.enter f args) w:=by
 unfold jB at h;split at h;rename_i fn hf;simp only[and_eq_true,not_eq_true',beq_eq_false_iff_ne,ne_eq]at h
 have hb:¬fn.body=none:=by
  intro hb;rw[hb]at h;simp at h
 simp[callFunc,hf,h.2,hb];cases h
theorem aaW{f:FuncId}{v:Value}(h:bg O w (.qW f) v):v=.func (.func f) #[] #[]:=by cases h;rfl
theorem aff{ev:Operand->AV}{e:Operand->Value}{l:Option Operand}(h:∀x,l=some x->ak ρ H O w (ev x) (e x)):nU ρ H O w (l.map ev) (l.map e):=by
 cases l with
 |none=>trivial
 |some x=>exact h x rfl
theorem zq{ps:Array (Nat×Operand)}{p:Nat×Operand}(h:p∈ps):p.2∈(ps.toList.map (·.2)).toArray:=by
 simp only[List.mem_toArray,mem_map];exact⟨p,Array.mem_toList_iff.2 h,rfl⟩
theorem agE(hS:SOk P S Z){base:Nat}{o:Oper}{ev:Operand->AV}{q:b8}(h:(akh P (S base) ev o).eval H=some q)(hn:bT q.ab)(hz:ZAt Z ρ H w)(hs:Sat ρ H G w){e:Operand->Value}
 (hd:∀x∈o.op.operands,ak ρ H (bd ρ H G) w (ev x) (e x)) (hb:∀i,i<q.new.length->H (base+i)=none):
 Yields P o e w (λv w'=>Good ρ H G w (di H q.up base q.new) (q.r base) v w'):=by
 unfold akh at h;split at h;rename_i x ho;have hx:=hd x (by simp[ho,Op.operands]);simp only[plain,RM.eval,Option.some.injEq]at h;subst h;unfold Yields;simp only[execOp,ho,Sem.run_pure,mh];exact Good.val hs hx;rename_i x ho;have hx:=hd x (by simp[ho,Op.operands]);simp only[plain,RM.eval,Option.some.injEq]at h;subst h;unfold Yields;simp only[execOp,ho,Sem.run_pure,mh];exact Good.val hs hx;rename_i c a b ho;obtain⟨⟨n,r⟩,h1,rfl⟩:=pd h;have⟨t,h2,h3⟩:=akk h1 (hd c (by simp[ho,Op.operands])) (hd a (by simp[ho,Op.operands])) (hd b (by simp[ho,Op.operands]));unfold Yields;simp only[execOp,ho,h2,asBool,mh];cases t<;>simp at h3 ⊢ <;>exact Good.val hs h3;rename_i t ho;exact dj (aiM h hs hb (.tuple #[])) (by simp only[execOp,ho]);rename_i t x ho;exact dj (aoq h hs (hd x (by simp[ho,Op.operands])) hb) (by simp only[execOp,ho]);rename_i t x ho;exact bM hs (aoA h hn (hd x (by simp[ho,Op.operands]))) (by simp only[execOp,ho]) base;rename_i t ps ho;exact bM hs (aiN h hn (λp hp=>hd p.2 (by rw[ho];exact zq hp))) (by simp only[execOp,ho]) base;rename_i t n ps ho;exact dj (wa h hs (λp hp=>hd p.2 (by rw[ho];exact zq hp)) hb) (by simp only[execOp,ho]);rename_i t a ho;exact bM hs (ab5 h hn hs (hd a (by simp[ho,Op.operands]))) (by simp only[execOp,ho]) base;rename_i t a x ho;have⟨w',h1,h2⟩:=aiL h hs (hd a (by simp[ho,Op.operands])) (hd x (by simp[ho,Op.operands]));unfold Yields;simp only[execOp,ho,Sem.run_bind,h1,andThen_ok,Sem.run_pure];exact h2 base;rename_i x ho;have⟨h1,h2,h3,h4⟩:=aaH (P:=P) h hn (hd x (by simp[ho,Op.operands])) e o x ho rfl;unfold Yields;rw[h3,h1,h2,mh];exact Good.val hs (h4 base);rename_i op t x y ty ho;obtain⟨⟨n,r⟩,h1,rfl⟩:=pd h;have⟨v,h2,h3⟩:=agD (ox:=x) (oy:=y) h1 hn (hd x (by simp[ho,Op.operands])) (hd y (by simp[ho,Op.operands]));exact bM hs ⟨rfl,rfl,v,h2,λ_=>h3⟩ (by simp only[execOp,ho]) base;rename_i op t x ho;obtain⟨⟨n,r⟩,h1,rfl⟩:=pd h;have⟨v,h2,h3⟩:=aso (P:=P) h1 hn (hd x (by simp[ho,Op.operands]));exact bM hs ⟨rfl,rfl,v,h2,λ_=>h3⟩ (by simp only[execOp,ho]) base;rename_i a b x ho;rw[cond_eq_ite]at h;split at h;exact dj (ack h hn hs (hd x (by simp[ho,Op.operands])) base) (by simp only[execOp,ho]);exact bM hs (aca h hn hs (hd x (by simp[ho,Op.operands]))) (by simp only[execOp,ho]) base;rename_i t x ho;exact bM hs (acm h hn (hd x (by simp[ho,Op.operands]))) (by simp only[execOp,ho]) base;rename_i x ho;exact bM hs (ai0 h hn hs (hd x (by simp[ho,Op.operands]))) (by simp only[execOp,ho]) base;rename_i fn a b ho;refine bM hs (aaI h hn (oa a.toList (λx hx=>hd x (by simp[ho,Op.operands,Array.mem_toList_iff.1 hx]))) (oa b.toList (λx hx=>hd x (by simp[ho,Op.operands,Array.mem_toList_iff.1 hx])))) ?_ base;have e1:∀a:Array Operand,(a.toList.map e).toArray=a.map e:=λa=>by apply toList_inj.1;simp
 simp only[execOp,ho,e1];rename_i t x l hi m ho;refine bM hs (aiE hs h hn (hd x (by simp[ho,Op.operands])) (aff (l:=l) (λy hy=>hd y (by simp[ho,Op.operands,hy]))) (aff (l:=hi) (λy hy=>hd y (by simp[ho,Op.operands,hy]))) (aff (l:=m) (λy hy=>hd y (by simp[ho,Op.operands,hy])))) (by simp only[execOp,ho]) base;rename_i t x f ho;exact bM hs (yq h hn (hd x (by simp[ho,Op.operands]))) (by simp only[execOp,ho]) base;rename_i t x f ho;exact bM hs (aiD h hn (hd x (by simp[ho,Op.operands]))) (by simp only[execOp,ho]) base;rename_i t x i ho;exact bM hs (yr h hn hs (hd x (by simp[ho,Op.operands])) (hd i (by simp[ho,Op.operands]))) (by simp only[execOp,ho]) base;rename_i t x i ho;exact bM hs (aiB h hn (hd x (by simp[ho,Op.operands])) (hd i (by simp[ho,Op.operands]))) (by simp only[execOp,ho]) base;rename_i x i ho;exact bM hs (ab7 h hn (hd x (by simp[ho,Op.operands]))) (by simp only[execOp,ho]) base;rename_i t x i ok ho;exact bM hs (afd h hn hs (hd x (by simp[ho,Op.operands])) (hd i (by simp[ho,Op.operands]))) (by simp only[execOp,ho]) base;rename_i t x i v ho;have⟨w',h1,h2⟩:=pT h hs (hd x (by simp[ho,Op.operands])) (hd i (by simp[ho,Op.operands])) (hd v (by simp[ho,Op.operands]));unfold Yields;simp only[execOp,ho,Sem.run_bind,h1,andThen_ok,Sem.run_pure];exact h2 base;rename_i t x i v ho;have⟨w',h1,h2⟩:=pT h hs (hd x (by simp[ho,Op.operands])) (hd i (by simp[ho,Op.operands])) (hd v (by simp[ho,Op.operands]));unfold Yields;simp only[execOp,ho,Sem.run_bind,h1,andThen_ok,Sem.run_pure];exact h2 base;rename_i t r ho;have⟨h1,h2⟩:=acj h hs hb
 have hr:r=none:=by cases r with
  |none=>rfl
  |some x=>cases h1
 subst hr;exact dj h2 (by simp only[execOp,ho];rfl);rename_i t l c ho;exact dj (yx h hn hs (hd l (by simp[ho,Op.operands])) (hd c (by simp[ho,Op.operands])) hb) (by simp only[execOp,ho]);rename_i c ho;split at h;rename_i f hc;have hf:=hd f (by simp[ho,Op.operands,Call.operands,hc]);have gB:∀x∈c.args.toList,ak ρ H (bd ρ H G) w (ev x) (e x):=λx hx=>hd x (by simp[ho,Op.operands,Call.operands,hc,Array.mem_toList_iff.1 hx]);have hl:=oa c.args.toList gB;have e1:(c.args.toList.map e).toArray=c.args.map e:=by apply toList_inj.1;simp
 split at h;rename_i g hg;rw[hg]at hf;have hf':=aC (by simp) hf;unfold ze at h;rw[cond_eq_ite]at h;have hv:=aaW hf';split at h;rename_i gI;have ad:=hS base g _ H q gI h hn ρ G w _ hb hz hs hl;unfold Yields
 have jf:(execOp e o).run P w=.ok (.enter g (c.args.toList.map e).toArray) w:=by
  rw[e1];simp[execOp,ho,resolve,hc,hv,Deferred.ofValue,invoke,iC gI]
 rw[jf];exact ad;have⟨v,k1,k2,k3,k4⟩:=m5 h hn hs hl;rw[e1]at k1;refine bM (s:=pure v) hs ⟨k2,k3,v,by simp,k4⟩ ?_ base;simp[execOp,ho,resolve,hc,hv,Deferred.ofValue,invoke,k1];rename_i g dF hg;rw[hg]at hf;unfold ak at hf;have⟨vs,hv,rq⟩:=hf;unfold ze at h;rw[cond_eq_ite]at h;split at h;rename_i gI;have ad:=hS base g _ H q gI h hn ρ G w _ hb hz hs (jJ hl rq);unfold Yields
 have jf:(execOp e o).run P w=.ok (.enter g (c.args.toList.map e++vs).toArray) w:=by
  have e2:(c.args.toList.map e++vs).toArray=c.args.map e++vs.toArray:=by apply toList_inj.1;simp
  rw[e2];simp[execOp,ho,resolve,hc,hv,Deferred.ofValue,invoke,iC gI]
 rw[jf];exact ad;have⟨v,k1,k2,k3,k4⟩:=m5 h hn hs (jJ hl rq);have e2:(c.args.toList.map e++vs).toArray=c.args.map e++vs.toArray:=by apply toList_inj.1;simp
 rw[e2]at k1;refine bM (s:=pure v) hs ⟨k2,k3,v,by simp,k4⟩ ?_ base;simp[execOp,ho,resolve,hc,hv,Deferred.ofValue,invoke,k1];rename_i g dF hg;rw[hg]at hf;unfold ak at hf;have⟨vs,hv,rq⟩:=hf;unfold ze at h;rw[cond_eq_ite]at h;split at h;rename_i gI;have ad:=hS base g _ H q gI h hn ρ G w _ hb hz hs (jJ rq hl);unfold Yields
 have jf:(execOp e o).run P w=.ok (.enter g (vs++c.args.toList.map e).toArray) w:=by
  have e2:(vs++c.args.toList.map e).toArray=vs.toArray++c.args.map e:=by apply toList_inj.1;simp
  rw[e2];simp[execOp,ho,resolve,hc,hv,Deferred.ofValue,invoke,iC gI]
 rw[jf];exact ad;have⟨v,k1,k2,k3,k4⟩:=m5 h hn hs (jJ rq hl);have e2:(vs++c.args.toList.map e).toArray=vs.toArray++c.args.map e:=by apply toList_inj.1;simp
 rw[e2]at k1;refine bM (s:=pure v) hs ⟨k2,k3,v,by simp,k4⟩ ?_ base;simp[execOp,ho,resolve,hc,hv,Deferred.ofValue,invoke,k1];cases h;rename_i b hc;have gB:∀x∈c.args.toList,ak ρ H (bd ρ H G) w (ev x) (e x):=λx hx=>hd x (by simp[ho,Op.operands,Call.operands,hc,Array.mem_toList_iff.1 hx])
 have jf:(execOp e o).run P w=(builtin b c.argTypes o.type (c.args.map λ|.const _=>true|_=>false) (c.args.map e)).run P w:=by
  simp[execOp,ho,resolve,hc,invoke];rfl
 unfold ab0 at h;split at h;rename_i t ts x hts hx
 obtain⟨y,hy,rfl⟩:∃y,c.args.toList=[y]/\ev y=x:=by
  cases hl:c.args.toList with
  |nil=>rw[hl]at hx;simp at hx
  |cons y l=>
   rw[hl]at hx;simp only[map_cons,List.cons.injEq,List.map_eq_nil_iff]at hx;exact⟨y,by rw[hx.2],hx.1⟩
 have ea:c.args.map e= #[e y]:=by apply toList_inj.1;simp[hy]
 have et:c.argTypes=(t::ts).toArray:=by apply toList_inj.1;simp[hts]
 refine bM hs (aol (ty:=o.type) (ts:=ts) h hn hs (gB y (by simp[hy]))) ?_ base;rw[jf,ea,et];rfl;rename_i t ts x hts hx
 obtain⟨y,hy,rfl⟩:∃y,c.args.toList=[y]/\ev y=x:=by
  cases hl:c.args.toList with
  |nil=>rw[hl]at hx;simp at hx
  |cons y l=>
   rw[hl]at hx;simp only[map_cons,List.cons.injEq,List.map_eq_nil_iff]at hx;exact⟨y,by rw[hx.2],hx.1⟩
 have ea:c.args.map e= #[e y]:=by apply toList_inj.1;simp[hy]
 have et:c.argTypes=(t::ts).toArray:=by apply toList_inj.1;simp[hts]
 refine bM hs (aom (ty:=o.type) (ts:=ts) h hn hs (gB y (by simp[hy]))) ?_ base;rw[jf,ea,et];rfl;rename_i t t' x y hts hx
 obtain⟨x0,y0,hl,rfl,rfl⟩:∃x0 y0,c.args.toList=[x0,y0]/\ev x0=x/\ev y0=y:=by
  match hl:c.args.toList with
  |[]=>rw[hl]at hx;simp at hx
  |[_]=>rw[hl]at hx;simp at hx
  |[a,b]=>rw[hl]at hx;simp at hx;exact⟨a,b,rfl,hx.1,hx.2⟩
  |_::_::_::_=>rw[hl]at hx;simp at hx
 have ea:c.args.map e= #[e x0,e y0]:=by apply toList_inj.1;simp[hl]
 have et:c.argTypes= #[t,t']:=by apply toList_inj.1;simp[hts]
 rw[cond_eq_ite]at h;split at h;rename_i hz
 have hzero:(∃e',P.underlying t'=some (.slice e'))\/P.underlying t'=some .string:=by
  unfold aaz at hz;split at hz;rename_i e' he;exact .inl ⟨e',he⟩;rename_i he;exact .inr he;cases hz
 refine dj (afb (ty:=o.type) h hn hs (gB x0 (by simp[hl])) (gB y0 (by simp[hl])) hzero hb) ?_;rw[jf,ea,et];rfl;refine dj (acr (ty:=o.type) h hn hs (gB x0 (by simp[hl])) (gB y0 (by simp[hl])) hb) ?_;rw[jf,ea,et];rfl;rename_i x y hx
 obtain⟨x0,y0,hl,rfl,rfl⟩:∃x0 y0,c.args.toList=[x0,y0]/\ev x0=x/\ev y0=y:=by
  match hl:c.args.toList with
  |[]=>rw[hl]at hx;simp at hx
  |[_]=>rw[hl]at hx;simp at hx
  |[a,b]=>rw[hl]at hx;simp at hx;exact⟨a,b,rfl,hx.1,hx.2⟩
  |_::_::_::_=>rw[hl]at hx;simp at hx
 have ea:c.args.map e= #[e x0,e y0]:=by apply toList_inj.1;simp[hl]
 refine bM hs (agA (ts:=c.argTypes) (ty:=o.type) h hn (gB x0 (by simp[hl])) (gB y0 (by simp[hl]))) ?_ base;rw[jf,ea];rfl;rename_i x y hx
 obtain⟨x0,y0,hl,rfl,rfl⟩:∃x0 y0,c.args.toList=[x0,y0]/\ev x0=x/\ev y0=y:=by
  match hl:c.args.toList with
  |[]=>rw[hl]at hx;simp at hx
  |[_]=>rw[hl]at hx;simp at hx
  |[a,b]=>rw[hl]at hx;simp at hx;exact⟨a,b,rfl,hx.1,hx.2⟩
  |_::_::_::_=>rw[hl]at hx;simp at hx
 have ea:c.args.map e= #[e x0,e y0]:=by apply toList_inj.1;simp[hl]
 refine bM hs (agA (ts:=c.argTypes) (ty:=o.type) h hn (gB x0 (by simp[hl])) (gB y0 (by simp[hl]))) ?_ base;rw[jf,ea];rfl;rename_i t t' x y hts hx
 obtain⟨x0,y0,hl,rfl,rfl⟩:∃x0 y0,c.args.toList=[x0,y0]/\ev x0=x/\ev y0=y:=by
  match hl:c.args.toList with
  |[]=>rw[hl]at hx;simp at hx
  |[_]=>rw[hl]at hx;simp at hx
  |[a,b]=>rw[hl]at hx;simp at hx;exact⟨a,b,rfl,hx.1,hx.2⟩
  |_::_::_::_=>rw[hl]at hx;simp at hx
 have ea:c.args.map e= #[e x0,e y0]:=by apply toList_inj.1;simp[hl]
 have et:c.argTypes= #[t,t']:=by apply toList_inj.1;simp[hts]
 rw[cond_eq_ite]at h;split at h;rw[cond_eq_ite]at h;split at h;have⟨v,w',h1,h2⟩:=aiZ (ty:=o.type) (t':=t') h hn hs (gB x0 (by simp[hl])) (gB y0 (by simp[hl]));refine dj ⟨v,w',h1,h2 base⟩ ?_;rw[jf,ea,et];rfl;have⟨v,w',h1,h2⟩:=akA (ty:=o.type) (t':=t') h hs (gB x0 (by simp[hl])) (gB y0 (by simp[hl]));refine dj ⟨v,w',h1,h2 base⟩ ?_;rw[jf,ea,et];rfl;cases h;rename_i t ts x hts hx
 obtain⟨y,hy,rfl⟩:∃y,c.args.toList=[y]/\ev y=x:=by
  cases hl:c.args.toList with
  |nil=>rw[hl]at hx;simp at hx
  |cons y l=>
   rw[hl]at hx;simp only[map_cons,List.cons.injEq,List.map_eq_nil_iff]at hx;exact⟨y,by rw[hx.2],hx.1⟩
 have ea:c.args.map e= #[e y]:=by apply toList_inj.1;simp[hy]
 have et:c.argTypes=(t::ts).toArray:=by apply toList_inj.1;simp[hts]
 have⟨v,w',h1,h2⟩:=aiW (ty:=o.type) (ts:=ts) h hs (gB y (by simp[hy]));refine dj ⟨v,w',h1,h2 base⟩ ?_;rw[jf,ea,et];rfl;cases h;cases h;cases h
theorem RM.mu{α:Type}{id:Nat}:∀(m:RM α),(m.ae0 id).eval H=m.eval (aF H id .aB)
 |.ret a=>rfl
 |.aA j k=>by
  simp only[RM.ae0,RM.eval,cond_eq_ite,aF];by_cases h:j=id;subst h;rw[if_pos (Nat.beq_refl _),if_pos rfl];exact RM.mu _;rw[if_neg (by simpa using h),if_neg h];simp only[RM.eval];exact RM.mu _
 |.fail w=>rfl
theorem bg.aq8(gy:∀b,O' b->O b){x:SV}{v:Value}(h:bg O w x v):bg O' w x v:=h.step (λb hb=>.inl (gy b hb)) (λ_ _ _=>rfl) (le_refl _)
theorem rr(hs:Sat ρ H G w){id:Nat}{c:a8}{e:TypeId}(ho:H id=some (.aq c e)):bg (bd ρ (aF H id .aB) G) w (.ro c) (ρ id):=by
 have e9:=hs.obj id _ ho;have⟨a,cap,hr,h2,h3,h4⟩:=e9;have akJ:∀b,bd ρ (aF H id .aB) G b->bd ρ H G b:=λb hb=>hb.imp fA (λx=>x);rw[hr];by_cases hc:cap=0;have h0:c.n=0:=by omega
 have:=bg.ro (O:=bd ρ (aF H id .aB) G) (w:=w) c a cap (λ_ _=>undef) 0 0 h2 h3 (λh=>by omega) (λi j hi hj=>by omega) (λi j hi hj=>by omega);exact this;obtain⟨b,o,cells,fr,us,rfl,g1,g2,g3,g4⟩:=h4.resolve_left hc;have mR:fp (ρ id)=some b:=by rw[hr];simp only[fp];rw[if_neg hc]
 refine bg.ro c _ cap us b o h2 h3 (λ_=>⟨rfl,λhb=> ?_,(Array.getElem?_eq_some_iff.1 g1).1⟩) (λi j hi hj=> ?_) (λi j hi hj=> ?_);rcases hb with⟨j,x,hx,ha,hb⟩|hb;by_cases hj:j=id;subst hj;simp only[aF,if_true,Option.some.injEq]at hx;subst hx;cases ha;simp only[aF,hj,if_false]at hx;exact hj (hs.inj j id x _ b hx ho ha rfl hb mR);exact hs.apart b ⟨id,_,ho,rfl,mR⟩ hb;rw[dJ g1];exact(g4 i j hi hj).1;exact(g4 i j hi hj).2.aq8 akJ
theorem RM.m6{id:Nat}:∀(m:RM b8) {q:b8},(m.mV id).eval H=some q->∃q',m.eval H=some q'/\q={q' with up:=(id,.aB)::q'.up}
 |.ret a,q,h=>by
  simp only[RM.mV,RM.eval,Option.some.injEq]at h;exact⟨a,rfl,h.symm⟩
 |.aA j k,q,h=>by
  simp only[RM.mV,RM.eval]at h ⊢;exact RM.m6 _ h
 |.fail w,q,h=>by simp[RM.mV,RM.eval]at h
theorem Yields.imp{o:Oper}{e:Operand->Value}{R R':Value->World->Prop}(h:Yields P o e w R)(hr:∀v w',R v w'->R' v w'):Yields P o e w R':=by
 unfold Yields at h ⊢;split at h;exact hr _ _ h;exact hr _ _ h;exact h.mono λen w'' ⟨v,he,hv⟩=>⟨v,he,hr _ _ hv⟩;exact h
theorem zr(hS:SOk P S Z){base:Nat}{o:Oper}:∀(ids:List Nat) {H:aV} {ev:Operand->AV} {q:b8},(giveUp ids ev λev=>akh P (S base) ev o).eval H=some q->bT q.ab->ZAt Z ρ H w->Sat ρ H G w->
 ∀{e:Operand->Value},(∀x∈o.op.operands,ak ρ H (bd ρ H G) w (ev x) (e x))->(∀i,i<q.new.length->H (base+i)=none)->
 Yields P o e w (λv w'=>Good ρ H G w (di H q.up base q.new) (q.r base) v w')
 |[],H,ev,q,h,hn,hz,hs,e,hd,hb=>agE hS h hn hz hs hd hb
 |id::ids,H,ev,q,h,hn,hz,hs,e,hd,hb=>by
  simp only[giveUp,RM.eval]at h;split at h;rename_i c el ho;obtain⟨q',h1,rfl⟩:=RM.m6 _ h;rw[RM.mu]at h1;have st:=fz (ρ:=ρ) (G:=G) (w:=w) ho;have hz1:ZAt Z ρ (aF H id .aB) w:=⟨hz.1,λb hb hO=>hz.2 b hb (fA hO)⟩
  have hb1:∀j,j<q'.new.length->aF H id .aB (base+j)=none:=λj hj=>by
   have:=hb j hj;simp only[aF];split;rename_i e1;rw[e1,ho]at this;cases this;exact this
  have hd1:∀x∈o.op.operands,ak ρ (aF H id .aB) (bd ρ (aF H id .aB) G) w (aki id c ev x) (e x):=λx hx=>by
   have h0:=hd x hx;have h2:=ak.step st _ _ h0;unfold aki;split;rename_i j hj;rw[cond_eq_ite];split;rename_i hji;have hji:j=id:=by simpa using hji
   subst hji;rw[hj]at h0;have⟨a,cap,hv,hr,_⟩:=js hs ho h0;have:=rr hs ho;rw[hr]at this;exact aJ this;rw[hj]at h2;exact h2;exact h2
  refine(zr hS ids h1 hn hz1 (hs.kill ho) hd1 hb1).imp λv w' hg=> ?_
  have afg:di H ((id,.aB)::q'.up) base q'.new=di (aF H id .aB) q'.up base q'.new:=by
   funext j;simp only[di,cK,aF];cases cK q'.up j with
   |some x=>rfl
   |none=>
    simp only[];by_cases hj:j=id;subst hj
    have te:¬(base<=j/\j<base+q'.new.length):=by
     rintro⟨k1,k2⟩;have:=hb (j - base) (by simp only[];omega);rw[show base+(j - base)=j from by omega,ho]at this;cases this
    simp[te];simp[hj]
  simp only[];rw[afg];exact Good.after st (λb hb=>fA hb) hg;simp[RM.eval]at h
theorem akK(hS:SOk P S Z){base:Nat}{o:Oper}{ev:Operand->AV}{q:b8}(h:(uL P (S base) ev o).eval H=some q)(hn:bT q.ab)(hz:ZAt Z ρ H w)(hs:Sat ρ H G w){e:Operand->Value}
 (hd:∀x∈o.op.operands,ak ρ H (bd ρ H G) w (ev x) (e x)) (hb:∀i,i<q.new.length->H (base+i)=none):
 Yields P o e w (λv w'=>Good ρ H G w (di H q.up base q.new) (q.r base) v w'):=by
 unfold uL at h;split at h;rename_i op t x y ty ho;have hx:=mf (hd x (by simp[ho,Op.operands]));have hy:=hd y (by simp[ho,Op.operands]);rw[cond_eq_ite]at h;split at h;rename_i hi;exact bM hs (aon (ox:=x) (oy:=y) h hn hs hx (akm hy hi)) (by simp only[execOp,ho]) base;rw[cond_eq_ite]at h;split at h;exact bM hs (ae3 (t:=t) (ox:=x) (oy:=y) h hn hx hy) (by simp only[execOp,ho]) base;obtain⟨⟨n,r⟩,h1,rfl⟩:=pd h;have⟨v,h2,h3⟩:=agD (ox:=x) (oy:=y) h1 hn hx hy;exact bM hs ⟨rfl,rfl,v,h2,λ_=>h3⟩ (by simp only[execOp,ho]) base;exact zr hS _ h hn hz hs (λx hx=>mf (hd x hx)) hb;exact agE hS h hn hz hs (λx hx=>mf (hd x hx)) hb
end
structure St where
 ah:List AV
 H:List au
def jg(ah:List AV):Operand->AV
 |.tmp t=>ah.getD t (.s .bk)
 |.const (.slice none 0 0)=>.s .qb
 |.const v=>aau v
 |.global _=>.s .bk
 |.func f=>.s (.qW f)
def St.aA(s:St):aV:=λid=>s.H[id]?
def ob(H:List au):List (Nat×au)->List au
 |[]=>H
 |(id,o)::us=>ob (H.set id o) us
def dd(ah:List AV):Option Tmp->AV->List AV
 |some d,v=>ah.set d v
 |none,_=>ah
def St.put(s:St)(dst:Option Tmp)(r:b8):St:=
 {ah:=dd s.ah dst (r.r s.H.length),H:=ob s.H r.up++r.new}
structure Lp where
 ps:List Tmp
 asg:Code
 body:Code
inductive mw where
 |ready
 |busy
 |done (c:Code)
structure tl where
 f:Option FuncId
 n:Nat
 ch:Bool
 aY:Nat
 lp:Option (Lp×mw)
 todo:List Item
 ad:Nat×Nat
structure ur where
 f:Option FuncId:=none
 ch:Bool:=false
 aY:Nat:=0
 below:List tl:=[]
 rid:Nat:=0
structure cn where
 ah:List AV
 H:List au
 todo:List Item
 stk:ur:={}
def iD:Code->Option Nat
 |.region id _ _=>some id
 |.seq a b=>match iD a with
  |some i=>some i
  |none=>iD b
 |.cond _ a b=>match iD a with
  |some i=>some i
  |none=>iD b
 |.block _ c|.loop c|.scope c=>iD c
 |_=>none
def agF(k:ur)(id:Nat):Nat:=match k.f with
 |none=>id
 |some g=>(g+1)*100000+id
def fK:Nat:=1000000000
def aaX:Nat:=1000000000000000
def ia(b:Bool):Nat:=bif b then 1 else 0
def tl.size(d:tl):Nat:=d.n+ia d.ch+d.aY+ia d.lp.isSome
def agG:List tl->Nat
 |[]=>0
 |d::ds=>d.size+agG ds
def ur.extra(k:ur):Nat:=ia k.ch+k.aY
def akL(k:ur)(id j:Nat):Nat:=aaX+(agF k id*1000+j)
def cn.n(c:cn):Nat:=c.ah.length - (c.stk.extra+agG c.stk.below)
def ur.plain(k:ur):Bool:= !k.ch&&k.aY.beq 0&&k.below.isEmpty
def ur.fn(P:Program)(fn:Func)(k:ur):Option Func:=match k.f with
 |none=>some fn
 |some g=>P.funcs[g]?
inductive Tree where
 |ab (p:Prop) (t:Tree)
 |ite (b:Bool) (t e:Tree)
 |both (p q:Prop) (t e:Tree)
 |ret (H:List au) (v:AV)
 |at(c:cn)
 |stuck (why:String)
def Tree.zt:List Prop->Tree->Tree
 |[],t=>t
 |p::ps,t=>.ab p (zt ps t)
def uu(us:List (Nat×au)):List Nat:=us.map (·.1)
def zu(n:Nat)(us:List (Nat×au)):Bool:=us.all λx=>x.1.blt n
structure Touch where
 i:Nat
 rd:List Nat
 wr:List Nat
def Touch.agH(a b:Touch):Bool:=a.wr.any (λx=>b.rd.contains x||b.wr.contains x)||b.wr.any (λx=>a.rd.contains x)
def oc(id:Nat)(c:a8):AV->AV
 |.aq j=>bif j.beq id then .s (.ro c)else .aq j
 |a=>a
def od(id:Nat)(c:a8):AV->AV
 |.agg aD=>.agg (aD.map (oc id c))
 |.aq j=>bif j.beq id then .s (.ro c)else .aq j
 |a=>a
def acv(id:Nat)(c:a8):au->au
 |.ay aD e=>.ay (aD.map (oc id c)) e
 |o=>o
def acw(s:St)(id:Nat):St:=
 match s.H[id]? with
 |some (.aq c _)=>⟨s.ah.map (od id c),(s.H.map (acv id c)).set id .aB⟩
 |_=>s
def afh:AV->List Nat
 |.agg aD=>aD.filterMap λa=>match a with
  |.aq j=>some j
  |_=>none
 |.aq j=>[j]
 |_=>[]
def iE(s:St)(o:Oper):St:=
 match o.op with
 |.buildSlice _ _ ps=>(ps.toList.flatMap λp=>afh (jg s.ah p.2)).foldl acw s
 |.store _ a x=>match jg s.ah a with
  |.gU _ _ _=>(afh (jg s.ah x)).foldl acw s
  |_=>s
 |_=>s
def lZ(P:Program)(S:fO)(ops:Array Oper)(cont:St->List Touch->Tree):Nat->List Oper->St->List Touch->Tree
 |_,[],s,tr=>cont s tr
 |i,o::rest,s,tr=>
  let go (s:St):Tree:=
   let m:=uL P (S s.H.length) (jg s.ah) o
   match m.eval s.aA with
   |some r=>bif zu s.H.length r.up then .zt r.ab (lZ P S ops cont (i+1) rest (s.put o.dst r) (⟨i,m.ids s.aA,uu r.up++(List.range r.new.length).map (s.H.length+·)⟩::tr))else .stuck "up"
   |none=>.stuck (o.pos++ " " ++m.why s.aA)
  let skip (s:St):Tree:=lZ P S ops cont (i+1) rest {s with ah:=dd s.ah o.dst (.bD [])} tr
  match o.guard with
  |none=>go s
  |some (g,want)=>
   match(ops[g]?).bind (·.dst)with
   |none=>.stuck "guard"
   |some d=>
    match s.ah.getD d (.s .bk)with
    |.s (.aT b)=>bif b==want then go s else skip s
    |.s (.bool b)=>.ite b
     (bif want then go {s with ah:=s.ah.set d (.s (.aT true))}else skip {s with ah:=s.ah.set d (.s (.aT true))})
     (bif want then skip {s with ah:=s.ah.set d (.s (.aT false))}else go {s with ah:=s.ah.set d (.s (.aT false))})
    |.bD []=>skip s
    |_=>.stuck "guard: no truth"
def wu(ops:Array Oper):Nat->Nat->Nat->Bool
 |0,_,_=>false
 |n+1,i,j=>match ops[i]? with
  |some o=>(o.after.any λe=>Region.binds .any e&&e.on.beq j)||(o.after.any λe=>Region.binds .any e&&j.blt e.on&&wu ops n e.on j)
  |none=>false
def gQ(ops:Array Oper)(i j:Nat):Bool:=wu ops 9 i j
def jh(ops:Array Oper):List Touch->Bool
 |[]=>true
 |b::aS=>aS.all (λa=> !(a.agH b)||gQ ops b.i a.i)&&jh ops aS
def iF(ops:Array Oper):Bool:=
 (List.range ops.size).all λi=>(List.range ops.size).all λj=>
   match ops[i]?,ops[j]? with
   |some x,some y=>
    (i==j)||(match x.dst with
      |none=>true
      |some d=>(!(y.looksAt ops).contains d&& !(y.dst==some d))||(if i<j then gQ ops j i else gQ ops i j))
   |_,_=>false
def ei(ops:Array Oper):Bool:=
 (List.range ops.size).all λi=>match ops[i]? with
   |some o=>o.after.all λe=> !(Region.binds .any e)||e.on.blt i
   |none=>true
def wv(ops:Array Oper)(j:Nat):Bool:=(List.range ops.size).all λi=>i.blt j||(List.range i).all λk=>gQ ops i k
def aq9(ops:Array Oper):Nat->Nat
 |0=>0
 |i+1=>bif (List.range i).all (λk=>gQ ops i k)then aq9 ops i else i+1
def aoB(o:Oper):Bool:=
 match o.op with
 |.call c=>match c.callee with
  |.value (.tmp _)=>true
  |_=>false
 |_=>false
def cutAt(ops:Array Oper):Nat:=bif ops.toList.any aoB then aq9 ops ops.size else ops.size
def ru(o:Oper)(ev:Operand->AV):Option (AV×List AV):=
 match o.op with
 |.call c=>match c.callee with
  |.value f=>some (pQ (ev f),c.args.toList.map λx=>pQ (ev x))
  |_=>none
 |_=>none
def agI(o:Oper):Bool:=
 match o.op with
 |.range _ _|.next _ false=>true
 |_=>false
def lO(P:Program)(S:fO)(ops:Array Oper)(enter:St->Nat->Oper->Option Tree)(cont:St->Tree):Nat->List Oper->St->Tree
 |_,[],s=>cont s
 |i,o::rest,s=>
  let go (s:St):Tree:=
   match enter s i o with
   |some t=>t
   |none=>
    let s:=iE s o;let m:=uL P (S s.H.length) (jg s.ah) o
    match m.eval s.aA with
    |some r=>bif zu s.H.length r.up then .zt r.ab (lO P S ops enter cont (i+1) rest (s.put o.dst r))else .stuck "up"
    |none=>.stuck (o.pos++ " " ++m.why s.aA)
  let skip (s:St):Tree:=lO P S ops enter cont (i+1) rest {s with ah:=dd s.ah o.dst (.bD [])}
  match o.guard with
  |none=>go s
  |some (g,want)=>
   match(ops[g]?).bind (·.dst)with
   |none=>.stuck "guard"
   |some d=>
    match s.ah.getD d (.s .bk)with
    |.s (.aT b)=>bif b==want then go s else skip s
    |.s (.bool b)=>.ite b
     (bif want then go {s with ah:=s.ah.set d (.s (.aT true))}else skip {s with ah:=s.ah.set d (.s (.aT true))})
     (bif want then skip {s with ah:=s.ah.set d (.s (.aT false))}else go {s with ah:=s.ah.set d (.s (.aT false))})
    |.s (.lD n0 eq)=>.both (bif eq then n0=0 else True) (bif eq then True else n0=0)
     (bif want then go {s with ah:=s.ah.set d (.s (.aT true))}else skip {s with ah:=s.ah.set d (.s (.aT true))})
     (bif want then skip {s with ah:=s.ah.set d (.s (.aT false))}else go {s with ah:=s.ah.set d (.s (.aT false))})
    |.bD []=>skip s
    |_=>.stuck "guard: no truth"
def gJ(P:Program)(s:St):List ResultVar->Option (List AV)
 |[]=>some []
 |.tmp t::rs=>(gJ P s rs).map (s.ah.getD t (.s .bk):: ·)
 |.cell t T::rs=>match(agv P T (s.ah.getD t (.s .bk))).eval s.aA,gJ P s rs with
  |some r,some vs=>match r.ab,r.up,r.new with
   |[],[],[]=>some (r.r 0::vs)
   |_,_,_=>none
  |_,_=>none
def oneOf:List AV->AV
 |[v]=>v
 |vs=>.bD vs
def agJ(n:Nat)(ops:Array Oper)(o:Oper):Bool:=
 (o.looksAt ops).all (·.blt n)&&o.dst.all (·.blt n)&&(match o.op with|.select _ _=>false|.defer _=>false|_=>true)
def lP(n:Nat)(ops:Array Oper):Bool:=ops.toList.all (agJ n ops)
def iG(ops:Array Oper):Bool:=ops.toList.all λo=>match o.op with|.defer _=>false|_=>true
def kY(id:Nat):List tl->List AV->Option (tl×Lp×mw×List AV)
 |[],_=>none
 |d::ds,vs=>
  match d.lp with
  |some (L,st)=>(match vs.getD (d.n+ia d.ch+d.aY) (.s .bk)with
   |.tag j=>bif j.beq id then some (d,L,st,vs.take d.n)else kY id ds (vs.drop d.size)
   |_=>kY id ds (vs.drop d.size))
  |none=>kY id ds (vs.drop d.size)
def jK(id:Nat)(qR:mw):List tl->List AV->List tl
 |[],_=>[]
 |d::ds,vs=>
  match d.lp with
  |some (L,_)=>(match vs.getD (d.n+ia d.ch+d.aY) (.s .bk)with
   |.tag j=>bif j.beq id then{d with lp:=some (L,qR)}::ds else d::jK id qR ds (vs.drop d.size)
   |_=>d::jK id qR ds (vs.drop d.size))
  |none=>d::jK id qR ds (vs.drop d.size)
def l5{α:Type}(c8:List α)(ps:List Tmp)(args:List α):List α:=(ps.zip args).foldl (λt x=>t.set x.1 x.2) c8
def resume(c:cn)(v:AV)(below:List tl)(k:cn->Tree):Tree:=
 match below with
 |d::ds=>
  match d.lp,d.todo with
  |none,.inRegion ops (i::rest)::td=>
   let dst:=(ops[i]?).bind (·.dst)
   bif dst.all (·.blt d.n)then k {ah:=dd (c.ah.drop (c.n+c.stk.extra)) dst v,H:=c.H,todo:=.inRegion ops rest::td,stk:=⟨d.f,d.ch,d.aY,ds,d.ad.1⟩}else .stuck "resume: slot"
  |_,_=>.stuck "resume"
 |[]=>.stuck "resume: nobody waits"
def agK(c:cn)(v:AV)(k:cn->Tree):Tree:=
 match c.stk.below with
 |[]=>bif c.stk.f.isNone then .ret c.H v else .stuck "whose end?"
 |d::ds=>
  match d.lp with
  |none=>resume c v c.stk.below k
  |some (_,.busy)=>.stuck "the round is not done"
  |some (_,st)=>
   let vs:=c.ah.drop (c.n+c.stk.extra);let m:=d.n+ia d.ch+d.aY
   k {ah:=vs.take m++vs.drop (m+1),H:=c.H,todo:=(match st with|.done j=>[.code j]|_=>[])++d.todo,stk:=⟨d.f,d.ch,d.aY,ds,0⟩}
def acx(c:cn)(jump:Option Code)(k:cn->Tree):Tree:=
 match c.ah.getD c.n (.s .bk)with
 |.tag id=>bif c.stk.aY.beq 0 then
  match kY id c.stk.below (c.ah.drop (c.n+c.stk.extra))with
  |some _=>resume c (.s (.aT jump.isNone)) (jK id (match jump with|none=>.ready|some j=>.done j) c.stk.below (c.ah.drop (c.n+c.stk.extra))) k
  |none=>.stuck "round: no loop"
  else .stuck "round: marks"
 |_=>.stuck "round: no yield"
def oe(P:Program)(c:cn)(f:FuncId)(args:List AV)(wait:tl)(k:cn->Tree):Tree:=
 match P.funcs[f]? with
 |some g=>bif jB P f&&args.length.ble g.ntmps then
  k {ah:=args++replicate (g.ntmps - args.length) (.bD [])++c.ah,H:=c.H,todo:=[.code (g.body.getD .skip)],stk:=⟨some f,false,0,wait::c.stk.below,0⟩}
  else .stuck "enter: no body"
 |none=>.stuck "enter: no function"
def aaY(c:cn)(id:Nat)(args:List AV)(wait:tl)(k:cn->Tree):Tree:=
 match kY id c.stk.below (c.ah.drop (c.n+c.stk.extra))with
 |some (d,L,_,c8)=>bif args.length.beq L.ps.length&&L.ps.all (·.blt d.n)then
  k {ah:=l5 c8 L.ps args++.tag id::c.ah,H:=c.H,todo:=[.code L.asg,.beginRound,.code L.body],stk:=⟨d.f,true,0,wait::c.stk.below,0⟩}
  else .stuck "yield: arguments"
 |none=>.stuck "yield: no loop"
def aaZ(P:Program)(c:cn)(f:FuncId)(dF:List AV)(L:Lp)(todo:List Item)(k:cn->Tree):Tree:=
 bif c.stk.ch then .stuck "range: in a round" else
 let id:=c.H.length;let wait:tl:=⟨c.stk.f,c.n,false,c.stk.aY+1,some (L,.ready),todo,((iD L.body).getD 0,0)⟩
 oe P {c with ah:=c.ah.take c.n++.tag id::((c.ah.drop c.n).take c.stk.aY++.tag (id+1)::c.ah.drop (c.n+c.stk.aY)),H:=c.H++[.aB]++[.aB]} f (.tag (id+1)::dF) wait k
def exec(P:Program)(S:fO)(fn:Func)(stop:Nat->Bool)(inl:FuncId->Bool):Nat->Bool->cn->Tree
 |0,_,c=>.at c
 |n+1,first,c=>
  let to (k:List Item):Tree:=exec P S fn stop inl n first {c with todo:=k}
  let go (c:cn):Tree:=exec P S fn stop inl n false c
  let back:Tree:=
   match c.stk.fn P fn with
   |some g=>(match gJ P ⟨c.ah.take c.n,c.H⟩ g.results.toList with
    |some vs=>agK c (oneOf vs) go
    |none=>.stuck "results")
   |none=>.stuck "results: whose?"
  let ops (first:Bool) (id:Nat) (ops:Array Oper) (i:Nat) (k:List Item):Tree:=
   bif iG ops&&(c.stk.plain||lP c.n ops)then
    lO P S ops (λs j o=>
     let c':cn:={c with ah:=s.ah,H:=s.H};let wait:tl:=⟨c.stk.f,c.n,c.stk.ch,c.stk.aY,none,.inRegion ops (range' j (ops.size - j))::k,(id,j)⟩
     bif stop (akL c.stk id j)&& !(first&&j.beq i)then some (.at {c' with todo:=.inRegion ops (range' j (ops.size - j))::k,stk:={c.stk with rid:=id}})else
     match ru o (jg s.ah)with
     |some (g,args)=>(match g with
      |.s (.qW f)=>bif inl f then some (oe P c' f args wait go)else none
      |.fn f dF=>bif inl f then some (oe P c' f (args++dF) wait go)else none
      |.tag y=>some (aaY c' y args wait go)
      |_=>none)
     |none=>bif agI o then some (.at {c' with todo:=.inRegion ops (range' j (ops.size - j))::k,stk:={c.stk with rid:=id}})else none) (λs=>exec P S fn stop inl n first {c with ah:=s.ah,H:=s.H,todo:=k,stk:={c.stk with rid:=0}}) i (ops.toList.drop i) ⟨c.ah,c.H⟩
   else .stuck "region: slots"
  match c.todo with
  |[]=>bif c.stk.ch then acx c none go else back
  |.code .ret::_=>bif c.stk.ch then acx c (some .ret) go else back
  |.code .skip::k|.code (.label _)::k|.inBlock _::k|.inScope _::k=>to k
  |.code (.seq a b)::k=>to (.code a::.code b::k)
  |.code (.block id body)::k=>to (.code body::.inBlock id::k)
  |.code (.scope body)::k=>to (.code body::.inScope body::k)
  |.code (.exit id)::k=>match exitTo id k with
   |some k'=>to k'
   |none=>bif c.stk.ch then acx c (some (.exit id)) go else .stuck "exit"
  |.code (.cond (.tmp t) a b)::k=>
   bif c.stk.plain||t.blt c.n then
   match c.ah.getD t (.s .bk)with
   |.s (.aT x)=>to (.code (bif x then a else b)::k)
   |.s (.bool x)=>.ite x (exec P S fn stop inl n first {c with ah:=c.ah.set t (.s (.aT true)),todo:=.code a::k}) (exec P S fn stop inl n first {c with ah:=c.ah.set t (.s (.aT false)),todo:=.code b::k})
   |.s (.lD n0 eq)=>.both (bif eq then n0=0 else True) (bif eq then True else n0=0) (exec P S fn stop inl n first {c with ah:=c.ah.set t (.s (.aT true)),todo:=.code a::k}) (exec P S fn stop inl n first {c with ah:=c.ah.set t (.s (.aT false)),todo:=.code b::k})
   |_=>.stuck "cond"
   else .stuck "cond: slot"
  |.code (.region id rs draw)::k=>
   bif !first&&stop (agF c.stk id)then .at c else
   bif draw then
    (bif iF rs&&ei rs&&iG rs&&(c.stk.plain||lP c.n rs)then
      bif (cutAt rs).blt rs.size&&wv rs (cutAt rs)then
       lZ P S rs (λs tr=>bif jh rs tr then exec P S fn stop inl n false {c with ah:=s.ah,H:=s.H,todo:=.inRegion rs (range' (cutAt rs) (rs.size - cutAt rs))::k,stk:={c.stk with rid:=id}}else .stuck "order") 0 (rs.toList.take (cutAt rs)) ⟨c.ah,c.H⟩ []
      else
      lZ P S rs (λs tr=>bif jh rs tr then exec P S fn stop inl n false {c with ah:=s.ah,H:=s.H,todo:=k}else .stuck "order") 0 rs.toList ⟨c.ah,c.H⟩ []
    else .stuck "slots")
   else ops false id rs 0 k
  |.inRegion rs todo::k=>bif todo.length.ble rs.size&&todo==range' (rs.size - todo.length) todo.length then ops first c.stk.rid rs (rs.size - todo.length) k else .stuck "in a region"
  |.beginRound::k=>bif c.stk.ch then
   match c.ah.getD c.n (.s .bk)with
   |.tag id=>(match kY id c.stk.below (c.ah.drop (c.n+c.stk.extra))with
    |some (_,_,.ready,_)=>exec P S fn stop inl n first {c with todo:=k,stk:={c.stk with below:=jK id .busy c.stk.below (c.ah.drop (c.n+c.stk.extra))}}
    |_=>.stuck "round: not ready")
   |_=>.stuck "round: no yield" else .stuck "round"
  |.code (.rangeFunc (.tmp t) ps asg body)::k=>
   bif c.stk.plain||t.blt c.n then
   match c.ah.getD t (.s .bk)with
   |.s (.qW f)=>aaZ P c f [] ⟨ps.toList,asg,body⟩ k go
   |.fn f dF=>aaZ P c f dF ⟨ps.toList,asg,body⟩ k go
   |_=>.stuck "range: over what?"
   else .stuck "range: slot"
  |.code (.loop body)::k|.inLoop body::k=>bif stop (fK+agF c.stk ((iD body).getD 0))then exec P S fn stop inl n first {c with todo:=.code body::.inLoop body::k}else .at {c with todo:=.code body::.inLoop body::k}
  |_=>.at c
def start(fn:Func)(args:List AV)(H:List au):cn:=
 {ah:=args++replicate (fn.ntmps - args.length) (.bD []),H:=H,todo:=[.code (fn.body.getD .skip)]}
def cT(P:Program)(f:FuncId)(R:Ending->World->Prop)(b:Frame)(a:Act)(k:List Item)(fs:List Frame)(w:World):Prop:=
 ∀cs,∃e w' fr,R e w'/\Comes P (lone (b.atR a k) (fs++cs) w) (lone fr cs w') e/\fr.fn=f/\fr.leaving P w' e
theorem cT.steps{P:Program}{f:FuncId}{R:Ending->World->Prop}{b b':Frame}{a a':Act}{k k':List Item}{fs qS:List Frame}{w w':World}
 (hs:∀cs,Steps P (lone (b.atR a k) (fs++cs) w) (lone (b'.atR a' k') (qS++cs) w')) (h:cT P f R b' a' k' qS w'):cT P f R b a k fs w:=by
 intro cs;have⟨e,w2,fr,h1,h2,h3⟩:=h cs;exact⟨e,w2,fr,h1,Comes.of_steps (hs cs) h2,h3⟩
theorem cT.step{P:Program}{f:FuncId}{R:Ending->World->Prop}{b b':Frame}{a a':Act}{k k':List Item}{fs qS:List Frame}{w w':World}
 (hs:∀cs,step P (lone (b.atR a k) (fs++cs) w)=.next (lone (b'.atR a' k') (qS++cs) w')) (h:cT P f R b' a' k' qS w'):cT P f R b a k fs w:=
 cT.steps (λcs=>.one (hs cs)) h
theorem ju{P:Program}{f:FuncId}{fn:Func}{c:Code}{args:Array Value}{w:World}{R:Ending->World->Prop}(hf:P.funcs[f]? =some fn)(hb:fn.body=some c)
 (h:cT P f R {(default:Frame)with fn:=f,kind:=.normal,roundOf:=none} {ah:=args++Array.replicate (fn.ntmps - args.size) undef,defers:=[]} [.code c] [] w):Calls P f args w R:=by
 intro cs
 have gg:Frame.enter P f args .normal=Frame.atR {(default:Frame)with fn:=f,kind:=.normal,roundOf:=none} {ah:=args++Array.replicate (fn.ntmps - args.size) undef,defers:=[]} [.code c]:=by
  simp[Frame.enter,Frame.atR,hf,hb]
 have⟨e,w',fr,h1,h2,h3,h4⟩:=h cs;rw[gg];exact⟨e,w',fr,h1,h2,h3,h4⟩
structure Ctx where
 ρ:Nat->Value
 H:aV
 G:Nat->Prop
 w:World
 E:List (Nat×Obj):=[]
def eO(Z:bB)(X:Ctx):Prop:=Z.ok X.w/\∀b,b∈Z.bs->¬Own X.ρ X.H b
def Ctx.at(X:Ctx)(G:Nat->Prop)(E:List (Nat×Obj)):Ctx:=⟨X.ρ,X.H,G,X.w,E⟩
theorem eO.at{Z:bB}{X:Ctx}(h:eO Z X)(G:Nat->Prop)(E:List (Nat×Obj)):eO Z (X.at G E):=h
theorem zed{Z:bB}{X:Ctx}{w:World}{ρ:Nat->Value}{H:aV}(h:eO Z X)(k:Frm X.ρ X.H X.w w)(hs:Sat ρ H X.G w)(st:Step X.ρ X.H (bd X.ρ X.H X.G) X.w ρ H (bd ρ H X.G) w):ZAt Z ρ H w:=by
 refine⟨Z.fq X.w w h.1 λb hb=>k.heap b (Z.low _ h.1 b hb) (h.2 b hb),λb hb ho=> ?_⟩;rcases st.gy b (.inl ho)with(h1|h1)|h1;exact h.2 b hb h1;exact hs.apart b ho h1;have:=Z.low _ h.1 b hb;omega
def Kept(X:Ctx)(w:World):Prop:=∀x∈X.E,X.G x.1/\X.w.heap.size<=x.1/\w.heap[x.1]? =some x.2
theorem Kept.jQ{X:Ctx}{ρ:Nat->Value}{H:aV}{w w':World}(h:Kept X w)(hs:Sat ρ H X.G w)(k:Frm ρ H w w'):Kept X w':=λx hx=>by
 have⟨h1,h0,h2⟩:=h x hx;exact⟨h1,h0,by rw[k.heap x.1 (Array.getElem?_eq_some_iff.1 h2).1 (λho=>hs.apart _ ho h1)];exact h2⟩
structure cF (X:Ctx) (ρ:Nat->Value) (s:St) (a:Act) (w:World):Prop where
 sat:Sat ρ s.aA X.G w
 size:s.ah.length=a.ah.size
 den:∀t,ak ρ s.aA (bd ρ s.aA X.G) w (s.ah.getD t (.s .bk)) (a.ah.getD t undef)
 defers:a.defers=[]
 ax:Step X.ρ X.H (bd X.ρ X.H X.G) X.w ρ s.aA (bd ρ s.aA X.G) w
 jQ:Frm X.ρ X.H X.w w
 bc:Kept X w
def Tree.ba(K:List au->AV->Prop)(C:cn->Prop):Tree->Prop
 |.ab p t=>p/\t.ba K C
 |.ite b t e=>(b=true->t.ba K C)/\(b=false->e.ba K C)
 |.both p q t e=>(p->t.ba K C)/\(q->e.ba K C)
 |.ret H v=>K H v
 |.at c=>C c
 |.stuck _=>False
def ku(X:Ctx)(K:List au->AV->Prop)(e:Ending)(w':World):Prop:=
 ∃v,e=.returned v/\∃(L:List au) (r:AV),K L r/\Good X.ρ X.H X.G X.w (λid=>L[id]?) r v w'
def pU(D:Nat):Deferred:={target:=.collected D,args:= #[]}
def ey(D:Nat):Value:=.pointer (some ⟨D,0,none⟩)
def cH(l:Nat):Value:=.func (.yield l) #[] #[]
def mw.gC(st:mw)(L:Lp)(fn:FuncId)(ah:Array Value)(defers:Nat):Loop:=
 {state:=match st with|.ready=>.ready|.busy=>.busy|.done _=>.done,pending:=match st with|.done c=>some c|_=>none,fn,ah,params:=L.ps.toArray,assign:=L.asg,body:=L.body,defers}
structure akM (f:FuncId) (ch:Bool) (v0 rv:List Value) (Ds:List Nat) (E:List (Nat×Obj)) (b:Frame) (a:Act):Prop where
 fr:∃r,b={(default:Frame)with fn:=f,kind:=.normal,roundOf:=r}/\(match ch with|true=>∃l,rv=[cH l]/\r=some l|false=>rv=[]/\r=none)
 act:a={ah:=v0.toArray,defers:=Ds.map pU}
 ghost:E=Ds.map λD=>(D,.deferred (some []))
def WfS(f0:FuncId):List tl->List Value->List (Nat×Obj)->List Frame->Prop
 |[],vs,E,fs=>vs=[]/\E=[]/\fs=[]
 |d::ds,vs,E,fs=>∃(v0 rv v2:List Value) (Ds:List Nat) (E1 E2:List (Nat×Obj)) (b:Frame) (a:Act) (fs2:List Frame) (lv:List Value) (lE:List (Nat×Obj)) (todo:List Item),
   vs=v0++(rv++(Ds.map ey++(lv++v2)))/\E=E1++(lE++E2)/\fs=b.atR a todo::fs2/\v0.length=d.n/\Ds.length=d.aY/\
   akM (d.f.getD f0) d.ch v0 rv Ds E1 b a/\WfS f0 ds v2 E2 fs2/\
   (match d.lp with
    |none=>lv=[]/\lE=[]/\todo=d.todo
    |some (L,st)=>∃l D,lv=[cH l]/\lE=[(l,.loop (st.gC L (d.f.getD f0) v0.toArray D))]/\todo=.inRangeFunc l::d.todo)
def Wf(f0:FuncId)(k:ur)(vs:List Value)(E:List (Nat×Obj))(b:Frame)(a:Act)(fs:List Frame):Prop:=
 (E.map (·.1)).Nodup/\∃(v0 rv v2:List Value) (Ds:List Nat) (E1 E2:List (Nat×Obj)),vs=v0++(rv++(Ds.map ey++v2))/\E=E1++E2/\Ds.length=k.aY/\
   akM (k.f.getD f0) k.ch v0 rv Ds E1 b a/\WfS f0 k.below v2 E2 fs
def Safe(P:Program)(f:FuncId)(X:Ctx)(K:List au->AV->Prop)(c:cn):Prop:=
 ∀(G:Nat->Prop) (E:List (Nat×Obj)) ρ a w,(∀b,X.G b->G b)->(∀b,G b->X.G b\/X.w.heap.size<=b)->cF (X.at G E) ρ ⟨c.ah,c.H⟩ a w->
  ∀b a' fs,Wf f c.stk a.ah.toList E b a' fs->cT P f (ku X K) b a' c.todo fs w
section
variable{ρ aQ:Nat->Value}{H H':aV}{G O O':Nat->Prop}{w w':World}{P:Program}{S:fO}{Z:bB}{X:Ctx}{s:St}{a:Act}{K:List au->AV->Prop}{C:cn->Prop}
theorem afi(v:Value):ak ρ H O w (aau v) v:=by
 have one:∀v:Value,ak ρ H O w ((qX v).getD (.s .bk)) v:=by
  intro v;cases h:qX v with
  |none=>unfold ak;trivial
  |some x=>
   have hc:=vZ (ρ:=ρ) (H:=H) (O:=O) (w:=w) h;simp only[getD_some];unfold qX at h;split at h;simp only[Option.some.injEq]at h;subst h;unfold ak;exact⟨_,rfl⟩;simp only[map_eq_some_iff]at h;obtain⟨y,h3,rfl⟩:=h;exact aJ (aaM h3)
 unfold aau;split;rename_i cs;cases h:qY cs.toList with
 |none=>unfold ak;trivial
 |some aS=>unfold ak;exact⟨cs.toList,by simp,nY _ h⟩
 exact one v
theorem wx(T:List AV)(v:Value):ak ρ H O w (jg T (.const v)) v:=by
 unfold jg;split;exact absurd ‹_› (by simp);rename_i h;cases h;exact aJ .qb;rename_i h;cases h;exact afi v;exact absurd ‹_› (by simp);exact absurd ‹_› (by simp)
theorem cF.ev(h:cF X ρ s a w)(x:Operand):ak ρ s.aA (bd ρ s.aA X.G) w (jg s.ah x) (a.eval x):=by
 cases x with
 |tmp t=>exact h.den t
 |const v=>exact wx _ v
 |global g=>unfold jg ak;trivial
 |func f=>exact aJ (.qW f)
theorem dh{α:Type}(l:List α)(d t:Nat)(x y:α):(l.set d x).getD t y=if t=d/\d<l.length then x else l.getD t y:=by
 simp only[List.getD,getElem?_set];by_cases h:d=t;subst h;by_cases h2:d<l.length;simp[h2];simp[h2];have:¬(t=d/\d<l.length):=λe=>h e.1.symm;simp[h,this]
theorem aa0(l:Array Value)(d t:Nat)(x:Value):(l.setIfInBounds d x).getD t undef=if t=d/\d<l.size then x else l.getD t undef:=by
 simp only[getD_eq_getD_getElem?,Array.getElem?_setIfInBounds];by_cases h:d=t;subst h;by_cases h2:d<l.size;simp[h2];simp[h2];have:¬(t=d/\d<l.size):=λe=>h e.1.symm;simp[h,this]
theorem ry{ah:List AV}{arr:Array Value}(cq:ah.length=arr.size)(h:∀t,ak ρ H O w (ah.getD t (.s .bk)) (arr.getD t undef))(dst:Option Tmp){r:AV}{v:Value}(hr:ak ρ H O w r v)(df:List Deferred):
 (dd ah dst r).length=((Act.put ⟨arr,df⟩ dst v).ah).size/\∀t,ak ρ H O w ((dd ah dst r).getD t (.s .bk)) ((Act.put ⟨arr,df⟩ dst v).ah.getD t undef):=by
 cases dst with
 |none=>exact⟨cq,h⟩
 |some d=>
  simp only[dd,Act.put];refine⟨by simp[cq],λt=> ?_⟩;rw[dh,aa0,cq];split;exact hr;exact h t
theorem afj(us:List (Nat×au)):∀(L:List au) (j:Nat),j<L.length->(ob L us)[j]? =match cK us j with|some o=>some o|none=>L[j]? :=by
 induction us with
 |nil=>intro L j h;rfl
 |cons u us ih=>
  have⟨id,o⟩:=u;intro L j h;simp only[ob,cK];rw[ih _ _ (by simpa using h)];cases cK us j with
  |some x=>rfl
  |none=>
   by_cases hj:j=id;subst hj;simp[h];simp[hj,Ne.symm hj]
theorem l6(us:List (Nat×au)):∀(L:List au),(ob L us).length=L.length:=by
 induction us with
 |nil=>intro L;rfl
 |cons u us ih=>intro L;have⟨id,o⟩:=u;simp only[ob];rw[ih];simp
def akN(n:Nat)(us:List (Nat×au)):Prop:=∀j,n<=j->cK us j=none
theorem acy(s:St)(dst:Option Tmp)(q:b8)(hu:akN s.H.length q.up):(s.put dst q).aA=di s.aA q.up s.H.length q.new:=by
 funext j;simp only[St.aA,St.put,di];by_cases hj:j<s.H.length;rw[getElem?_append_left (by rw[l6];exact hj),afj _ _ _ hj];cases cK q.up j with
 |some o=>rfl
 |none=>rw[if_neg (by omega)]
 rw[getElem?_append_right (by rw[l6];omega),l6,hu j (by omega)];by_cases h2:j<s.H.length+q.new.length;simp only[show s.H.length<=j/\j<s.H.length+q.new.length from⟨by omega,h2⟩,and_self,if_true];have e1:q.new[j - s.H.length]? =none:=getElem?_eq_none (by omega);have e2:s.H[j]? =none:=getElem?_eq_none (by omega);rw[e1,if_neg (by omega)];exact e2.symm
theorem Frm.trans(h:cF X ρ s a w)(k:Frm ρ s.aA w w'):Frm X.ρ X.H X.w w':=by
 refine⟨k.os.trans h.jQ.os,k.tape.trans h.jQ.tape,k.output.trans h.jQ.output,λb hb hO=> ?_⟩;rw[k.heap b (by have:=h.ax.size;omega) (λho=> ?_),h.jQ.heap b hb hO];rcases h.ax.gy b (.inl ho)with(h1|h1)|h1;exact hO h1;exact h.sat.apart b ho h1;omega
theorem ai2{o:Oper}{R:Value->World->Prop}{next:Act->World->Prop}{Q:Exit->Act->World->Prop}(h:Yields P o a.eval w R)(hn:∀v w',R v w'->next (a.put o.dst v) w'):o.wp P a w next Q:=by
 unfold Yields at h;unfold Oper.wp Oper.upon;split at h;rename_i v w2 hr;rw[hr];exact hn _ _ h;rename_i w2 hr;rw[hr];exact hn _ _ h;rename_i f args w2 hr;rw[hr];refine h.mono λen w'' ⟨v,he,hv⟩=> ?_;subst he;exact hn _ _ hv;exact h.elim
theorem cF.op(hS:SOk P S Z)(nB:eO Z X)(h:cF X ρ s a w){o:Oper}{q:b8}(hq:(uL P (S s.H.length) (jg s.ah) o).eval s.aA=some q)(hn:bT q.ab)(hu:akN s.H.length q.up):
 Yields P o a.eval w (λv w'=>∃aQ,cF X aQ (s.put o.dst q) (a.put o.dst v) w'):=by
 have dK:∀i,i<q.new.length->s.aA (s.H.length+i)=none:=λi _=>by simp[St.aA]
 have:=akK (base:=s.H.length) hS hq hn (zed nB h.jQ h.sat h.ax) h.sat (e:=a.eval) (λx _=>h.ev x) dK;unfold Yields at *
 have ad:∀v w',Good ρ s.aA X.G w (di s.aA q.up s.H.length q.new) (q.r s.H.length) v w'->∃aQ,cF X aQ (s.put o.dst q) (a.put o.dst v) w':=by
  rintro v w' ⟨aQ,h1,h2,h3,h4⟩;have hl:=acy s o.dst q hu;rw[<-hl]at h1 h2 h3;have⟨arr,df⟩:=a;have hp:=ry (ρ:=aQ) (H:=(s.put o.dst q).aA) (O:=bd aQ (s.put o.dst q).aA X.G) (w:=w') h.size (λt=>ak.step h3 _ _ (h.den t)) o.dst h2 df;exact⟨aQ,h1,hp.1,hp.2,by have:=h.defers;cases o.dst<;>exact this,h.ax.trans h3,Frm.trans h h4,h.bc.jQ h.sat h4⟩
 split at this;exact ad _ _ this;exact ad _ _ this;exact this.mono λen w'' ⟨v,he,hv⟩=>⟨v,he,ad _ _ hv⟩;exact this
end
section
variable{ρ aQ:Nat->Value}{H H':aV}{G O O':Nat->Prop}{w w':World}{P:Program}{S:fO}{Z:bB}{X:Ctx}{s:St}{a:Act}{K:List au->AV->Prop}{C:cn->Prop}
theorem og:∀(ps:List Prop) (t:Tree),(Tree.zt ps t).ba K C->bT ps/\t.ba K C
 |[],t,h=>⟨trivial,h⟩
 |p::ps,t,h=>by
  have⟨h1,h2⟩:=h;have⟨h3,h4⟩:=og ps t h2;exact⟨⟨h1,h3⟩,h4⟩
theorem akO{n:Nat}{us:List (Nat×au)}(h:zu n us=true):akN n us:=by
 unfold zu at h;intro j hj
 induction us with
 |nil=>rfl
 |cons u us ih=>
  have⟨id,o⟩:=u;simp only[all_cons,and_eq_true]at h;have h1:id<n:=by simpa[Nat.blt,Nat.lt_iff_add_one_le]using h.1
  simp only[cK];rw[ih h.2,if_neg (by omega)]
theorem cF.skip(h:cF X ρ s a w)(dst:Option Tmp):cF X ρ {s with ah:=dd s.ah dst (.bD [])} (a.put dst undef) w:=by
 have⟨arr,df⟩:=a;have hp:=ry (ρ:=ρ) (H:=s.aA) (O:=bd ρ s.aA X.G) (w:=w) h.size h.den dst (r:=.bD []) (v:=undef) cZ df;exact⟨h.sat,hp.1,hp.2,by have:=h.defers;cases dst<;>exact this,h.ax,h.jQ,h.bc⟩
theorem cF.refine(h:cF X ρ s a w){d:Nat}{x y:AV}(hx:s.ah.getD d (.s .bk)=x)(hxy:∀v,ak ρ s.aA (bd ρ s.aA X.G) w x v->ak ρ s.aA (bd ρ s.aA X.G) w y v):cF X ρ {s with ah:=s.ah.set d y} a w:=by
 refine⟨h.sat,by simp[h.size],λt=> ?_,h.defers,h.ax,h.jQ,h.bc⟩;simp only[];rw[dh];split;rename_i hc;obtain⟨rfl,_⟩:=hc;have:=h.den t;rw[hx]at this;exact hxy _ this;exact h.den t
theorem cF.aa1(h:cF X ρ s a w){d:Nat}{x y:AV}(hx:s.ah.getD d (.s .bk)=x)(hxy:ak ρ s.aA (bd ρ s.aA X.G) w y (a.ah.getD d undef)):cF X ρ {s with ah:=s.ah.set d y} a w:=by
 refine⟨h.sat,by simp[h.size],λt=> ?_,h.defers,h.ax,h.jQ,h.bc⟩;simp only[];rw[dh];split;rename_i hc;obtain⟨rfl,_⟩:=hc;exact hxy;exact h.den t
theorem cF.drew(h:cF X ρ s a w):cF X ρ s a {w with drawn:=w.drawn+1}:=by
 have st:Step ρ s.aA (bd ρ s.aA X.G) w ρ s.aA (bd ρ s.aA X.G) {w with drawn:=w.drawn+1}:=
  ⟨λ_ _ _=>rfl,λ_ o h=>⟨o,h,λc' e' e=>⟨c',e',e,rfl,rfl⟩⟩,λ_ h=>.inl h,λ_ _ _=>rfl,le_refl _⟩
 refine⟨⟨λid o ho=>(h.sat.obj id o ho).step st (λ_ _ _=>rfl),h.sat.inj,h.sat.apart,h.sat.low⟩,h.size,λt=>ak.step st _ _ (h.den t),h.defers,h.ax.trans st,⟨h.jQ.os,h.jQ.tape,h.jQ.output,h.jQ.heap⟩,h.bc⟩
theorem oh(h:cF X ρ s a w){d:Nat}{b:Bool}(hx:s.ah.getD d (.s .bk)=.s (.aT b)):a.ah[d]? =some (.bool b):=by
 have h1:=h.den d;rw[hx]at h1;have h2:=aC (by simp) h1
 have bA:d<s.ah.length:=by
  rcases lt_or_ge d s.ah.length with h3|h3;exact h3;rw[List.getD,getElem?_eq_none h3]at hx;simp at hx
 rw[h.size]at bA;have h4:a.ah.getD d undef=a.ah[d]:=by simp[Array.getD,bA]
 rw[h4]at h2;rw[Array.getElem?_eq_getElem bA];generalize a.ah[d]=u at h2;cases h2;rfl
theorem ai3(h:cF X ρ s a w){d:Nat}(hx:s.ah.getD d (.s .bk)=.bD []):a.ah[d]? =some undef:=by
 have h1:=h.den d;rw[hx]at h1
 have bA:d<s.ah.length:=by
  rcases lt_or_ge d s.ah.length with h3|h3;exact h3;rw[List.getD,getElem?_eq_none h3]at hx;simp at hx
 rw[h.size]at bA;have h4:a.ah.getD d undef=a.ah[d]:=by simp[Array.getD,bA]
 rw[h4]at h1;unfold ak at h1;have⟨us,h5,h6⟩:=h1;obtain rfl:=bo.1 h6;rw[Array.getElem?_eq_getElem bA,h5];rfl
theorem om{b:Bool}(v:Value)(h:ak ρ H O w (.s (.bool b)) v):ak ρ H O w (.s (.aT b)) v:=by
 have:=aC (by simp) h;cases this;exact aJ (.aT b)
end
section
variable{ρ aQ:Nat->Value}{H H':aV}{G O O':Nat->Prop}{w w':World}{P:Program}{S:fO}{Z:bB}{X:Ctx}{s:St}{a:Act}{K:List au->AV->Prop}{C:cn->Prop}{ops:Array Oper}
structure my (X:Ctx) (ρ:Nat->Value) (T:List AV) (H:aV) (a:Act) (w:World):Prop where
 sat:Sat ρ H X.G w
 size:T.length=a.ah.size
 den:∀t,ak ρ H (bd ρ H X.G) w (T.getD t (.s .bk)) (a.ah.getD t undef)
 defers:a.defers=[]
 ax:Step X.ρ X.H (bd X.ρ X.H X.G) X.w ρ H (bd ρ H X.G) w
 jQ:Frm X.ρ X.H X.w w
 bc:Kept X w
theorem cF.toF(h:cF X ρ s a w):my X ρ s.ah s.aA a w:=⟨h.sat,h.size,h.den,h.defers,h.ax,h.jQ,h.bc⟩
theorem Frm.asz{T:List AV}(h:my X ρ T H a w)(k:Frm ρ H w w'):Frm X.ρ X.H X.w w':=by
 refine⟨k.os.trans h.jQ.os,k.tape.trans h.jQ.tape,k.output.trans h.jQ.output,λb hb hO=> ?_⟩;rw[k.heap b (by have:=h.ax.size;omega) (λho=> ?_),h.jQ.heap b hb hO];rcases h.ax.gy b (.inl ho)with(h1|h1)|h1;exact hO h1;exact h.sat.apart b ho h1;omega
theorem my.op(hS:SOk P S Z)(nB:eO Z X){T Ti:List AV}(h:my X ρ T H a w){o:Oper}{q:b8}{base:Nat}(hq:(uL P (S base) (jg Ti) o).eval H=some q)(hn:bT q.ab)
 (hd:∀x∈o.op.operands,ak ρ H (bd ρ H X.G) w (jg Ti x) (a.eval x)) (hf:∀i,i<q.new.length->H (base+i)=none):
 Yields P o a.eval w (λv w'=>∃aQ,my X aQ (dd T o.dst (q.r base)) (di H q.up base q.new) (a.put o.dst v) w'):=by
 have:=akK (base:=base) hS hq hn (zed nB h.jQ h.sat h.ax) h.sat (e:=a.eval) hd hf;unfold Yields at *
 have ad:∀v w',Good ρ H X.G w (di H q.up base q.new) (q.r base) v w'->∃aQ,my X aQ (dd T o.dst (q.r base)) (di H q.up base q.new) (a.put o.dst v) w':=by
  rintro v w' ⟨aQ,h1,h2,h3,h4⟩;have⟨arr,df⟩:=a;have hp:=ry (ρ:=aQ) (H:=di H q.up base q.new) (O:=bd aQ (di H q.up base q.new) X.G) (w:=w') h.size (λt=>ak.step h3 _ _ (h.den t)) o.dst h2 df;exact⟨aQ,h1,hp.1,hp.2,by have:=h.defers;cases o.dst<;>exact this,h.ax.trans h3,Frm.asz h h4,h.bc.jQ h.sat h4⟩
 split at this;exact ad _ _ this;exact ad _ _ this;exact this.mono λen w'' ⟨v,he,hv⟩=>⟨v,he,ad _ _ hv⟩;exact this
def Ref(x y:AV):Prop:=x=y\/∃b,x=.s (.bool b)/\y=.s (.aT b)
theorem Ref.den{x y:AV}(h:Ref x y){v:Value}(hx:ak ρ H O w x v):ak ρ H O w y v:=by
 rcases h with rfl|⟨b,rfl,rfl⟩;exact hx;exact om _ hx
theorem Ref.trans{x y z:AV}(h:Ref x y)(k:Ref y z):Ref x z:=by
 rcases h with rfl|⟨b,rfl,rfl⟩;exact k;rcases k with rfl|⟨c,h1,rfl⟩;exact .inr ⟨b,rfl,rfl⟩;cases h1
theorem RM.eval_congr{α:Type}:∀(m:RM α),(∀id∈m.ids H,H' id=H id)->m.eval H'=m.eval H/\m.ids H'=m.ids H
 |.ret a,h=>⟨rfl,rfl⟩
 |.fail _,h=>⟨rfl,rfl⟩
 |.aA id k,h=>by
  simp only[RM.ids]at h;have e:=h id (by simp);have:=RM.eval_congr (k (H id)) (λj hj=>h j (by simp[hj]));simp only[RM.eval,RM.ids,e];exact⟨this.1,by rw[this.2]⟩
structure El where
 i:Nat
 o:Oper
 T:List AV
 q:Option b8
 base:Nat
 rd:List Nat
def El.wr(e:El):List Nat:=match e.q with
 |some q=>uu q.up++(List.range q.new.length).map (e.base+·)
 |none=>[]
def El.c8(e:El)(T:List AV):List AV:=dd T e.o.dst (match e.q with|some q=>q.r e.base|none=>.bD [])
def El.heap(e:El)(H:aV):aV:=match e.q with|some q=>di H q.up e.base q.new|none=>H
structure El.Ok (P:Program) (S:fO) (ops:Array Oper) (T:List AV) (H:aV) (e:El):Prop where
 op:ops[e.i]? =some e.o
 looks:∀t∈e.o.looksAt ops,Ref (T.getD t (.s .bk)) (e.T.getD t (.s .bk))
 guard:match e.o.guard with
  |none=>e.q.isSome=true
  |some (g,want)=>∃d,(ops[g]?).bind (·.dst)=some d/\((∃b,e.T.getD d (.s .bk)=.s (.aT b)/\e.q.isSome=(b==want))\/(e.T.getD d (.s .bk)=.bD []/\e.q=none))
 skip:e.q=none->e.rd=[]
 run:∀q,e.q=some q->(uL P (S e.base) (jg e.T) e.o).eval H=some q/\(uL P (S e.base) (jg e.T) e.o).ids H=e.rd/\bT q.ab/\∀j,j<q.new.length->H (e.base+j)=none
def oo(P:Program)(S:fO)(ops:Array Oper):List AV->aV->List El->List AV->aV->Prop
 |T,H,[],T',H'=>T=T'/\H=H'
 |T,H,e::es,T',H'=>e.Ok P S ops T H/\oo P S ops (e.c8 T) (e.heap H) es T' H'
structure acz (ops:Array Oper) (x y:El):Prop where
 s1:∀d,x.o.dst=some d->d ∉ y.o.looksAt ops/\y.o.dst≠some d
 s2:∀d,y.o.dst=some d->d ∉ x.o.looksAt ops
 h1:∀id∈x.wr,id ∉ y.rd/\id ∉ y.wr
 h2:∀id∈y.wr,id ∉ x.rd
theorem El.zv(e:El)(T:List AV){t:Nat}(h:e.o.dst≠some t):(e.c8 T).getD t (.s .bk)=T.getD t (.s .bk):=by
 unfold El.c8;cases hd:e.o.dst with
 |none=>rfl
 |some d=>
  simp only[dd];rw[dh,if_neg];rintro⟨rfl,_⟩;exact h hd
theorem acA{us:List (Nat×au)}{id:Nat}(h:id ∉ uu us):cK us id=none:=by
 induction us with
 |nil=>rfl
 |cons u us ih=>
  have⟨j,o⟩:=u;simp only[uu,map_cons,mem_cons,not_or]at h;simp only[cK];rw[ih h.2,if_neg (Ne.symm (Ne.symm h.1))]
theorem acB{us:List (Nat×au)}{id:Nat}(h:id∈uu us):∃o,cK us id=some o:=by
 induction us with
 |nil=>simp[uu]at h
 |cons u us ih=>
  have⟨j,o⟩:=u;simp only[uu,map_cons,mem_cons]at h;simp only[cK];cases hf:cK us id with
  |some x=>exact⟨x,rfl⟩
  |none=>
   rcases h with rfl|h;simp;have⟨o,ho⟩:=ih h;rw[ho]at hf;cases hf
theorem El.iH(e:El)(H:aV){id:Nat}(h:id ∉ e.wr):e.heap H id=H id:=by
 unfold El.wr at h;unfold El.heap;cases hq:e.q with
 |some q=>
  rw[hq]at h;simp only[mem_append,not_or,mem_map,mem_range,not_exists,not_and]at h;simp only[di,acA h.1];rw[if_neg];rintro⟨h1,h2⟩;exact h.2 (id - e.base) (by omega) (by omega)
 |none=>rfl
theorem El.agL(e:El)(H H':aV){id:Nat}(h:id∈e.wr):e.heap H id=e.heap H' id:=by
 unfold El.wr at h;unfold El.heap;cases hq:e.q with
 |some q=>
  rw[hq]at h;simp only[mem_append,mem_map,mem_range]at h;simp only[di];rcases h with h|⟨j,h1,rfl⟩;have⟨o,ho⟩:=acB h;rw[ho];cases cK q.up (e.base+j)with
  |some o=>rfl
  |none=>simp[h1]
 |none=>rw[hq]at h;simp at h
theorem akP{e:El}{q:b8}(hq:e.q=some q){j:Nat}(hj:j<q.new.length):e.base+j∈e.wr:=by
 unfold El.wr;rw[hq];simp only[mem_append,mem_map,mem_range];exact .inr ⟨j,hj,rfl⟩
theorem swap{T:List AV}{x y:El}(hx:x.Ok P S ops T H)(hy:y.Ok P S ops (x.c8 T) (x.heap H))(hi:acz ops x y):
 y.Ok P S ops T H/\x.Ok P S ops (y.c8 T) (y.heap H)/\y.c8 (x.c8 T)=x.c8 (y.c8 T)/\y.heap (x.heap H)=x.heap (y.heap H):=by
 refine⟨⟨hy.op,λt ht=> ?_,hy.guard,hy.skip,λq hq=> ?_⟩,⟨hx.op,λt ht=> ?_,hx.guard,hx.skip,λq hq=> ?_⟩, ?_, ?_⟩;have:=hy.looks t ht;rwa[El.zv x T (λe=>(hi.s1 t e).1 ht)]at this;have⟨h1,h2,h3,h4⟩:=hy.run q hq
 have hc:=RM.eval_congr (H:=x.heap H) (H':=H) (uL P (S y.base) (jg y.T) y.o) (λid dN=>by
  rw[h2]at dN;exact(El.iH x H (λhw=>(hi.h1 id hw).1 dN)).symm)
 refine⟨hc.1.trans h1,hc.2.trans h2,h3,λj hj=> ?_⟩;rw[<-h4 j hj];exact(El.iH x H (λhw=>(hi.h1 _ hw).2 (akP hq hj))).symm;rw[El.zv y T (λe=>hi.s2 t e ht)];exact hx.looks t ht;have⟨h1,h2,h3,h4⟩:=hx.run q hq
 have hc:=RM.eval_congr (H:=H) (H':=y.heap H) (uL P (S x.base) (jg x.T) x.o) (λid dN=>by
  rw[h2]at dN;exact El.iH y H (λhw=>hi.h2 id hw dN))
 refine⟨hc.1.trans h1,hc.2.trans h2,h3,λj hj=> ?_⟩;rw[El.iH y H (λhw=>(hi.h1 _ (akP hq hj)).2 hw)];exact h4 j hj;unfold El.c8;cases hd:x.o.dst with
 |none=>rfl
 |some d=>
  cases hd':y.o.dst with
  |none=>rfl
  |some d'=>
   simp only[dd];exact List.set_comm _ _ (λe=>(hi.s1 d hd).2 (by rw[hd',e]))
 funext id;by_cases h1:id∈x.wr;rw[El.iH y _ (hi.h1 id h1).2];exact El.agL x _ _ h1;rw[El.iH x _ h1];by_cases h2:id∈y.wr;exact El.agL y _ _ h2;rw[El.iH y _ h2,El.iH y _ h2,El.iH x _ h1]
theorem front{T':List AV}{H':aV}{x:El}{post:List El}:∀(pre:List El) {T:List AV} {H:aV},oo P S ops T H (pre++x::post) T' H'->(∀e∈pre,acz ops e x)->
 x.Ok P S ops T H/\oo P S ops (x.c8 T) (x.heap H) (pre++post) T' H'
 |[],T,H,h,_=>h
 |e::pre,T,H,h,hi=>by
  have⟨h1,h2⟩:=h;have⟨h3,h4⟩:=front pre h2 (λf hf=>hi f (by simp[hf]));have⟨h5,h6,h7,h8⟩:=swap h1 h3 (hi e (by simp));refine⟨h5,h6, ?_⟩;rw[h7,h8]at h4;exact h4
def qt(ops:Array Oper)(e f:El):Prop:=e.i<f.i/\(gQ ops f.i e.i=true\/acz ops e f)
theorem my.agM{T:List AV}(h:my X ρ T H a w){d:Nat}{b:Bool}{Ti:List AV}(hr:Ref (T.getD d (.s .bk)) (Ti.getD d (.s .bk)))(hx:Ti.getD d (.s .bk)=.s (.aT b)):a.ah[d]? =some (.bool b):=by
 have h1:=hr.den (h.den d);rw[hx]at h1;have h2:=aC (by simp) h1
 have bA:d<a.ah.size:=by
  rcases lt_or_ge d a.ah.size with h3|h3;exact h3;have:a.ah.getD d undef=undef:=by simp[Array.getD,Nat.not_lt.2 h3]
  rw[this]at h2;cases h2
 have h4:a.ah.getD d undef=a.ah[d]:=by simp[Array.getD,bA]
 rw[h4]at h2;rw[Array.getElem?_eq_getElem bA];generalize a.ah[d]=u at h2;cases h2;rfl
theorem my.ai4{T:List AV}(h:my X ρ T H a w){d:Nat}{Ti:List AV}(hr:Ref (T.getD d (.s .bk)) (Ti.getD d (.s .bk)))(hx:Ti.getD d (.s .bk)=.bD []):∀b,a.ah[d]? ≠some (.bool b):=by
 intro b hb;have h1:=hr.den (h.den d);rw[hx]at h1;have:a.ah.getD d undef=.bool b:=by simp[getD_eq_getD_getElem?,hb]
 rw[this]at h1;unfold ak at h1;have⟨us,h5,_⟩:=h1;cases h5
theorem akQ{o:Oper}{T Ti:List AV}(h:my X ρ T H a w)(hl:∀t∈o.looksAt ops,Ref (T.getD t (.s .bk)) (Ti.getD t (.s .bk))):∀x∈o.op.operands,ak ρ H (bd ρ H X.G) w (jg Ti x) (a.eval x):=by
 intro x hx;cases x with
 |tmp t=>
  refine(hl t ?_).den (h.den t);simp only[Oper.looksAt,mem_append,List.mem_filterMap];exact .inl ⟨.tmp t,by simpa using hx,rfl⟩
 |const v=>exact wx _ v
 |global g=>unfold jg ak;trivial
 |func f=>exact aJ (.qW f)
theorem my.skip{T:List AV}(h:my X ρ T H a w)(dst:Option Tmp):my X ρ (dd T dst (.bD [])) H (a.put dst undef) w:=by
 have⟨arr,df⟩:=a;have hp:=ry (ρ:=ρ) (H:=H) (O:=bd ρ H X.G) (w:=w) h.size h.den dst (r:=.bD []) (v:=undef) cZ df;exact⟨h.sat,hp.1,hp.2,by have:=h.defers;cases dst<;>exact this,h.ax,h.jQ,h.bc⟩
theorem agN(hS:SOk P S Z)(nB:eO Z X){T:List AV}{e:El}(he:e.Ok P S ops T H)(h:my X ρ T H a w){Kn:Act->World->Prop}{Q:Exit->Act->World->Prop}
 (hK:∀aQ a' w',my X aQ (e.c8 T) (e.heap H) a' w'->Kn a' w'):wpOp P ops Q e.i Kn a w:=by
 unfold wpOp;rw[he.op];simp only[];cases hq:e.q with
 |some q=>
  have hw:Region.wanted e.o (yielded ops a.ah)=true:=by
   have hg:=he.guard;split at hg;rename_i h0;simp[Region.wanted,h0];rename_i g want h0;have⟨d,h1,h2⟩:=hg;rcases h2 with⟨b,h2,h3⟩|⟨_,h3⟩;have hld:d∈e.o.looksAt ops:=by simp[Oper.looksAt,h0,h1]
   have:=h.agM (he.looks d hld) h2;rw[hq]at h3;simp only[Region.wanted,h0,yielded,h1,Option.bind_some,this];simpa using h3.symm;rw[hq]at h3;cases h3
  rw[if_pos hw];have⟨h1,h2,h3,h4⟩:=he.run q hq;refine .inl (ai2 (h.op hS nB h1 h3 (akQ h he.looks) h4) (λv w' ⟨aQ,eR⟩=>hK aQ _ w' ?_));simpa only[El.c8,El.heap,hq]using eR
 |none=>
  have hw:Region.wanted e.o (yielded ops a.ah)=false:=by
   have hg:=he.guard;split at hg;rename_i h0;rw[hq]at hg;cases hg;rename_i g want h0;have⟨d,h1,h2⟩:=hg;have hld:d∈e.o.looksAt ops:=by simp[Oper.looksAt,h0,h1]
   rcases h2 with⟨b,h2,h3⟩|⟨h2,h3⟩;have:=h.agM (he.looks d hld) h2;rw[hq]at h3;simp only[Region.wanted,h0,yielded,h1,Option.bind_some,this];have:(b==want)=false:=by simpa using h3.symm
   simpa using this;have:=h.ai4 (he.looks d hld) h2
   have hy:yielded ops a.ah g=none:=by
    simp only[yielded,h1,Option.bind_some]
    first
     |done
     |(split
       rename_i b hb;exact(this b hb).elim;rfl)
   simp only[Region.wanted,h0,hy];rfl
  rw[if_neg (by rw[hw];simp)];refine hK ρ _ w ?_;simpa only[El.c8,El.heap,hq]using h.skip e.o.dst
theorem jv{L:Nat->Prop}(hL:∀i o,ops[i]? =some o->L i->∀e∈o.after,Region.binds .any e=true->L e.on):∀(n:Nat) {i j:Nat} {o:Oper},ops[i]? =some o->(∀e∈o.after,Region.binds .any e=true->L e.on)->wu ops n i j=true->L j
 |0,i,j,o,ho,hd,h=>by cases h
 |n+1,i,j,o,ho,hd,h=>by
  simp only[wu,ho,Bool.or_eq_true,Array.any_eq_true]at h;rcases h with⟨k,hk,h⟩|⟨k,hk,h⟩;simp only[and_eq_true]at h;have:=hd _ (Array.getElem_mem hk) h.1;rwa[Nat.eq_of_beq_eq_true h.2]at this;simp only[and_eq_true]at h;have h1:=hd _ (Array.getElem_mem hk) h.1.1;cases dP:ops[(o.after[k]).on]? with
  |none=>
   have h2:=h.2;cases n with
   |zero=>cases h2
   |succ n=>simp only[wu,dP]at h2;cases h2
  |some o'=>exact jv hL n dP (hL _ o' dP h1) h.2
theorem aa2(hS:SOk P S Z)(nB:eO Z X)(heb:ei ops=true){T':List AV}{H':aV}{Q:Exit->Act->World->Prop}(hQ:∀aQ a' w',my X aQ T' H' a' w'->Q .normal a' w'):
 ∀(fuel:Nat) (listed:Array Bool) (es:List El) (T:List AV) (H:aV) (ρ:Nat->Value) (a:Act) (w:World),es.length=fuel->listed.size=ops.size->es.Pairwise (qt ops)->
 (∀i,i<ops.size->(listed.getD i true=false↔ ∃e∈es,e.i=i))->(∀i o,ops[i]? =some o->listed.getD i false=true->∀e∈o.after,Region.binds .any e=true->listed.getD e.on false=true)->my X ρ T H a w->oo P S ops T H es T' H'->wpAny P .any ops Q fuel listed a w:=by
 have gm:∀(listed:Array Bool) (i:Nat),i∈Region.ready .any ops listed->i<ops.size/\listed.getD i true=false/\∃o,ops[i]? =some o/\∀e∈o.after,Region.binds .any e=true->listed.getD e.on false=true:=by
  intro listed i hi;simp only[Region.ready,List.mem_filter,mem_range,and_eq_true]at hi;have⟨h1,h2,h3⟩:=hi;refine⟨h1,by simpa using h2, ?_⟩;cases ho:ops[i]? with
  |none=>rw[ho]at h3;simp at h3
  |some o=>
   rw[ho]at h3;simp only[map_some,getD_some,Array.all_eq_true]at h3;refine⟨o,rfl,λe he hb=> ?_⟩;obtain⟨n,hn,rfl⟩:=Array.mem_iff_getElem.1 he;have:=h3 n hn;rw[hb]at this;simpa using this
 have stop:∀(listed:Array Bool) (es:List El) (T:List AV) (H:aV),listed.size=ops.size->es.Pairwise (qt ops)->(∀i,i<ops.size->(listed.getD i true=false↔ ∃e∈es,e.i=i))->
  oo P S ops T H es T' H'->Region.ready .any ops listed=[]->es=[]:=by
  intro listed es T H cq hp hl hc hr;cases es with
  |nil=>rfl
  |cons e es=>
   exfalso;have ho:=hc.1.op;have bA:e.i<ops.size:=(Array.getElem?_eq_some_iff.1 ho).1
   have kr:e.i∈Region.ready .any ops listed:=by
    simp only[Region.ready,List.mem_filter,mem_range,and_eq_true];refine⟨bA,by simpa using(hl e.i bA).2 ⟨e,by simp,rfl⟩, ?_⟩;rw[ho];simp only[map_some,getD_some,Array.all_eq_true];intro n hn;have hb:ei ops=true:=heb;simp only[ei,all_eq_true,mem_range]at hb;have hb:=hb e.i bA;rw[ho]at hb;simp only[Array.all_eq_true]at hb;have hb:=hb n hn;cases hbi:Region.binds .any (e.o.after[n])with
    |false=>simp
    |true=>
     rw[hbi]at hb;have hon:(e.o.after[n]).on<e.i:=by simpa[Nat.blt,Nat.lt_iff_add_one_le]using hb
     have cX:¬(listed.getD (e.o.after[n]).on true=false):=by
      intro hf;have⟨f,hf1,hf2⟩:=(hl _ (by omega)).1 hf;rcases mem_cons.1 hf1 with rfl|hf1;omega;have:=(pairwise_cons.1 hp).1 f hf1;have:=this.1;omega
     have dv:(e.o.after[n]).on<listed.size:=by omega
     simp only[Array.getD,dv,dif_pos]at cX ⊢;simpa using cX
   rw[hr]at kr;simp at kr
 intro fuel
 induction fuel with
 |zero=>
  intro listed es T H ρ a w bK cq hp hl hdc afk hc;obtain rfl:es=[]:=List.length_eq_zero_iff.1 bK;obtain⟨rfl,rfl⟩:=hc;refine⟨?_,hQ _ _ _ afk⟩;rw[List.eq_nil_iff_forall_not_mem];intro i hi;have⟨h1,h2,_⟩:=gm listed i hi;have⟨e,he,_⟩:=(hl i h1).1 h2;simp at he
 |succ fuel ih=>
  intro listed es T H ρ a w bK cq hp hl hdc afk hc;refine⟨λhr=> ?_,λi hi=> ?_⟩;obtain rfl:=stop listed es T H cq hp hl hc hr;simp at bK;have⟨h1,h2,o,ho,h3⟩:=gm listed i hi;obtain⟨f,hf,rfl⟩:=(hl i h1).1 h2;obtain⟨pre,post,rfl⟩:=List.append_of_mem hf;have mz:∀e∈pre,qt ops e f:=λe he=>(List.pairwise_append.1 hp).2.2 e he f (by simp)
  have asA:∀e∈pre,acz ops e f:=by
   intro e he;rcases(mz e he).2 with h4|h4;exfalso;have h8:listed.getD e.i false=true:=jv (L:=λi=>listed.getD i false=true) hdc 9 ho h3 h4;have bA:e.i<ops.size:=by have:=(mz e he).1;omega
   have h9:=(hl e.i bA).2 ⟨e,by simp[he],rfl⟩;have dv:e.i<listed.size:=by omega
   simp only[Array.getD,dv,dif_pos]at h8 h9;rw[h8]at h9;cases h9;exact h4
  have⟨kv,hch⟩:=front pre hc asA;refine agN hS nB kv afk (λaQ a' w' eR=> ?_)
  have fq:∀j,listed.getD j false=true->(listed.setIfInBounds f.i true).getD j false=true:=λj hj=>by
   simp only[getD_eq_getD_getElem?,Array.getElem?_setIfInBounds]at hj ⊢;split;split<;>simp_all;exact hj
  have asB:∀i o,ops[i]? =some o->(listed.setIfInBounds f.i true).getD i false=true->∀e∈o.after,Region.binds .any e=true->(listed.setIfInBounds f.i true).getD e.on false=true:=by
   intro i o' dP fG e he hb;by_cases hif:i=f.i;subst hif;rw[ho]at dP;cases dP;exact fq _ (h3 e he hb);refine fq _ (hdc i o' dP ?_ e he hb);simp only[getD_eq_getD_getElem?,Array.getElem?_setIfInBounds,if_neg (Ne.symm hif)]at fG ⊢;exact fG
  refine ih _ (pre++post) _ _ aQ a' w' ?_ (by simp[cq]) ?_ ?_ asB eR hch;simp only[length_append,length_cons]at bK ⊢;omega;exact hp.sublist (List.Sublist.append (List.Sublist.refl _) (List.sublist_cons_self _ _));intro j hj
  have akE:∀e∈pre++post,e.i≠f.i:=by
   intro e he;rcases mem_append.1 he with he|he;have:=(mz e he).1;omega;have:=(pairwise_cons.1 (List.pairwise_append.1 hp).2.1).1 e he;have:=this.1;omega
  have dv:j<listed.size:=by omega
  have asC:(listed.setIfInBounds f.i true).getD j true=if j=f.i then true else listed.getD j true:=by
   simp only[getD_eq_getD_getElem?,Array.getElem?_setIfInBounds];by_cases hjf:f.i=j;subst hjf;simp[dv];simp[hjf,Ne.symm hjf]
  rw[asC];by_cases hjf:j=f.i;subst hjf;simp only[if_true,Bool.true_eq_false,false_iff,not_exists,not_and];exact akE;rw[if_neg hjf,hl j hj];constructor;rintro⟨e,he,rfl⟩;refine⟨e, ?_,rfl⟩;simp only[mem_append,mem_cons]at he ⊢;rcases he with he|rfl|he;exact .inl he;exact(hjf rfl).elim;exact .inr he;rintro⟨e,he,rfl⟩;refine⟨e, ?_,rfl⟩;simp only[mem_append,mem_cons]at he ⊢;rcases he with he|he;exact .inl he;exact .inr (.inr he)
def El.nu(e:El):Touch:=⟨e.i,e.rd,e.wr⟩
theorem gX:∀(tr:List Touch),jh ops tr=true->tr.Pairwise (λb a=>a.agH b=false\/gQ ops b.i a.i=true)
 |[],_=>.nil
 |b::aS,h=>by
  simp only[jh,and_eq_true,all_eq_true,Bool.or_eq_true,not_eq_true']at h;exact .cons (λa ha=>h.1 a ha) (gX aS h.2)
theorem Touch.wy{a b:Touch}(h:a.agH b=false):(∀id∈a.wr,id ∉ b.rd/\id ∉ b.wr)/\∀id∈b.wr,id ∉ a.rd:=by
 simp only[Touch.agH,Bool.or_eq_false_iff,List.any_eq_false,Bool.or_eq_true,List.contains_iff_mem,not_or]at h;exact h
theorem agO{T T':List AV}(bK:T.length=T'.length)(h:∀t,Ref (T.getD t (.s .bk)) (T'.getD t (.s .bk)))(dst:Option Tmp)(x:AV):∀t,Ref ((dd T dst x).getD t (.s .bk)) ((dd T' dst x).getD t (.s .bk)):=by
 intro t;cases dst with
 |none=>exact h t
 |some d=>
  simp only[dd];rw[dh,dh,bK];split;exact .inl rfl;exact h t
theorem oq(T:List AV)(dst:Option Tmp)(x:AV):(dd T dst x).length=T.length:=by cases dst<;>simp[dd]
theorem gR{cont:St->List Touch->Tree}:∀(l:List Oper) (i:Nat) (s:St) (tr:List Touch) (T:List AV),(∀j o,l[j]? =some o->ops[i+j]? =some o)->(lZ P S ops cont i l s tr).ba K C->
 T.length=s.ah.length->(∀t,Ref (T.getD t (.s .bk)) (s.ah.getD t (.s .bk)))->
 ∃es s' qT T',(cont s' qT).ba K C/\oo P S ops T s.aA es T' s'.aA/\T'.length=s'.ah.length/\(∀t,Ref (T'.getD t (.s .bk)) (s'.ah.getD t (.s .bk)))/\
  es.map El.i=range' i l.length/\qT=((es.filter (λe=>e.q.isSome)).map El.nu).reverse++tr
 |[],i,s,tr,T,_,h,bK,hT=>⟨[],s,tr,T,h,⟨rfl,rfl⟩,bK,hT,rfl,rfl⟩
 |o::rest,i,s,tr,T,hl,h,bK,hT=>by
  have ho:ops[i]? =some o:=by simpa using hl 0 o (by simp)
  have hl':∀j o',rest[j]? =some o'->ops[i+1+j]? =some o':=λj o' hj=>by
   have:=hl (j+1) o' (by simpa using hj);rwa[show i+(j+1)=i+1+j from by omega]at this
  have ou:∀(s:St),T.length=s.ah.length->(∀t,Ref (T.getD t (.s .bk)) (s.ah.getD t (.s .bk)))->
   (match o.guard with|none=>True|some (g,want)=>∃d,(ops[g]?).bind (·.dst)=some d/\s.ah.getD d (.s .bk)=.s (.aT want))->
   (match(uL P (S s.H.length) (jg s.ah) o).eval s.aA with
     |some r=>bif zu s.H.length r.up then Tree.zt r.ab (lZ P S ops cont (i+1) rest (s.put o.dst r) (⟨i,(uL P (S s.H.length) (jg s.ah) o).ids s.aA,uu r.up++(List.range r.new.length).map (s.H.length+·)⟩::tr))else .stuck "up"
     |none=>.stuck (o.pos++ " " ++(uL P (S s.H.length) (jg s.ah) o).why s.aA)).ba K C->
   ∃es s' qT T',(cont s' qT).ba K C/\oo P S ops T s.aA es T' s'.aA/\T'.length=s'.ah.length/\(∀t,Ref (T'.getD t (.s .bk)) (s'.ah.getD t (.s .bk)))/\
    es.map El.i=range' i (o::rest).length/\qT=((es.filter (λe=>e.q.isSome)).map El.nu).reverse++tr:=by
   intro s bK hT hg h;split at h;rename_i q hq;rw[cond_eq_ite]at h;split at h;rename_i hup;have⟨hn,h2⟩:=og _ _ h;let e:El:=⟨i,o,s.ah,some q,s.H.length,(uL P (S s.H.length) (jg s.ah) o).ids s.aA⟩;have⟨es,s',qT,T',g1,g2,g3,g4,g5,g6⟩:=gR rest (i+1) _ _ (e.c8 T) hl' h2 (by simp[El.c8,St.put,oq,bK]) (agO bK hT o.dst _);refine⟨e::es,s',qT,T',g1,⟨⟨ho,λt _=>hT t, ?_,λhq'=>by simp[e]at hq',λq' hq'=> ?_⟩, ?_⟩,g3,g4, ?_, ?_⟩;show match o.guard with|none=>_|some (g,want)=>_
   split;rfl;rename_i g want h0;rw[h0]at hg;have⟨d,h5,h6⟩:=hg;exact⟨d,h5,.inl ⟨want,h6,by simp[e]⟩⟩;obtain rfl:q=q':=by simpa[e]using hq'
   exact⟨hq,rfl,hn,λj _=>by simp[St.aA,e]⟩;have:e.heap s.aA=(s.put o.dst q).aA:=(acy s o.dst q (akO hup)).symm;rw[this];exact g2;simp[g5,List.range'_succ,e];rw[g6];simp[e,El.nu,El.wr];exact h.elim;exact h.elim
  have ov:∀(s:St),T.length=s.ah.length->(∀t,Ref (T.getD t (.s .bk)) (s.ah.getD t (.s .bk)))->
   (∃g want d,o.guard=some (g,want)/\(ops[g]?).bind (·.dst)=some d/\(s.ah.getD d (.s .bk)=.s (.aT (!want))\/s.ah.getD d (.s .bk)=.bD []))->
   (lZ P S ops cont (i+1) rest {s with ah:=dd s.ah o.dst (.bD [])} tr).ba K C->
   ∃es s' qT T',(cont s' qT).ba K C/\oo P S ops T s.aA es T' s'.aA/\T'.length=s'.ah.length/\(∀t,Ref (T'.getD t (.s .bk)) (s'.ah.getD t (.s .bk)))/\
    es.map El.i=range' i (o::rest).length/\qT=((es.filter (λe=>e.q.isSome)).map El.nu).reverse++tr:=by
   intro s bK hT hg h;let e:El:=⟨i,o,s.ah,none,s.H.length,[]⟩;have⟨es,s',qT,T',g1,g2,g3,g4,g5,g6⟩:=gR rest (i+1) _ _ (e.c8 T) hl' h (by simp[El.c8,oq,bK]) (agO bK hT o.dst _);refine⟨e::es,s',qT,T',g1,⟨⟨ho,λt _=>hT t, ?_,λ_=>rfl,λq' hq'=>by simp[e]at hq'⟩,g2⟩,g3,g4, ?_, ?_⟩;show match o.guard with|none=>_|some (g,want)=>_
   have⟨g,want,d,h0,h5,h6⟩:=hg;rw[h0];refine⟨d,h5, ?_⟩;rcases h6 with h6|h6;exact .inl ⟨!want,h6,by cases want<;>rfl⟩;exact .inr ⟨h6,rfl⟩;simp[g5,List.range'_succ,e];rw[g6];simp[e]
  have nX:∀{d:Nat} {b:Bool},s.ah.getD d (.s .bk)=.s (.bool b)->d<s.ah.length:=by
   intro d b hb;rcases lt_or_ge d s.ah.length with h3|h3;exact h3;rw[List.getD,getElem?_eq_none h3]at hb;simp at hb
  have aoC:∀{d:Nat} {b:Bool},s.ah.getD d (.s .bk)=.s (.bool b)->∀t,Ref (T.getD t (.s .bk)) ((s.ah.set d (.s (.aT b))).getD t (.s .bk)):=by
   intro d b hb t;rw[dh];split;rename_i hc;obtain⟨rfl,_⟩:=hc;exact(hT t).trans (.inr ⟨b,hb,rfl⟩);exact hT t
  unfold lZ at h;simp only[]at h;split at h;rename_i hg;exact ou s bK hT (by rw[hg];trivial) h;rename_i g want hg;split at h;exact h.elim;rename_i d hd;split at h;rename_i b hb;rw[cond_eq_ite]at h;split at h;rename_i hbw;obtain rfl:b=want:=by simpa using hbw
  exact ou s bK hT (by rw[hg];exact⟨d,hd,hb⟩) h;rename_i hbw;refine ov s bK hT ⟨g,want,d,hg,hd,.inl ?_⟩ h;rw[hb];cases b<;>cases want<;>simp_all;rename_i b hb;have bA:=nX hb;have yz:=aoC hb;have agP:∀c:Bool,(s.ah.set d (.s (.aT c))).getD d (.s .bk)=.s (.aT c):=λc=>by simp[List.getD,bA]
  have⟨h1,h2⟩:=h;cases b;have h2:=h2 rfl;cases want;exact ou {s with ah:=s.ah.set d (.s (.aT false))} (by simpa using bK) yz (by rw[hg];exact⟨d,hd,agP _⟩) h2;exact ov {s with ah:=s.ah.set d (.s (.aT false))} (by simpa using bK) yz ⟨g,true,d,hg,hd,.inl (agP _)⟩ h2;have h1:=h1 rfl;cases want;exact ov {s with ah:=s.ah.set d (.s (.aT true))} (by simpa using bK) yz ⟨g,false,d,hg,hd,.inl (agP _)⟩ h1;exact ou {s with ah:=s.ah.set d (.s (.aT true))} (by simpa using bK) yz (by rw[hg];exact⟨d,hd,agP _⟩) h1;rename_i hb;exact ov s bK hT ⟨g,want,d,hg,hd,.inr hb⟩ h;exact h.elim
theorem kZ{T':List AV}{H':aV}:∀{es:List El} {T:List AV} {H:aV},oo P S ops T H es T' H'->∀e∈es,e.q=none->e.rd=[]
 |[],_,_,_,e,he=>by simp at he
 |x::es,T,H,h,e,he=>by
  rcases mem_cons.1 he with rfl|he;exact h.1.skip;exact kZ h.2 e he
theorem wz{T':List AV}{H':aV}:∀{es:List El} {T:List AV} {H:aV},oo P S ops T H es T' H'->∀e∈es,ops[e.i]? =some e.o
 |[],_,_,_,e,he=>by simp at he
 |x::es,T,H,h,e,he=>by
  rcases mem_cons.1 he with rfl|he;exact h.1.op;exact wz h.2 e he
theorem uv(hso:iF ops=true){e f:El}(he:ops[e.i]? =some e.o)(hf:ops[f.i]? =some f.o)(bA:e.i<f.i)(hna:gQ ops f.i e.i=false):
 (∀d,e.o.dst=some d->d ∉ f.o.looksAt ops/\f.o.dst≠some d)/\(∀d,f.o.dst=some d->d ∉ e.o.looksAt ops):=by
 have hei:e.i<ops.size:=(Array.getElem?_eq_some_iff.1 he).1;have hfi:f.i<ops.size:=(Array.getElem?_eq_some_iff.1 hf).1;simp only[iF,all_eq_true,mem_range]at hso;refine⟨λd hd=> ?_,λd hd=> ?_⟩;have:=hso e.i hei f.i hfi;rw[he,hf]at this;simp only[hd,bA,if_true,hna,Bool.or_false,Bool.or_eq_true,beq_iff_eq,and_eq_true,not_eq_true']at this;rcases this with h|⟨h1,h2⟩;omega;refine⟨λhm=> ?_,λhm=> ?_⟩;rw[List.contains_iff_mem.2 hm]at h1;cases h1;rw[hm]at h2;simp at h2;have:=hso f.i hfi e.i hei;rw[he,hf]at this;simp only[hd,Nat.not_lt.2 (Nat.le_of_lt bA),if_false,hna,Bool.or_false,Bool.or_eq_true,beq_iff_eq,and_eq_true,not_eq_true']at this;rcases this with h|⟨h1,h2⟩;omega;intro hm;rw[List.contains_iff_mem.2 hm]at h1;cases h1
theorem aa3(hS:SOk P S Z)(nB:eO Z X){cont:St->List Touch->Tree}(hso:iF ops=true)(heb:ei ops=true)(h:(lZ P S ops cont 0 ops.toList s []).ba K C)(hcl:∀s' qT,(cont s' qT).ba K C->jh ops qT=true)
 {Q:Act->World->Prop} (hQ:∀aQ s' qT a' w',(cont s' qT).ba K C->cF X aQ s' a' w'->Q a' w') (hr:cF X ρ s a w):wpAny P .any ops (λe a' w'=>e=.normal/\Q a' w') ops.size (Array.replicate ops.size false) a w:=by
 have⟨es,s',qT,T',g1,g2,g3,g4,g5,g6⟩:=gR ops.toList 0 s [] s.ah (by simp) h rfl (λt=>.inl rfl);have hcf:=gX _ (hcl _ _ g1);rw[g6,append_nil,List.pairwise_reverse,List.pairwise_map,List.pairwise_filter]at hcf;have yj:=wz g2
 have ach:es.Pairwise (λe f=>e.i<f.i):=by
  have:(es.map El.i).Pairwise (· < ·):=by rw[g5];exact List.pairwise_lt_range'
  rwa[List.pairwise_map]at this
 have aa4:es.Pairwise (qt ops):=by
  refine(hcf.and ach).imp_of_mem (λ{e f} he hf ⟨hc,bA⟩=>⟨bA, ?_⟩);cases hna:gQ ops f.i e.i with
  |true=>exact .inl rfl
  |false=>
   refine .inr ?_;have⟨s1,s2⟩:=uv hso (yj e he) (yj f hf) bA hna
   have hh:(∀id∈e.wr,id ∉ f.rd/\id ∉ f.wr)/\∀id∈f.wr,id ∉ e.rd:=by
    cases hqe:e.q with
    |none=>
     have e1:e.wr=[]:=by simp[El.wr,hqe]
     have e2:=kZ g2 e he hqe;exact⟨λid dN=>by rw[e1]at dN;simp at dN,λid _=>by rw[e2];simp⟩
    |some qe=>
     cases hqf:f.q with
     |none=>
      have e1:f.wr=[]:=by simp[El.wr,hqf]
      have e2:=kZ g2 f hf hqf;exact⟨λid _=>by rw[e1,e2];simp,λid dN=>by rw[e1]at dN;simp at dN⟩
     |some qf=>
      rcases hc (by rw[hqe];rfl) (by rw[hqf];rfl)with h1|h1;exact Touch.wy (a:=e.nu) (b:=f.nu) h1;exact(by rw[show f.nu.i=f.i from rfl,show e.nu.i=e.i from rfl,hna]at h1;cases h1)
   exact⟨s1,s2,hh.1,hh.2⟩
 have bK:es.length=ops.size:=by
  have:=congrArg List.length g5;simpa using this
 refine aa2 hS nB heb (λaQ a' w' eR=>⟨rfl,hQ aQ s' qT a' w' g1 ⟨eR.sat,g3▸eR.size,λt=>(g4 t).den (eR.den t),eR.defers,eR.ax,eR.jQ,eR.bc⟩⟩) ops.size _ es s.ah s.aA ρ a w bK (by simp) aa4 ?_ (λi o _ hi=>by rw[getD_eq_getD_getElem?,Array.getElem?_replicate]at hi;split at hi<;>simp at hi) hr.toF g2;intro i hi;have:i∈es.map El.i:=by rw[g5];simp[List.mem_range'];omega
 obtain⟨e,he,rfl⟩:=mem_map.1 this;simp only[getD_eq_getD_getElem?,Array.getElem?_replicate,hi,if_true,getD_some,true_iff];exact⟨e,he,rfl⟩
end
section
variable{ρ aQ:Nat->Value}{H H':aV}{G O O':Nat->Prop}{w w':World}{P:Program}{S:fO}{Z:bB}{X:Ctx}{s:St}{a:Act}{K:List au->AV->Prop}{C:cn->Prop}{ops:Array Oper}
structure kx (n:Nat) (rest:List Value) (Ds:List Nat) (a t:Act):Prop where
 sl:∃v0,a.ah.toList=v0++rest/\t.ah=v0.toArray/\v0.length=n
 df:t.defers=a.defers++Ds.map pU
theorem kx.get{n:Nat}{rest:List Value}{Ds:List Nat}{a t:Act}(h:kx n rest Ds a t){j:Nat}(hj:rest=[]\/j<n):t.ah[j]? =a.ah[j]? :=by
 have⟨v0,h1,h2,h3⟩:=h.sl;have e:a.ah[j]? =(v0++rest)[j]? :=by rw[<-h1,Array.getElem?_toList]
 rw[e,h2,List.getElem?_toArray];rcases hj with rfl|hj;rw[append_nil];rw[getElem?_append_left (by omega)]
theorem kx.eval{n:Nat}{rest:List Value}{Ds:List Nat}{a t:Act}(h:kx n rest Ds a t){x:Operand}(hx:rest=[]\/∀j,x=.tmp j->j<n):t.eval x=a.eval x:=by
 cases x with
 |tmp j=>
  show t.ah.getD j undef=a.ah.getD j undef;rw[getD_eq_getD_getElem?,getD_eq_getD_getElem?,h.get (hx.imp id λg=>g j rfl)]
 |const v=>rfl
 |global g=>rfl
 |func f=>rfl
theorem kx.put{n:Nat}{rest:List Value}{Ds:List Nat}{a t:Act}(h:kx n rest Ds a t){dst:Option Tmp}(hd:rest=[]\/∀d,dst=some d->d<n)(v:Value):kx n rest Ds (a.put dst v) (t.put dst v):=by
 cases dst with
 |none=>exact h
 |some d=>
  have⟨v0,h1,h2,h3⟩:=h.sl;refine⟨⟨v0.set d v, ?_, ?_,by simp[h3]⟩,h.df⟩;show(a.ah.setIfInBounds d v).toList=_;rw[Array.toList_setIfInBounds,h1];rcases hd with rfl|hd;simp;rw[List.set_append_left _ _ (h3▸hd d rfl)];show t.ah.setIfInBounds d v=_;rw[h2];simp
theorem agQ{R:Value->World->Prop}{i:Nat}{rest:List Nat}{o:Oper}(ho:ops[i]? =some o)(hw:Region.wanted o (yielded ops a.ah)=true)(iu:∀c,o.op≠.defer c)(h:Yields P o a.eval w R)(b:Frame)(k:List Item)(cs:List Frame):
 ∃v w',R v w'/\Steps P (lone (b.atR a (.inRegion ops (i::rest)::k)) cs w) (lone (b.atR (a.put o.dst v) (.inRegion ops rest::k)) cs w'):=by
 have hg:=stepGR_op (P:=P) (b:=b) (k:=k) (cs:=cs) (w:=w) (rest:=rest) ho hw;rw[Oper.semAt_eq _ _ _ iu]at hg
 have tm:∀v,(b.atR a (.inRegion ops (i::rest)::k)).finish v=b.atR (a.put o.dst v) (.inRegion ops rest::k):=by
  intro v;rw[Frame.finish_atR,ho];rfl
 unfold Yields at h;split at h;rename_i v w' hr;refine⟨v,w',h,.one (step_lone_go ?_)⟩;rw[hg,<-tm];simp[stepG.apply,hr];rename_i w' hr;refine⟨undef,w',h,.one (step_lone_go ?_)⟩;rw[hg,<-tm];simp[stepG.apply,hr];rename_i f args w' hr;obtain⟨e,w2,fr,⟨v,rfl,hv⟩,h2,h3,h4⟩:=h (b.atR a (.inRegion ops (i::rest)::k)::cs);have gg:step P (lone (b.atR a (.inRegion ops (i::rest)::k)) cs w)=
  .next (lone (Frame.enter P f args .normal) (b.atR a (.inRegion ops (i::rest)::k)::cs) w'):=
  step_lone_go (by rw[hg];simp[stepG.apply,hr,Frame.atR])
 refine⟨v,w2,hv,.head gg (Steps.trans h2 (.one ?_))⟩;rw[<-tm];exact step_leave_returned h4;exact h.elim
theorem aa5{i:Nat}{rest:List Nat}{o:Oper}(ho:ops[i]? =some o)(hw:Region.wanted o (yielded ops a.ah)=false)(b:Frame)(k:List Item)(cs:List Frame):
 step P (lone (b.atR a (.inRegion ops (i::rest)::k)) cs w)=.next (lone (b.atR (a.put o.dst undef) (.inRegion ops rest::k)) cs w):=by
 have:=stepR_op_skip (P:=P) (b:=b) (a:=a) (k:=k) (cs:=cs) (w:=w) (ops:=ops) (i:=i) (rest:=rest) (by simp[ho];simpa using hw);simpa[ho]using this
theorem akR{i:Nat}{rest:List Nat}{o:Oper}(ho:ops[i]? =some o)(hw:Region.wanted o (yielded ops a.ah)=true)(iu:∀c,o.op≠.defer c){f:FuncId}{args:Array Value}(h:(execOp a.eval o).run P w=.ok (.enter f args) w')(b:Frame)(k:List Item)(cs:List Frame):
 step P (lone (b.atR a (.inRegion ops (i::rest)::k)) cs w)=.next (lone (Frame.enter P f args .normal) (b.atR a (.inRegion ops (i::rest)::k)::cs) w'):=by
 have hg:=stepGR_op (P:=P) (b:=b) (k:=k) (cs:=cs) (w:=w) (rest:=rest) ho hw;rw[Oper.semAt_eq _ _ _ iu]at hg;exact step_lone_go (by rw[hg];simp[stepG.apply,h,Frame.atR])
theorem akS{i:Nat}{rest:List Nat}{o:Oper}(ho:ops[i]? =some o)(hw:Region.wanted o (yielded ops a.ah)=true)(iu:∀c,o.op≠.defer c){l:Nat}{f:FuncId}{ah:Array Value}{asg body:Code}(h:(execOp a.eval o).run P w=.ok (.ch l f ah asg body) w')(b:Frame)(k:List Item)(cs:List Frame):
 step P (lone (b.atR a (.inRegion ops (i::rest)::k)) cs w)=.next (lone (Frame.ch l f ah asg body .normal) (b.atR a (.inRegion ops (i::rest)::k)::cs) w'):=by
 have hg:=stepGR_op (P:=P) (b:=b) (k:=k) (cs:=cs) (w:=w) (rest:=rest) ho hw;rw[Oper.semAt_eq _ _ _ iu]at hg;exact step_lone_go (by rw[hg];simp[stepG.apply,h])
theorem ow(h:iG ops=true){i:Nat}{o:Oper}(ho:ops[i]? =some o):∀c,o.op≠.defer c:=by
 intro c hc;simp only[iG,all_eq_true]at h;have:=h o (by rw[<-Array.getElem?_toList]at ho;exact List.mem_of_getElem? ho);rw[hc]at this;cases this
theorem ib{Q:Exit->Act->World->Prop}(iu:iG ops=true)(hQ:∀e a w,Q e a w->e=.normal):∀(l:List Nat) (a:Act) (w:World),wpOps P ops Q l a w->∀(b:Frame) (k:List Item) (cs:List Frame),
 ∃a' w',Q .normal a' w'/\Steps P (lone (b.atR a (.inRegion ops l::k)) cs w) (lone (b.atR a' k) cs w')
 |[],a,w,h,b,k,cs=>⟨a,w,h,.one stepR_region_end⟩
 |i::rest,a,w,h,b,k,cs=>by
  simp only[wpOps]at h;split at h;rename_i ho;have⟨a',w',h1,h2⟩:=ib iu hQ rest a w h b k cs;have hs:=stepR_op_skip (P:=P) (b:=b) (a:=a) (k:=k) (cs:=cs) (w:=w) (ops:=ops) (i:=i) (rest:=rest) (by simp[ho]);simp only[ho,Option.bind_none,Act.put]at hs;exact⟨a',w',h1,.head hs h2⟩;rename_i o ho;by_cases hw:Region.wanted o (yielded ops a.ah)=true;rw[if_pos hw]at h;rcases h with h|⟨_,a0,w0,hq⟩;unfold Oper.wp Oper.upon at h;have hg:=stepGR_op (P:=P) (b:=b) (k:=k) (cs:=cs) (w:=w) (rest:=rest) ho hw;rw[Oper.semAt_eq _ _ _ (ow iu ho)]at hg
  have tm:∀v,(b.atR a (.inRegion ops (i::rest)::k)).finish v=b.atR (a.put o.dst v) (.inRegion ops rest::k):=by
   intro v;rw[Frame.finish_atR,ho];rfl
  split at h;rename_i v w' hr;have⟨a',w2,h1,h2⟩:=ib iu hQ rest _ _ h b k cs;refine⟨a',w2,h1,.head (step_lone_go ?_) h2⟩;rw[hg,<-tm];simp[stepG.apply,hr];rename_i w' hr;have⟨a',w2,h1,h2⟩:=ib iu hQ rest _ _ h b k cs;refine⟨a',w2,h1,.head (step_lone_go ?_) h2⟩;rw[hg,<-tm];simp[stepG.apply,hr];rename_i d w' hr;have⟨a',w2,h1,h2⟩:=ib iu hQ rest _ _ h b k cs;refine⟨a',w2,h1,.head (step_lone_go ?_) h2⟩;have:({b.atR a (.inRegion ops (i::rest)::k)with defers:=d::a.defers}:Frame).finish undef=
   b.atR ({a with defers:=d::a.defers}.put o.dst undef) (.inRegion ops rest::k):=by
   have:=Frame.finish_atR b {a with defers:=d::a.defers} ops i rest k undef;rw[ho]at this;exact this
  rw[hg];simp only[stepG.apply,Sem.runT_eq,hr,GStep.bare_after];exact congrArg (λfr=>GStep.go {frame:=fr,callers:=cs,status:=.running,dying:=none} w') this;rename_i f args w' hr;have⟨e,w2,fr,hR,k9,hfn,qu⟩:=h (b.atR a (.inRegion ops (i::rest)::k)::cs);have gg:step P (lone (b.atR a (.inRegion ops (i::rest)::k)) cs w)=
   .next (lone (Frame.enter P f args .normal) (b.atR a (.inRegion ops (i::rest)::k)::cs) w'):=
   step_lone_go (by rw[hg];simp[stepG.apply,hr,Frame.atR])
  cases e with
  |returned v=>
   have⟨a',w3,h1,h2⟩:=ib iu hQ rest _ _ hR b k cs;refine⟨a',w3,h1,.head gg (Steps.trans k9 (.head ?_ h2))⟩;rw[<-tm];exact step_leave_returned qu
  |panicked chain=>cases hQ _ _ _ hR
  |outgrown=>
   have⟨a0,w0,hq⟩:=hR;cases hQ _ _ _ hq
  rename_i row args w' hr;have⟨v,w2,hR,k9⟩:=h (b.atR a (.inRegion ops (i::rest)::k)) cs;have gg:step P (lone (b.atR a (.inRegion ops (i::rest)::k)) cs w)=
   .next (lone (Frame.ofRow P row args .normal) (b.atR a (.inRegion ops (i::rest)::k)::cs) w'):=
   step_lone_go (by rw[hg];simp[stepG.apply,hr,Frame.atR])
  have⟨a',w3,h1,h2⟩:=ib iu hQ rest _ _ hR b k cs;refine⟨a',w3,h1,.head gg (Steps.trans k9 ?_)⟩;rw[tm];exact h2;cases hQ _ _ _ h;exact h.elim;cases hQ _ _ _ hq;rw[if_neg hw]at h;have⟨a',w',h1,h2⟩:=ib iu hQ rest _ _ h b k cs;exact⟨a',w',h1,.head (aa5 ho (by simpa using hw) b k cs) h2⟩
theorem gh{more:List Nat}{Q:Exit->Act->World->Prop}(iu:iG ops=true)(hQ:∀e a w,Q e a w->e=.normal):∀(l:List Nat) (a:Act) (w:World),wpOps P ops Q l a w->∀(b:Frame) (k:List Item) (cs:List Frame),
 ∃a' w',Q .normal a' w'/\Steps P (lone (b.atR a (.inRegion ops (l++more)::k)) cs w) (lone (b.atR a' (.inRegion ops more::k)) cs w')
 |[],a,w,h,b,k,cs=>⟨a,w,h,⟨0,rfl⟩⟩
 |i::rest,a,w,h,b,k,cs=>by
  rw[cons_append];simp only[wpOps]at h;split at h;rename_i ho;have⟨a',w',h1,h2⟩:=gh (more:=more) iu hQ rest a w h b k cs;have hs:=stepR_op_skip (P:=P) (b:=b) (a:=a) (k:=k) (cs:=cs) (w:=w) (ops:=ops) (i:=i) (rest:=rest++more) (by simp[ho]);simp only[ho,Option.bind_none,Act.put]at hs;exact⟨a',w',h1,.head hs h2⟩;rename_i o ho;by_cases hw:Region.wanted o (yielded ops a.ah)=true;rw[if_pos hw]at h;rcases h with h|⟨_,a0,w0,hq⟩;unfold Oper.wp Oper.upon at h;have hg:=stepGR_op (P:=P) (b:=b) (k:=k) (cs:=cs) (w:=w) (rest:=rest++more) ho hw;rw[Oper.semAt_eq _ _ _ (ow iu ho)]at hg
  have tm:∀v,(b.atR a (.inRegion ops (i::(rest++more))::k)).finish v=b.atR (a.put o.dst v) (.inRegion ops (rest++more)::k):=by
   intro v;rw[Frame.finish_atR,ho];rfl
  split at h;rename_i v w' hr;have⟨a',w2,h1,h2⟩:=gh (more:=more) iu hQ rest _ _ h b k cs;refine⟨a',w2,h1,.head (step_lone_go ?_) h2⟩;rw[hg,<-tm];simp[stepG.apply,hr];rename_i w' hr;have⟨a',w2,h1,h2⟩:=gh (more:=more) iu hQ rest _ _ h b k cs;refine⟨a',w2,h1,.head (step_lone_go ?_) h2⟩;rw[hg,<-tm];simp[stepG.apply,hr];rename_i d w' hr;have⟨a',w2,h1,h2⟩:=gh (more:=more) iu hQ rest _ _ h b k cs;refine⟨a',w2,h1,.head (step_lone_go ?_) h2⟩;have:({b.atR a (.inRegion ops (i::(rest++more))::k)with defers:=d::a.defers}:Frame).finish undef=
   b.atR ({a with defers:=d::a.defers}.put o.dst undef) (.inRegion ops (rest++more)::k):=by
   have:=Frame.finish_atR b {a with defers:=d::a.defers} ops i (rest++more) k undef;rw[ho]at this;exact this
  rw[hg];simp only[stepG.apply,Sem.runT_eq,hr,GStep.bare_after];exact congrArg (λfr=>GStep.go {frame:=fr,callers:=cs,status:=.running,dying:=none} w') this;rename_i f args w' hr;have⟨e,w2,fr,hR,k9,hfn,qu⟩:=h (b.atR a (.inRegion ops (i::(rest++more))::k)::cs);have gg:step P (lone (b.atR a (.inRegion ops (i::(rest++more))::k)) cs w)=
   .next (lone (Frame.enter P f args .normal) (b.atR a (.inRegion ops (i::(rest++more))::k)::cs) w'):=
   step_lone_go (by rw[hg];simp[stepG.apply,hr,Frame.atR])
  cases e with
  |returned v=>
   have⟨a',w3,h1,h2⟩:=gh (more:=more) iu hQ rest _ _ hR b k cs;refine⟨a',w3,h1,.head gg (Steps.trans k9 (.head ?_ h2))⟩;rw[<-tm];exact step_leave_returned qu
  |panicked chain=>cases hQ _ _ _ hR
  |outgrown=>
   have⟨a0,w0,hq⟩:=hR;cases hQ _ _ _ hq
  rename_i row args w' hr;have⟨v,w2,hR,k9⟩:=h (b.atR a (.inRegion ops (i::(rest++more))::k)) cs;have gg:step P (lone (b.atR a (.inRegion ops (i::(rest++more))::k)) cs w)=
   .next (lone (Frame.ofRow P row args .normal) (b.atR a (.inRegion ops (i::(rest++more))::k)::cs) w'):=
   step_lone_go (by rw[hg];simp[stepG.apply,hr,Frame.atR])
  have⟨a',w3,h1,h2⟩:=gh (more:=more) iu hQ rest _ _ hR b k cs;refine⟨a',w3,h1,.head gg (Steps.trans k9 ?_)⟩;rw[tm];exact h2;cases hQ _ _ _ h;exact h.elim;cases hQ _ _ _ hq;rw[if_neg hw]at h;have⟨a',w',h1,h2⟩:=gh (more:=more) iu hQ rest _ _ h b k cs;exact⟨a',w',h1,.head (aa5 ho (by simpa using hw) b k cs) h2⟩
def rz(n:Nat)(rest:List Value)(ops:Array Oper):Prop:=rest=[]\/lP n ops=true
theorem rz.op{n:Nat}{rest:List Value}(h:rz n rest ops){i:Nat}{o:Oper}(ho:ops[i]? =some o):rest=[]\/((∀t∈o.looksAt ops,t<n)/\(∀d,o.dst=some d->d<n)/\∀cs b,o.op≠.select cs b):=by
 refine h.imp id λh=> ?_;simp only[lP,all_eq_true]at h;have:=h o (by rw[<-Array.getElem?_toList]at ho;exact List.mem_of_getElem? ho);simp only[agJ,and_eq_true,all_eq_true]at this;have⟨⟨h1,h2⟩,h3⟩:=this;refine⟨λt ht=>by have:=h1 t ht;simpa[Nat.blt,Nat.lt_iff_add_one_le]using this,λd hd=>by rw[hd]at h2;simpa[Nat.blt,Nat.lt_iff_add_one_le]using h2,λcs b hc=>by rw[hc]at h3;cases h3⟩
theorem kx.same{n:Nat}{rest:List Value}{Ds:List Nat}{a t:Act}(h:kx n rest Ds a t)(dv:rz n rest ops){i:Nat}{o:Oper}(ho:ops[i]? =some o):
 execOp t.eval o=execOp a.eval o/\Region.wanted o (yielded ops t.ah)=Region.wanted o (yielded ops a.ah):=by
 rcases dv.op ho with hr|⟨h1,h2,h3⟩
 have e:t.ah=a.ah:=by
  have⟨v0,k1,k2,_⟩:=h.sl;rw[hr,append_nil]at k1;rw[k2,<-k1]
 have ee:t.eval=a.eval:=funext λx=>by cases x<;>simp[Act.eval,e]
 rw[ee,e];exact⟨rfl,rfl⟩;refine⟨execOp_congr o h3 λx hx=>h.eval (.inr λj hj=>h1 j ?_), ?_⟩;subst hj;simp only[Oper.looksAt,mem_append,List.mem_filterMap];exact .inl ⟨.tmp j,by simpa using hx,rfl⟩;unfold Region.wanted;cases hg:o.guard with
 |none=>rfl
 |some g=>
  have⟨g,b⟩:=g;simp only[];congr 1;unfold yielded;cases hd:(ops[g]?).bind (·.dst)with
  |none=>rfl
  |some d=>
   have:t.ah[d]? =a.ah[d]? :=h.get (.inr (h1 d (by simp[Oper.looksAt,hg,hd])));simp only[Option.bind_some,this]
theorem ic{n:Nat}{rest:List Value}{Ds:List Nat}{Q:Exit->Act->World->Prop}(dv:rz n rest ops)(hQ:∀e a w,Q e a w->e=.normal):∀(l:List Nat) (a t:Act) (w:World),kx n rest Ds a t->wpOps P ops Q l a w->
 wpOps P ops (λe t' w'=>e=.normal/\∃a',Q .normal a' w'/\kx n rest Ds a' t') l t w
 |[],a,t,w,ht,h=>⟨rfl,a,h,ht⟩
 |i::l,a,t,w,ht,h=>by
  simp only[wpOps]at h ⊢;split at h;rename_i ho;exact ic dv hQ l a t w ht h;rename_i o ho;have⟨e1,e2⟩:=ht.same dv ho;have lG:rest=[]\/∀d,o.dst=some d->d<n:=(dv.op ho).imp id (·.2.1);rw[e2];split at h;rename_i hw;rw[if_pos hw];rcases h with h|⟨_,a0,w0,hq⟩;refine .inl ?_;unfold Oper.wp at *;rw[e1];generalize (execOp a.eval o).run P w=r at *;cases r with
  |ok x w'=>
   cases x<;>simp only[Oper.upon]at h ⊢ <;>first
    |exact ic dv hQ l _ _ _ (ht.put lG _) h
    |exact ic dv hQ l _ _ _ (kx.put (a:={a with defers:=_::a.defers}) (t:={t with defers:=_::t.defers}) ⟨ht.sl,by simp[ht.df]⟩ lG _) h
    |exact Calls.mono h (λe w'' he=>by
     cases e<;>first
      |exact ic dv hQ l _ _ _ (ht.put lG _) he
      |(exact(by cases hQ _ _ _ he))
      |(have⟨a0,w0,h2⟩:=he;exact(by cases hQ _ _ _ h2)))
    |exact Rows.mono h (λ_ _ he=>ic dv hQ l _ _ _ (ht.put lG _) he)
  |halt x w'=>cases x<;>simp only[Oper.upon]at h ⊢ <;>exact(by cases hQ _ _ _ h)
  cases hQ _ _ _ hq;rename_i hw;rw[if_neg hw];exact ic dv hQ l _ _ _ (ht.put lG _) h
end
section
variable{ρ aQ:Nat->Value}{H H':aV}{G G' O O' O2:Nat->Prop}{w w':World}{P:Program}{S:fO}{Z:bB}{X:Ctx}{s:St}{a:Act}{K:List au->AV->Prop}{C:cn->Prop}{ops:Array Oper}{E E':List (Nat×Obj)}
theorem Step.src(h:Step ρ H O w aQ H' O' w')(k:∀b,O b->O2 b):Step ρ H O2 w aQ H' O' w':=
 ⟨h.vH,h.fq,λb hb=>(h.gy b hb).imp (k b) id,λb hb ho=>h.heap b hb (λh1=>ho (k b h1)),h.size⟩
theorem Kept.sub(h:Kept (X.at G E) w)(hs:∀y∈E',y∈E):Kept (X.at G E') w:=λy hy=>h y (hs y hy)
theorem cF.sub(h:cF (X.at G E) ρ s a w)(hs:∀y∈E',y∈E):cF (X.at G E') ρ s a w:=⟨h.sat,h.size,h.den,h.defers,h.ax,h.jQ,h.bc.sub hs⟩
theorem cF.aoD(h:cF (X.at G E) ρ s a w){D:Nat}{o o':Obj}(hx:(D,o)∈E)(hE:∀y∈E',(y∈E/\y.1≠D)\/y=(D,o')):cF (X.at G E') ρ s a (w.putObj D o'):=by
 have⟨hG,hle,hh⟩:=h.bc _ hx;have hs:=h.sat;have bA:D<w.heap.size:=(Array.getElem?_eq_some_iff.1 hh).1
 have st:Step ρ s.aA (bd ρ s.aA G) w ρ s.aA (bd ρ s.aA G) (w.putObj D o'):=
  ⟨λ_ _ _=>rfl,λ_ o h=>⟨o,h,λc' e' e=>⟨c',e',e,rfl,rfl⟩⟩,λ_ h=>.inl h,λb hb hO=>World.putObj_heap_other (λe=>hO (.inr (e▸hG))),by simp⟩
 have ew:∀b,Own ρ s.aA b->(w.putObj D o').heap[b]? =w.heap[b]? :=λb hb=>World.putObj_heap_other (λe=>hs.apart b hb (e▸hG));refine⟨⟨λid o ho=>(hs.obj id o ho).step st (λb ha hb=>ew b ⟨id,o,ho,ha,hb⟩),hs.inj,hs.apart,λb hb=>by rw[World.putObj_size];exact hs.low b hb⟩,h.size,λt=>ak.step st _ _ (h.den t),h.defers,h.ax.trans st,⟨h.jQ.os,h.jQ.tape,h.jQ.output,λb hb hO=> ?_⟩,λy hy=> ?_⟩;rw[World.putObj_heap_other (by have:X.w.heap.size<=D:=hle;have:b<X.w.heap.size:=hb;omega)];exact h.jQ.heap b hb hO;rcases hE y hy with⟨h1,h2⟩|rfl;have⟨k1,k2,k3⟩:=h.bc y h1;exact⟨k1,k2,by rw[World.putObj_heap_other h2];exact k3⟩;exact⟨hG,hle,World.putObj_heap_same bA⟩
def qv(ρ:Nat->Value)(n:Nat)(u:Value):Nat->Value:=λj=>if j=n then u else ρ j
theorem cF.grow(h:cF (X.at G E) ρ s a w)(o:Obj)(u:Value):
 cF (X.at (λb=>G b\/b=w.heap.size) ((w.heap.size,o)::E)) (qv ρ s.H.length u) ⟨s.ah,s.H++[.aB]⟩ a (w.alloc o)/\
 Step ρ s.aA (bd ρ s.aA G) w (qv ρ s.H.length u) (St.aA ⟨s.ah,s.H++[.aB]⟩) (bd (qv ρ s.H.length u) (St.aA ⟨s.ah,s.H++[.aB]⟩) (λb=>G b\/b=w.heap.size)) (w.alloc o):=by
 have hs:=h.sat
 have old:∀{id:Nat} {o:au},(s.H++[.aB])[id]? =some o->(id=s.H.length/\o=.aB)\/(id≠s.H.length/\s.aA id=some o):=by
  intro id o ho;have h2:=(getElem?_eq_some_iff.1 ho).1;simp only[length_append,length_cons,length_nil]at h2;by_cases dN:id=s.H.length;subst dN;simp at ho;exact .inl ⟨rfl,ho.symm⟩;refine .inr ⟨dN, ?_⟩;rwa[getElem?_append_left (by omega)]at ho
 have bA:∀{id:Nat} {o:au},s.aA id=some o->id<s.H.length:=λh=>(getElem?_eq_some_iff.1 h).1
 have ew:∀b,Own (qv ρ s.H.length u) (St.aA ⟨s.ah,s.H++[.aB]⟩) b->Own ρ s.aA b:=by
  rintro b ⟨id,o,ho,ha,hb⟩;rcases old ho with⟨_,rfl⟩|⟨h1,h2⟩;cases ha;rw[qv,if_neg h1]at hb;exact⟨id,o,h2,ha,hb⟩
 have st:Step ρ s.aA (bd ρ s.aA G) w (qv ρ s.H.length u) (St.aA ⟨s.ah,s.H++[.aB]⟩) (bd (qv ρ s.H.length u) (St.aA ⟨s.ah,s.H++[.aB]⟩) (λb=>G b\/b=w.heap.size)) (w.alloc o):=by
  refine⟨λid o ho=> ?_,λid o ho=> ?_,λb hb=> ?_,λb hb _=>alloc_old hb,by rw[ga];omega⟩;have:=bA ho;rw[qv,if_neg (by omega)];have h1:=bA ho;exact⟨o,by show(s.H++[.aB])[id]? =_;rw[getElem?_append_left h1];exact ho,λc' e' hc=>⟨c',e',hc,rfl,rfl⟩⟩;rcases hb with hb|hb|hb;exact .inl (.inl (ew b hb));exact .inl (.inr hb);exact .inr (by omega)
 have hle:X.w.heap.size<=w.heap.size:=h.ax.size;refine⟨?_,st⟩;refine⟨⟨λid o' ho=> ?_,λi j oi oj b hi hj ai aj bi bj=> ?_,λb hb hg=> ?_,λb hb=> ?_⟩,h.size,λt=>ak.step st _ _ (h.den t),h.defers,(h.ax.trans st).src (λb hb=>hb.imp id .inl),⟨h.jQ.os,h.jQ.tape,h.jQ.output,λb hb hO=> ?_⟩,λy hy=> ?_⟩;rcases old ho with⟨_,rfl⟩|⟨h1,h2⟩;trivial;rw[qv,if_neg h1];exact(hs.obj id o' h2).step st (λb ha hb=>alloc_old (iy hs ⟨id,o',h2,ha,hb⟩));rcases old hi with⟨_,rfl⟩|⟨h1,h2⟩;cases ai;rcases old hj with⟨_,rfl⟩|⟨h3,h4⟩;cases aj;rw[qv,if_neg h1]at bi;rw[qv,if_neg h3]at bj;exact hs.inj i j oi oj b h2 h4 ai aj bi bj;rcases hg with hg|hg;exact hs.apart b (ew b hb) hg;have:=iy hs (ew b hb);omega;rw[ga];rcases hb with hb|hb;have:=hs.low b hb;omega;omega;rw[alloc_old (show b<w.heap.size from Nat.lt_of_lt_of_le hb hle)];exact h.jQ.heap b hb hO;rcases mem_cons.1 hy with rfl|hy;exact⟨.inr rfl,hle,kH⟩;have⟨k1,k2,k3⟩:=h.bc y hy;exact⟨.inl k1,k2,by rw[alloc_old (Array.getElem?_eq_some_iff.1 k3).1];exact k3⟩
theorem ku.asD{L:List au}{ah:List AV}{r:AV}{v:Value}(iS:∀b,X.G b->G b)(iZ:∀b,G b->X.G b\/X.w.heap.size<=b)(hr:cF (X.at G E) ρ ⟨ah,L⟩ a w)
 (hv:ak ρ (λid=>L[id]?) (bd ρ (λid=>L[id]?) G) w r v) (hK:K L r):ku X K (.returned v) w:=by
 have hs:Sat ρ (λid=>L[id]?) G w:=hr.sat;have hf:Step X.ρ X.H (bd X.ρ X.H G) X.w ρ (λid=>L[id]?) (bd ρ (λid=>L[id]?) G) w:=hr.ax;have less:∀b,bd ρ (λid=>L[id]?) X.G b->bd ρ (λid=>L[id]?) G b:=λb hb=>hb.imp id (iS b);refine⟨v,rfl,L,r,hK,ρ,⟨λid o ho=> ?_,hs.inj,λb hb hg=>hs.apart b hb (iS b hg),λb hb=>hs.low b (iS b hb)⟩, ?_, ?_,hr.jQ⟩
 have st:Step ρ (λid=>L[id]?) (bd ρ (λid=>L[id]?) G) w ρ (λid=>L[id]?) (bd ρ (λid=>L[id]?) X.G) w:=
  ⟨λ_ _ _=>rfl,λ_ o h=>⟨o,h,λc' e' e=>⟨c',e',e,rfl,rfl⟩⟩,λb h=>.inl (less b h),λ_ _ _=>rfl,le_refl _⟩
 exact(hs.obj id o ho).step st (λ_ _ _=>rfl)
 have st:Step ρ (λid=>L[id]?) (bd ρ (λid=>L[id]?) G) w ρ (λid=>L[id]?) (bd ρ (λid=>L[id]?) X.G) w:=
  ⟨λ_ _ _=>rfl,λ_ o h=>⟨o,h,λc' e' e=>⟨c',e',e,rfl,rfl⟩⟩,λb h=>.inl (less b h),λ_ _ _=>rfl,le_refl _⟩
 exact hv.step st;refine⟨hf.vH,hf.fq,λb hb=> ?_,λb hb hO=>hr.jQ.heap b hb (λho=>hO (.inl ho)),hf.size⟩;rcases hf.gy b (less b hb)with(h1|h1)|h1;exact .inl (.inl h1);rcases iZ b h1 with h2|h2;exact .inl (.inr h2);exact .inr h2;exact .inr h1
theorem acC{fr:Frame}{cs:List Frame}{D:Nat}{Ds:List Deferred}(hm:fr.mode=.returning)(hd:fr.defers=pU D::Ds)(h:w.heap[D]? =some (.deferred (some []))):
 step P (lone fr cs w)=.next (lone {fr with defers:=Ds} cs (w.putObj D (.deferred none))):=by
 have hr:=run_takeDeferred (P:=P) h;exact step_lone_go (by simp[stepG,unwind,hm,hd,pU,Sem.runT_eq,hr,GStep.bare_after])
theorem wA:∀(Ds:List Nat) {ρ:Nat->Value} {E2:List (Nat×Obj)} {a:Act} {w:World} {fr:Frame},((Ds.map (λD=>(D,Obj.deferred (some [])))++E2).map (·.1)).Nodup->
 cF (X.at G (Ds.map (λD=>(D,Obj.deferred (some [])))++E2)) ρ s a w->fr.mode=.returning->fr.defers=Ds.map pU->
 ∃w',cF (X.at G E2) ρ s a w'/\∀cs,Steps P (lone fr cs w) (lone {fr with defers:=[]} cs w')
 |[],ρ,E2,a,w,fr,hn,hr,hm,hd=>⟨w,hr,λcs=>by
    have:fr={fr with defers:=[]}:=by cases fr;simp only[map_nil]at hd;subst hd;rfl
    rw[<-this];exact .refl _ _⟩
 |D::Ds,ρ,E2,a,w,fr,hn,hr,hm,hd=>by
  simp only[map_cons,cons_append,List.nodup_cons]at hn;have kr:(D,Obj.deferred (some []))∈((D::Ds).map (λD=>(D,Obj.deferred (some [])))++E2):=by simp
  have hh:=(hr.bc _ kr).2.2
  have eR:cF (X.at G (Ds.map (λD=>(D,Obj.deferred (some [])))++E2)) ρ s a (w.putObj D (.deferred none)):=by
   refine hr.aoD kr (λy hy=>.inl ⟨by simp only[map_cons,cons_append,mem_cons];exact .inr hy,λe=>hn.1 (e▸List.mem_map_of_mem (f:=Prod.fst) hy)⟩)
  have⟨w',h1,h2⟩:=wA Ds (fr:={fr with defers:=Ds.map pU}) hn.2 eR hm rfl;exact⟨w',h1,λcs=>.head (acC hm hd hh) (h2 cs)⟩
def upE(l:Nat)(o:Obj)(E:List (Nat×Obj)):List (Nat×Obj):=E.map λx=>if x.1=l then(l,o)else x
theorem acD(l:Nat)(o:Obj)(E:List (Nat×Obj)):(upE l o E).map (·.1)=E.map (·.1):=by
 rw[upE,List.map_map];refine List.map_congr_left λx _=> ?_;simp only[Function.comp];split;rename_i h;exact h.symm;rfl
theorem rA{l:Nat}{o:Obj}{E:List (Nat×Obj)}(h:l ∉ E.map (·.1)):upE l o E=E:=by
 rw[upE,show E=E.map id from(List.map_id _).symm,List.map_map];refine List.map_congr_left λx hx=> ?_;simp only[Function.comp,id];rw[if_neg];rintro rfl;exact h (List.mem_map_of_mem hx)
theorem agR{l:Nat}{o:Obj}{E:List (Nat×Obj)}:∀y∈upE l o E,(y∈E/\y.1≠l)\/y=(l,o):=by
 intro y hy;simp only[upE,mem_map]at hy;obtain⟨x,hx,rfl⟩:=hy;split;exact .inr rfl;rename_i cX;exact .inl ⟨hx,cX⟩
theorem m7(l:Nat)(o:Obj)(E F:List (Nat×Obj)):upE l o (E++F)=upE l o E++upE l o F:=map_append
theorem WfS.len{f0:FuncId}:∀{ds:List tl} {vs:List Value} {E:List (Nat×Obj)} {fs:List Frame},WfS f0 ds vs E fs->vs.length=agG ds
 |[],vs,E,fs,h=>by rw[h.1];rfl
 |d::ds,vs,E,fs,h=>by
  obtain⟨v0,rv,v2,Ds,E1,E2,b,a,fs2,lv,lE,todo,rfl,rfl,rfl,h1,h2,h3,h4,h5⟩:=h
  have yy:rv.length=ia d.ch:=by
   have⟨r,_,h6⟩:=h3.fr;cases hd:d.ch<;>rw[hd]at h6<;>simp only[]at h6;rw[h6.1];rfl;obtain⟨l,rfl,_⟩:=h6;rfl
  have hlv:lv.length=ia d.lp.isSome:=by
   cases hd:d.lp<;>rw[hd]at h5<;>simp only[]at h5;rw[h5.1];rfl;obtain⟨l,D,rfl,_⟩:=h5;rfl
  simp only[length_append,length_map,agG,tl.size,h4.len,yy,hlv,h1,h2];omega
theorem wC{l l':Nat}(h:cH l=cH l'):l=l':=by
 simp only[cH,Value.func.injEq,Fn.yield.injEq]at h;exact h.1
theorem pe{f0:FuncId}{id:Nat}{d:tl}{L:Lp}{st:mw}{c8:List AV}:∀{ds:List tl} {aS:List AV} {vs:List Value} {E:List (Nat×Obj)} {fs:List Frame},
 kY id ds aS=some (d,L,st,c8)->WfS f0 ds vs E fs->(E.map (·.1)).Nodup->(∀t,ak ρ H O w (aS.getD t (.s .bk)) (vs.getD t undef))->
 ∃(l D:Nat) (v0:List Value),ρ id=cH l/\v0.length=d.n/\(l,Obj.loop (st.gC L (d.f.getD f0) v0.toArray D))∈E/\(∀t,t<d.n->ak ρ H O w (c8.getD t (.s .bk)) (v0.getD t undef))/\(aS.length=vs.length->c8.length=d.n)/\
  ∀qR,WfS f0 (jK id qR ds aS) vs (upE l (Obj.loop (qR.gC L (d.f.getD f0) v0.toArray D)) E) fs
 |[],aS,vs,E,fs,h,_,_,_=>by simp[kY]at h
 |e::ds,aS,vs,E,fs,h,hw,hn,hd=>by
  have hw0:=hw;obtain⟨v0,rv,v2,Ds,E1,E2,b,a,fs2,lv,lE,todo,rfl,rfl,rfl,h1,h2,h3,h4,h5⟩:=hw
  have yy:rv.length=ia e.ch:=by
   have⟨r,_,h6⟩:=h3.fr;cases hd:e.ch<;>rw[hd]at h6<;>simp only[]at h6
   ·rw[h6.1];rfl
   ·obtain⟨l,rfl,_⟩:=h6;rfl
  have hlv:lv.length=ia e.lp.isSome:=by
   cases hd:e.lp<;>rw[hd]at h5<;>simp only[]at h5
   ·rw[h5.1];rfl
   ·obtain⟨l,D,rfl,_⟩:=h5;rfl
  have auZ:∀t,ak ρ H O w ((aS.drop e.size).getD t (.s .bk)) (v2.getD t undef):=by
   intro t;have:=hd (e.size+t);have e1:(aS.drop e.size).getD t (.s .bk)=aS.getD (e.size+t) (.s .bk):=by simp[List.getD]
   have e2:(v0++(rv++(Ds.map ey++(lv++v2)))).getD (e.size+t) undef=v2.getD t undef:=by
    rw[show v0++(rv++(Ds.map ey++(lv++v2)))=(v0++(rv++(Ds.map ey++lv)))++v2 from by simp];rw[List.getD,getElem?_append_right (by simp only[length_append,length_map,yy,hlv,h1,h2,tl.size];omega)];rw[show e.size+t - (v0++(rv++(Ds.map ey++lv))).length=t from by simp only[length_append,length_map,yy,hlv,h1,h2,tl.size];omega];rfl
   rw[e1,<-e2];exact this
  have next:(kY id ds (aS.drop e.size)=some (d,L,st,c8))->(∀qR,jK id qR (e::ds) aS=e::jK id qR ds (aS.drop e.size))->
   ∃(l D:Nat) (qw:List Value),ρ id=cH l/\qw.length=d.n/\(l,Obj.loop (st.gC L (d.f.getD f0) qw.toArray D))∈(E1++(lE++E2))/\(∀t,t<d.n->ak ρ H O w (c8.getD t (.s .bk)) (qw.getD t undef))/\(aS.length=(v0++(rv++(Ds.map ey++(lv++v2)))).length->c8.length=d.n)/\
    ∀qR,WfS f0 (jK id qR (e::ds) aS) (v0++(rv++(Ds.map ey++(lv++v2)))) (upE l (Obj.loop (qR.gC L (d.f.getD f0) qw.toArray D)) (E1++(lE++E2))) (b.atR a todo::fs2):=by
   intro hf nX
   have uO:(E2.map (·.1)).Nodup:=by
    rw[map_append,map_append]at hn;exact(nodup_append.1 (nodup_append.1 hn).2.1).2.1
   have⟨l,D,qw,g1,g2,g3,g4,g5,g6⟩:=pe hf h4 uO auZ;have zo:l∈E2.map (·.1):=List.mem_map_of_mem (f:=Prod.fst) g3
   have hl1:l ∉ (E1++lE).map (·.1):=by
    intro hm;rw[<-append_assoc,map_append]at hn;exact(nodup_append.1 hn).2.2 l hm l zo rfl
   rw[map_append,mem_append,not_or]at hl1;refine⟨l,D,qw,g1,g2,by simp[g3],g4,λhl=>g5 ?_,λqR=> ?_⟩
   ·rw[length_drop,hl];simp only[length_append,length_map,yy,hlv,h1,h2,tl.size];omega
   ·rw[nX,m7,m7,rA hl1.1,rA hl1.2];exact⟨v0,rv,v2,Ds,E1,_,b,a,fs2,lv,lE,todo,rfl,rfl,rfl,h1,h2,h3,g6 qR,h5⟩
  unfold kY at h;split at h
  ·rename_i L' st0 hlp;rw[hlp]at h5;obtain⟨l,D,rfl,rfl,rfl⟩:=h5;split at h
   ·rename_i j hj;rw[cond_eq_ite]at h;split at h
    ·rename_i akT;have akT:j=id:=Nat.eq_of_beq_eq_true akT;subst akT;simp only[Option.some.injEq,Prod.mk.injEq]at h;obtain⟨rfl,rfl,rfl,rfl⟩:=h
     have kX:(v0++(rv++(Ds.map ey++([cH l]++v2)))).getD (e.n+ia e.ch+e.aY) undef=cH l:=by
      rw[show v0++(rv++(Ds.map ey++([cH l]++v2)))=(v0++(rv++Ds.map ey))++(cH l::v2)from by simp];rw[List.getD,getElem?_append_right (by simp only[length_append,length_map,yy,h1,h2];omega)];rw[show e.n+ia e.ch+e.aY - (v0++(rv++Ds.map ey)).length=0 from by simp only[length_append,length_map,yy,h1,h2];omega];rfl
     have lH:=hd (e.n+ia e.ch+e.aY);rw[hj,kX]at lH;unfold ak aO at lH;refine⟨l,D,v0,lH.1.symm,h1,by simp,λt ht=> ?_,λhl=> ?_,λqR=> ?_⟩
     ·have:=hd t;have e1:(aS.take e.n).getD t (.s .bk)=aS.getD t (.s .bk):=by simp[List.getD,getElem?_take,ht]
      have e2:(v0++(rv++(Ds.map ey++([cH l]++v2)))).getD t undef=v0.getD t undef:=by
       rw[List.getD,getElem?_append_left (by omega)];rfl
      rw[e1,<-e2];exact this
     ·rw[length_take,hl];simp only[length_append,h1];omega
     ·have hs:jK j qR (e::ds) aS={e with lp:=some (L',qR)}::ds:=by
       unfold jK;rw[hlp];simp only[hj,Nat.beq_eq_true_eq,cond_eq_ite,show Nat.beq j j=true from Nat.beq_refl j,if_true]
      rw[hs]
      have hl1:l ∉ E1.map (·.1):=by
       intro hm;rw[map_append]at hn;exact(nodup_append.1 hn).2.2 l hm l (by simp) rfl
      have zo:l ∉ E2.map (·.1):=by
       intro hm;rw[map_append,map_append]at hn;exact(nodup_append.1 (nodup_append.1 hn).2.1).2.2 l (by simp) l hm rfl
      rw[m7,m7,rA hl1,rA zo,show upE l (Obj.loop (qR.gC L' (e.f.getD f0) v0.toArray D)) [(l,Obj.loop (st0.gC L' (e.f.getD f0) v0.toArray D))]=[(l,Obj.loop (qR.gC L' (e.f.getD f0) v0.toArray D))]from by simp[upE]];exact⟨v0,rv,v2,Ds,E1,E2,b,a,fs2,_,_,_,rfl,rfl,rfl,h1,h2,h3,h4,⟨l,D,rfl,rfl,rfl⟩⟩
    ·rename_i akT;refine next h (λqR=> ?_)
     rw[show jK id qR (e::ds) aS=_ from by unfold jK;rw[hlp]];simp only[hj,cond_eq_ite,if_neg akT]
   ·rename_i hj;refine next h (λqR=> ?_)
    rw[jK,hlp]
    all_goals (try simp only[])
    all_goals (split<;>first|(rename_i j' kq;exact absurd kq (hj j'))|rfl)
  ·rename_i hlp;refine next h (λqR=> ?_)
   rw[show jK id qR (e::ds) aS=_ from by unfold jK;rw[hlp]]
end
section
variable{ρ aQ:Nat->Value}{H H':aV}{G G' O O' O2:Nat->Prop}{w w':World}{P:Program}{S:fO}{Z:bB}{X:Ctx}{s:St}{a:Act}{K:List au->AV->Prop}{C:cn->Prop}{ops:Array Oper}{E E':List (Nat×Obj)}
structure DP (ρ:Nat->Value) (H:aV) (O:Nat->Prop) (w:World) (T:List AV) (vs:List Value):Prop where
 len:T.length=vs.length
 get:∀t,ak ρ H O w (T.getD t (.s .bk)) (vs.getD t undef)
theorem acE(x:Array Value)(t:Nat):x.getD t undef=x.toList.getD t undef:=by
 rw[getD_eq_getD_getElem?,List.getD,Array.getElem?_toList]
theorem cF.dp(h:cF X ρ s a w):DP ρ s.aA (bd ρ s.aA X.G) w s.ah a.ah.toList:=
 ⟨by rw[h.size];simp,λt=>by rw[<-acE];exact h.den t⟩
theorem cF.c8(h:cF X ρ s a w){T:List AV}{vs:List Value}(hd:DP ρ s.aA (bd ρ s.aA X.G) w T vs):cF X ρ ⟨T,s.H⟩ ⟨vs.toArray,[]⟩ w:=
 ⟨h.sat,by simpa using hd.len,λt=>by rw[acE];exact hd.get t,rfl,h.ax,h.jQ,h.bc⟩
theorem DP.step{T:List AV}{vs:List Value}(h:DP ρ H O w T vs)(st:Step ρ H O w aQ H' O' w'):DP aQ H' O' w' T vs:=⟨h.len,λt=>(h.get t).step st⟩
theorem DP.nil:DP ρ H O w [] []:=⟨rfl,λt=>by simp only[List.getD_nil];unfold ak;trivial⟩
theorem DP.cons{x:AV}{v:Value}{T:List AV}{vs:List Value}(hx:ak ρ H O w x v)(h:DP ρ H O w T vs):DP ρ H O w (x::T) (v::vs):=
 ⟨by simp[h.len],λt=>by
   cases t with
   |zero=>simpa using hx
   |succ t=>simpa using h.get t⟩
theorem DP.append{T T':List AV}{vs vs':List Value}(h:DP ρ H O w T vs)(h':DP ρ H O w T' vs'):DP ρ H O w (T++T') (vs++vs'):=by
 refine⟨by simp[h.len,h'.len],λt=> ?_⟩;by_cases ht:t<T.length;have:=h.get t;simp only[List.getD]at this ⊢;rwa[getElem?_append_left ht,getElem?_append_left (h.len▸ht)];have:=h'.get (t - T.length);simp only[List.getD]at this ⊢;rwa[getElem?_append_right (by omega),getElem?_append_right (by have:=h.len;omega),<-h.len]
theorem DP.drop{T:List AV}{vs:List Value}(h:DP ρ H O w T vs)(n:Nat):DP ρ H O w (T.drop n) (vs.drop n):=
 ⟨by simp[h.len],λt=>by have:=h.get (n+t);simpa[List.getD]using this⟩
theorem DP.take{T:List AV}{vs:List Value}(h:DP ρ H O w T vs)(n:Nat):DP ρ H O w (T.take n) (vs.take n):=by
 refine⟨by simp[h.len],λt=> ?_⟩;have:=h.get t;simp only[List.getD,getElem?_take]at this ⊢;split;exact this;unfold ak;trivial
theorem DP.set{T:List AV}{vs:List Value}(h:DP ρ H O w T vs)(d:Nat){x:AV}{v:Value}(hx:ak ρ H O w x v):DP ρ H O w (T.set d x) (vs.set d v):=by
 refine⟨by simp[h.len],λt=> ?_⟩;rw[dh,dh,h.len];split;exact hx;exact h.get t
theorem DP.asE(n:Nat):DP ρ H O w (replicate n (.bD [])) (replicate n undef):=by
 induction n with
 |zero=>exact DP.nil
 |succ n ih=>exact DP.cons cZ ih
theorem DP.ofL:∀{aS:List AV} {vs:List Value},bV ρ H O w aS vs->DP ρ H O w aS vs
 |[],vs,h=>by rw[bo.1 h];exact DP.nil
 |x::aS,vs,h=>by
  obtain⟨v,rest,rfl,h1,h2⟩:=aI.1 h;exact DP.cons h1 (DP.ofL h2)
theorem DP.split{T1 T2:List AV}{v1 v2:List Value}(h:DP ρ H O w (T1++T2) (v1++v2))(hl:T1.length=v1.length):DP ρ H O w T1 v1/\DP ρ H O w T2 v2:=by
 have h1:=h.take T1.length;have h2:=h.drop T1.length;rw[List.take_left' rfl,hl,List.take_left' rfl]at h1;rw[List.drop_left' rfl,hl,List.drop_left' rfl]at h2;exact⟨h1,h2⟩
theorem DP.l5:∀(ps:List Tmp) {args:List AV} {us:List Value} {T:List AV} {vs:List Value},DP ρ H O w T vs->bV ρ H O w args us->DP ρ H O w (l5 T ps args) (l5 vs ps us)
 |[],args,us,T,vs,h,_=>h
 |p::ps,[],us,T,vs,h,hl=>by rw[bo.1 hl];exact h
 |p::ps,x::args,us,T,vs,h,hl=>by
  obtain⟨u,rest,rfl,h1,h2⟩:=aI.1 hl;exact DP.l5 ps (h.set p h1) h2
theorem afl:∀(ps:List Tmp) (us:List Value) (vs:List Value),(ps.toArray.zip us.toArray).foldl (λ(ah:Array Value) (x:Tmp×Value)=>ah.setIfInBounds x.1 x.2) vs.toArray=(l5 vs ps us).toArray:=by
 intro ps us vs;rw[<-Array.foldl_toList];simp only[Array.toList_zip]
 have:∀(l:List (Tmp×Value)) (vs:List Value),l.foldl (λ(ah:Array Value) (x:Tmp×Value)=>ah.setIfInBounds x.1 x.2) vs.toArray=(l.foldl (λt x=>t.set x.1 x.2) vs).toArray:=by
  intro l
  induction l with
  |nil=>intro vs;rfl
  |cons x l ih=>intro vs;simp only[List.foldl_cons,List.setIfInBounds_toArray];exact ih _
 exact this _ _
theorem aoE{o:Oper}{ev:Operand->AV}{e:Operand->Value}{g:AV}{args:List AV}(h:ru o ev=some (g,args))(hd:∀x∈o.op.operands,ak ρ H O w (ev x) (e x)):
 ∃(vf:Value) (us:List Value),ak ρ H O w g vf/\bV ρ H O w args us/\
  (∀f vs,vf=.func (.func f) #[] vs.toArray->jB P f=true->(execOp e o).run P w=.ok (.enter f (us++vs).toArray) w)/\
  (∀l,vf=cH l->∀r,w.heap[l]? =some (.loop r)->us.length=r.params.size->(execOp e o).run P w=.ok (.ch l r.fn ((r.params.zip us.toArray).foldl (λah (t,a)=>ah.setIfInBounds t a) r.ah) r.assign r.body) w):=by
 unfold ru at h;split at h;rename_i c ho;split at h;rename_i f hc;simp only[Option.some.injEq,Prod.mk.injEq]at h;obtain⟨rfl,rfl⟩:=h;have hf:=mf (hd f (by simp[ho,Op.operands,Call.operands,hc]));have hl:=oa c.args.toList (ev:=λx=>pQ (ev x)) (e:=e) (λx hx=>mf (hd x (by simp[ho,Op.operands,Call.operands,hc,Array.mem_toList_iff.1 hx])));have e1:(c.args.toList.map e).toArray=c.args.map e:=by apply toList_inj.1;simp
 refine⟨e f,c.args.toList.map e,hf,hl,λg vs hv gI=> ?_,λl hv r hr hs=> ?_⟩;have e2:(c.args.toList.map e++vs).toArray=c.args.map e++vs.toArray:=by apply toList_inj.1;simp
 rw[e2];simp[execOp,ho,resolve,hc,hv,Deferred.ofValue,invoke,iC gI];rw[e1];have hy:=run_yield (P:=P) (args:=c.args.map e) hr (by rw[<-hs];simp);simp only[cH]at hv;simp[execOp,ho,resolve,hc,hv,Deferred.ofValue,invoke,hy];cases h;cases h
def fM(P:Program)(f:FuncId)(R:Ending->World->Prop)(top:Frame)(fs:List Frame)(w:World):Prop:=
 ∀cs,∃e w' fr,R e w'/\Comes P (lone top (fs++cs) w) (lone fr cs w') e/\fr.fn=f/\fr.leaving P w' e
theorem fM.steps{f:FuncId}{R:Ending->World->Prop}{top au0:Frame}{fs qS:List Frame}(hs:∀cs,Steps P (lone top (fs++cs) w) (lone au0 (qS++cs) w'))(h:fM P f R au0 qS w'):fM P f R top fs w:=by
 intro cs;have⟨e,w2,fr,h1,h2,h3⟩:=h cs;exact⟨e,w2,fr,h1,Comes.of_steps (hs cs) h2,h3⟩
theorem uw{f0 f:FuncId}{c:cn}{args:List AV}{us:List Value}{wait:tl}{go:cn->Tree}{fs:List Frame}(h:(oe P c f args wait go).ba K C)(ou:∀c',(go c').ba K C->Safe P f0 X K c')
 (iS:∀b,X.G b->G b) (iZ:∀b,G b->X.G b\/X.w.heap.size<=b) (hr:cF (X.at G E) ρ ⟨c.ah,c.H⟩ a w) (hl:bV ρ (St.aA ⟨c.ah,c.H⟩) (bd ρ (St.aA ⟨c.ah,c.H⟩) G) w args us) (hn:(E.map (·.1)).Nodup)
 (hw:WfS f0 (wait::c.stk.below) a.ah.toList E fs):jB P f=true/\fM P f0 (ku X K) (Frame.enter P f us.toArray .normal) fs w:=by
 unfold oe at h;split at h;rename_i g hg;rw[cond_eq_ite]at h;split at h;rename_i hb;simp only[and_eq_true]at hb;have⟨gI,bK⟩:=hb;refine⟨gI, ?_⟩;have bK:args.length<=g.ntmps:=le_of_ble_eq_true bK;have hul:us.length=args.length:=(DP.ofL hl).len.symm
 have hb:g.body.isSome=true:=by
  unfold jB at gI;rw[hg]at gI;simp only[and_eq_true]at gI;exact gI.1
 have⟨cd,hcd⟩:=isSome_iff_exists.1 hb;have eR:=hr.c8 (((DP.ofL hl).append (DP.asE (g.ntmps - args.length))).append hr.dp);have ad:=ou _ h G E ρ _ w iS iZ eR {(default:Frame)with fn:=f,kind:=.normal,roundOf:=none} {ah:=(us++replicate (g.ntmps - args.length) undef).toArray,defers:=[]} fs
  ⟨hn,us++replicate (g.ntmps - args.length) undef,[],a.ah.toList,[],[],E,by simp,rfl,rfl,⟨⟨none,rfl,rfl,rfl⟩,rfl,rfl⟩,hw⟩
 have gg:Frame.enter P f us.toArray .normal=Frame.atR {(default:Frame)with fn:=f,kind:=.normal,roundOf:=none} {ah:=(us++replicate (g.ntmps - args.length) undef).toArray,defers:=[]} [.code (g.body.getD .skip)]:=by
  simp[Frame.enter,Frame.atR,hg,hcd,hul]
 rw[gg];exact ad;exact h.elim;exact h.elim
theorem acF{f0:FuncId}{c:cn}{id:Nat}{args:List AV}{us:List Value}{wait:tl}{go:cn->Tree}{fs:List Frame}{E0 E1:List (Nat×Obj)}{vs1:List Value}{fs1:List Frame}{v:Value}(h:(aaY c id args wait go).ba K C)(ou:∀c',(go c').ba K C->Safe P f0 X K c')
 (iS:∀b,X.G b->G b) (iZ:∀b,G b->X.G b\/X.w.heap.size<=b) (hr:cF (X.at G E) ρ ⟨c.ah,c.H⟩ a w) (hl:bV ρ (St.aA ⟨c.ah,c.H⟩) (bd ρ (St.aA ⟨c.ah,c.H⟩) G) w args us) (hn:(E.map (·.1)).Nodup)
 (hw:WfS f0 (wait::c.stk.below) a.ah.toList E fs) (hE:E=E0++E1) (hvs:a.ah.toList.drop (c.n+c.stk.extra)=vs1) (hb:WfS f0 c.stk.below vs1 E1 fs1) (au1:ak ρ (St.aA ⟨c.ah,c.H⟩) (bd ρ (St.aA ⟨c.ah,c.H⟩) G) w (.tag id) v):
 ∃l r,v=cH l/\w.heap[l]? =some (.loop r)/\us.length=r.params.size/\
  fM P f0 (ku X K) (Frame.ch l r.fn ((r.params.zip us.toArray).foldl (λah (t,a)=>ah.setIfInBounds t a) r.ah) r.assign r.body .normal) fs w:=by
 unfold aaY at h;split at h;rename_i d L st c8 hf;rw[cond_eq_ite]at h;split at h;rename_i hb1;simp only[and_eq_true]at hb1;have bK:args.length=L.ps.length:=Nat.eq_of_beq_eq_true hb1.1
 have hn1:(E1.map (·.1)).Nodup:=by
  rw[hE,map_append]at hn;exact(nodup_append.1 hn).2.1
 have hdp:=hr.dp.drop (c.n+c.stk.extra);rw[hvs]at hdp;have⟨l,D,v0,g1,g2,g3,g4,g5,g6⟩:=pe hf hb hn1 hdp.get;have lH:=au1;unfold ak aO at lH;have au2:c8.length=d.n:=g5 hdp.len;have kr:(l,Obj.loop (st.gC L (d.f.getD f0) v0.toArray D))∈E:=by rw[hE];exact mem_append_right _ g3
 have jI:=(hr.bc _ kr).2.2;have hul:us.length=args.length:=(DP.ofL hl).len.symm;refine⟨l,st.gC L (d.f.getD f0) v0.toArray D,lH.1.trans g1,jI,by rw[hul,bK];simp[mw.gC], ?_⟩
 have hsl:DP ρ (St.aA ⟨c.ah,c.H⟩) (bd ρ (St.aA ⟨c.ah,c.H⟩) G) w c8 v0:=⟨by rw[au2,g2],λt=>by
  by_cases ht:t<d.n;exact g4 t ht;have e1:c8.getD t (.s .bk)=.s .bk:=by rw[List.getD,getElem?_eq_none (by omega)];rfl
  rw[e1];unfold ak;trivial⟩
 have eR:=hr.c8 ((hsl.l5 L.ps hl).append (DP.cons au1 hr.dp));have hv:v=cH l:=lH.1.trans g1;have ad:=ou _ h G E ρ _ w iS iZ eR {(default:Frame)with fn:=d.f.getD f0,kind:=.normal,roundOf:=some l} {ah:=(l5 v0 L.ps us).toArray,defers:=[]} fs
  ⟨hn,l5 v0 L.ps us,[v],a.ah.toList,[],[],E,by simp,rfl,rfl,⟨⟨some l,rfl,l,by rw[hv],rfl⟩,rfl,rfl⟩,hw⟩
 have ez:Frame.ch l (st.gC L (d.f.getD f0) v0.toArray D).fn (((st.gC L (d.f.getD f0) v0.toArray D).params.zip us.toArray).foldl (λah (t,a)=>ah.setIfInBounds t a) (st.gC L (d.f.getD f0) v0.toArray D).ah) (st.gC L (d.f.getD f0) v0.toArray D).assign (st.gC L (d.f.getD f0) v0.toArray D).body .normal
  =Frame.atR {(default:Frame)with fn:=d.f.getD f0,kind:=.normal,roundOf:=some l} {ah:=(l5 v0 L.ps us).toArray,defers:=[]} [.code L.asg,.beginRound,.code L.body]:=by
  have:=afl L.ps us v0;simp only[mw.gC,Frame.ch,Frame.atR];rw[<-this]
 rw[ez];exact ad;exact h.elim;exact h.elim
end
section
variable{ρ aQ:Nat->Value}{H H':aV}{G O O':Nat->Prop}{w w':World}{P:Program}{S:fO}{Z:bB}{X:Ctx}{s:St}{a:Act}{K:List au->AV->Prop}{C:cn->Prop}
theorem acG{t:TypeId}{va v:Value}{w':World}(h:(Instr.loadAt t va).run P w=.ok v w'):(do loadVar t (<-asAddr va):Sem Value).run P w=.ok v w':=by
 cases va with
 |pointer o=>
  cases o with
  |none=>simp[Instr.loadAt,Instr.sureAddr]at h
  |some x=>simpa[Instr.loadAt,Instr.sureAddr,asAddr]using h
 |_=>simp[Instr.loadAt,Instr.sureAddr]at h
theorem oz(h:cF X ρ s a w):∀(rs:List ResultVar) {vs:List AV},gJ P s rs=some vs->
 ∃us:List Value,(rs.mapM (m:=Sem) λ|.tmp t=>pure (a.ah.getD t undef)|.cell x t=>do loadVar t (<-asAddr (a.ah.getD x undef))).run P w=.ok us w/\bV ρ s.aA (bd ρ s.aA X.G) w vs us
 |[],vs,hv=>by
  simp only[gJ,Option.some.injEq]at hv;subst hv;exact⟨[],by simp,bo.2 rfl⟩
 |.tmp t::rs,vs,hv=>by
  simp only[gJ,map_eq_some_iff]at hv;obtain⟨vs',h1,rfl⟩:=hv;have⟨us,h2,h3⟩:=oz h rs h1;refine⟨a.ah.getD t undef::us, ?_,aI.2 ⟨_,_,rfl,h.den t,h3⟩⟩;simp only[List.mapM_cons,Sem.run_bind,Sem.run_pure,andThen_ok,h2]
 |.cell t T::rs,vs,hv=>by
  simp only[gJ]at hv;split at hv;rename_i r vs' hr hrs;split at hv;rename_i e1 e2 e3;simp only[Option.some.injEq]at hv;subst hv;have⟨us,h2,h3⟩:=oz h rs hrs;have⟨_,_,v,h4,h5⟩:=ab5 hr (by rw[e1];trivial) h.sat (h.den t);refine⟨v::us, ?_,aI.2 ⟨_,_,rfl,h5 0,h3⟩⟩;have h6:=acG h4;simp only[List.mapM_cons];rw[Sem.run_bind,h6];simp only[andThen_ok,Sem.run_bind,h2,Sem.run_pure];cases hv;cases hv
theorem afm{fn:Func}(h:cF X ρ s a w){vs:List AV}(hv:gJ P s fn.results.toList=some vs):∃v,(results fn a.ah).run P w=.ok v w/\ak ρ s.aA (bd ρ s.aA X.G) w (oneOf vs) v:=by
 have⟨us,h1,h2⟩:=oz h _ hv
 have ad:(results fn a.ah).run P w=.ok (if h:us.toArray.size=1 then us.toArray[0]else .tuple us.toArray) w:=by
  unfold results;rw[Array.mapM_eq_mapM_toList];simp only[Sem.run_bind,Sem.run_map];erw [h1];rfl
 refine⟨_,ad, ?_⟩;unfold oneOf;split;rename_i x;obtain⟨v,rest,rfl,h3,h4⟩:=aI.1 h2;obtain rfl:=bo.1 h4;simpa using h3;rename_i cX
 have:¬us.toArray.size=1:=by
  intro h0;cases us with
  |nil=>simp at h0
  |cons u us=>
   cases us with
   |nil=>
    cases vs with
    |nil=>have:=bo.1 h2;cases this
    |cons y ys=>
     have⟨v,rest,e,h3,h4⟩:=aI.1 h2;cases e;cases ys with
     |nil=>exact cX y rfl
     |cons z zs=>
      have⟨v',au3,e',_⟩:=aI.1 h4;cases e'
   |cons _ _=>simp at h0
 rw[dif_neg this];unfold ak;exact⟨us,rfl,h2⟩
end
section
variable{ρ aQ:Nat->Value}{H H':aV}{G G' O O' O2:Nat->Prop}{w w':World}{P:Program}{S:fO}{Z:bB}{X:Ctx}{s:St}{a:Act}{K:List au->AV->Prop}{C:cn->Prop}{ops:Array Oper}{E E':List (Nat×Obj)}
theorem afn{T:List AV}{vs:List Value}(h:DP ρ H O w T vs)(dst:Option Tmp){x:AV}{v:Value}(hx:ak ρ H O w x v):DP ρ H O w (dd T dst x) (match dst with|some d=>vs.set d v|none=>vs):=by
 cases dst with
 |none=>exact h
 |some d=>exact h.set d hx
theorem ux{f0:FuncId}{c:cn}{v:AV}{u:Value}{below:List tl}{go:cn->Tree}{vs1:List Value}{fs:List Frame}(h:(resume c v below go).ba K C)(ou:∀c',(go c').ba K C->Safe P f0 X K c')
 (iS:∀b,X.G b->G b) (iZ:∀b,G b->X.G b\/X.w.heap.size<=b) (hr:cF (X.at G E) ρ ⟨c.ah,c.H⟩ a w) (hvs:a.ah.toList.drop (c.n+c.stk.extra)=vs1) (hb:WfS f0 below vs1 E fs) (hn:(E.map (·.1)).Nodup)
 (hv:ak ρ (St.aA ⟨c.ah,c.H⟩) (bd ρ (St.aA ⟨c.ah,c.H⟩) G) w v u):∃fr fs1,fs=fr::fs1/\fM P f0 (ku X K) (fr.finish u) fs1 w:=by
 unfold resume at h;split at h;rename_i d ds;simp only[]at h;split at h;rename_i ops i rest td hlp nE;simp only[cond_eq_ite]at h;split at h;rename_i lG;have⟨v0,rv,v2,Ds,E1,E2,b,t,fs2,lv,lE,todo,e1,e2,e3,h1,h2,h3,h4,h5⟩:=hb;rw[hlp]at h5;obtain⟨rfl,rfl,rfl⟩:=h5;rw[nE]at e3;refine⟨_,_,e3, ?_⟩;rw[Frame.finish_atR];have hdp:=afn (hr.dp.drop (c.n+c.stk.extra)) ((ops[i]?).bind (·.dst)) hv;have eR:=hr.c8 hdp
 have hdn:∀d',(ops[i]?).bind (·.dst)=some d'->d'<v0.length:=λd' hd=>by
  rw[hd]at lG;rw[h1];simpa[Nat.blt,Nat.lt_iff_add_one_le]using lG
 refine ou _ h G E ρ _ w iS iZ eR b (t.put ((ops[i]?).bind (·.dst)) u) fs2 ⟨hn,match(ops[i]?).bind (·.dst)with|some d'=>v0.set d' u|none=>v0,rv,v2,Ds,E1,E2, ?_,by rw[e2];rfl,h2,⟨h3.fr, ?_,h3.ghost⟩,h4⟩;rw[hvs,e1];cases hd:(ops[i]?).bind (·.dst)with
 |none=>simp
 |some d'=>
  simp only[List.toList_toArray];rw[List.set_append_left _ _ (hdn d' hd)];simp
 rw[h3.act];cases hd:(ops[i]?).bind (·.dst)with
 |none=>rfl
 |some d'=>simp[Act.put]
 exact h.elim;exact h.elim;exact h.elim
theorem pf{f0:FuncId}{c:cn}{vs:List Value}{v0 rv v2:List Value}{Ds:List Nat}{E1 E2:List (Nat×Obj)}{b:Frame}{t:Act}{fs:List Frame}(hl:c.ah.length=vs.length)(e:vs=v0++(rv++(Ds.map ey++v2)))(hd:Ds.length=c.stk.aY)
 (h3:akM f0 c.stk.ch v0 rv Ds E1 b t) {f1:FuncId} (h4:WfS f1 c.stk.below v2 E2 fs):v0.length=c.n/\rv.length=ia c.stk.ch/\vs.drop (c.n+c.stk.extra)=v2:=by
 have yy:rv.length=ia c.stk.ch:=by
  have⟨r,_,h6⟩:=h3.fr;cases hd:c.stk.ch<;>rw[hd]at h6<;>simp only[]at h6;rw[h6.1];rfl;obtain⟨l,rfl,_⟩:=h6;rfl
 have h0:v0.length=c.n:=by
  unfold cn.n;rw[hl,e];simp only[length_append,length_map,yy,hd,h4.len,ur.extra];omega
 refine⟨h0,yy, ?_⟩;rw[e,show v0++(rv++(Ds.map ey++v2))=(v0++(rv++Ds.map ey))++v2 from by simp];exact List.drop_left' (by simp only[length_append,length_map,yy,hd,h0,ur.extra])
theorem afo{f0:FuncId}{c:cn}{fn g:Func}{vs:List AV}{go:cn->Tree}{b:Frame}{t:Act}{fs:List Frame}{todo:List Item}(hf:P.funcs[f0]? =some fn)(hg:c.stk.fn P fn=some g)(ez:c.stk.ch=false)
 (afg:gJ P ⟨c.ah.take c.n,c.H⟩ g.results.toList=some vs) (h:(agK c (oneOf vs) go).ba K C) (ou:∀c',(go c').ba K C->Safe P f0 X K c')
 (iS:∀b,X.G b->G b) (iZ:∀b,G b->X.G b\/X.w.heap.size<=b) (hr:cF (X.at G E) ρ ⟨c.ah,c.H⟩ a w) (hw:Wf f0 c.stk a.ah.toList E b t fs):
 fM P f0 (ku X K) {b.atR t todo with mode:=.returning} fs w:=by
 obtain⟨hn,v0,rv,v2,Ds,E1,E2,e1,rfl,hd,h3,h4⟩:=hw;have⟨l0,l1,l2⟩:=pf hr.dp.len e1 hd h3 h4;have hgE:=h3.ghost;subst hgE;have hb:=h3.fr;rw[ez]at hb;obtain⟨r,rfl,yy,hrr⟩:=hb;subst yy hrr;have asF:=h3.act;subst asF;have⟨w',eR,mY⟩:=wA (P:=P) Ds (fr:={Frame.atR {(default:Frame)with fn:=c.stk.f.getD f0,kind:=.normal,roundOf:=none} {ah:=v0.toArray,defers:=Ds.map pU} todo with mode:=.returning}) hn hr rfl rfl
 have uO:(E2.map (·.1)).Nodup:=by
  rw[map_append]at hn;exact(nodup_append.1 hn).2.1
 have qx:DP ρ (St.aA ⟨c.ah,c.H⟩) (bd ρ (St.aA ⟨c.ah,c.H⟩) G) w' (c.ah.take c.n) v0:=by
  have:=eR.dp.take c.n;rw[e1,List.take_left' l0]at this;exact this
 have hrt:=eR.c8 qx;have⟨u,jf,lH⟩:=afm (fn:=g) hrt afg
 have hfn:P.funcs[c.stk.f.getD f0]? =some g:=by
  unfold ur.fn at hg;split at hg;rename_i h0;rw[h0];cases hg;exact hf;rename_i g' h0;rw[h0];exact hg
 let fr:Frame:={Frame.atR {(default:Frame)with fn:=c.stk.f.getD f0,kind:=.normal,roundOf:=none} {ah:=v0.toArray,defers:=Ds.map pU} todo with mode:=.returning,defers:=[]};have qu:fr.leaving P w' (.returned u):=⟨rfl,rfl,rfl,g,hfn,jf⟩;refine fM.steps (λcs=>mY (fs++cs)) ?_;show fM P f0 (ku X K) fr fs w';have aoF:a.ah.toList.drop (c.n+c.stk.extra)=v2:=l2;unfold agK at h;split at h;rename_i asG;rw[asG]at h4;obtain⟨_,_,rfl⟩:=h4;intro cs;rw[cond_eq_ite]at h;split at h;rename_i hk;refine⟨.returned u,w',fr,ku.asD iS iZ eR lH h,Steps.refl _ _, ?_,qu⟩;show c.stk.f.getD f0=f0;rw[Option.isNone_iff_eq_none.1 hk];rfl;exact h.elim;rename_i d ds asG;split at h;rename_i hlp;obtain⟨fr1,fs1,rfl,ad⟩:=ux h ou iS iZ eR aoF h4 uO lH;exact fM.steps (λcs=>.one (step_leave_returned qu)) ad;exact h.elim;rename_i L st axK hlp;rw[asG]at h4;have⟨qw,rv',v2',Ds',E1',E2',b',t',fs2,lv,lE,azr,e1',e2',e3',h1',h2',h3',h4',h5'⟩:=h4;rw[hlp]at h5';obtain⟨l,D,rfl,rfl,rfl⟩:=h5';subst e3' e2';have kr:(l,Obj.loop (st.gC L (d.f.getD f0) qw.toArray D))∈(E1'++([(l,Obj.loop (st.gC L (d.f.getD f0) qw.toArray D))]++E2')):=by simp
 have jI:=(eR.bc _ kr).2.2
 have hnb:(st.gC L (d.f.getD f0) qw.toArray D).state≠.busy:=by
  unfold mw.gC;cases st with
  |busy=>exact absurd rfl (axK)
  |ready=>simp
  |done c=>simp
 have aoG:=run_endLoop (P:=P) jI hnb
 have hl1:l ∉ E1'.map (·.1):=by
  intro hm;rw[map_append]at uO;exact(nodup_append.1 uO).2.2 l hm l (by simp) rfl
 have zo:l ∉ E2'.map (·.1):=by
  intro hm;rw[map_append,map_append]at uO;exact(nodup_append.1 (nodup_append.1 uO).2.1).2.2 l (by simp) l hm rfl
 have yz:cF (X.at G (E1'++E2')) ρ ⟨c.ah,c.H⟩ a (w'.putObj l (.loop {st.gC L (d.f.getD f0) qw.toArray D with state:=.exhausted})):=
  eR.aoD kr (λy hy=>.inl (by
   rcases mem_append.1 hy with h6|h6;exact⟨by simp[h6],λe=>hl1 (e▸List.mem_map_of_mem (f:=Prod.fst) h6)⟩;exact⟨by simp[h6],λe=>zo (e▸List.mem_map_of_mem (f:=Prod.fst) h6)⟩))
 have hn3:((E1'++E2').map (·.1)).Nodup:=by
  rw[map_append,map_append]at uO;rw[map_append];have⟨n1,n2,n3⟩:=nodup_append.1 uO;exact nodup_append.2 ⟨n1,(nodup_append.1 n2).2.1,λx hx y hy=>n3 x hx y (mem_append_right _ hy)⟩
 have hdp:DP ρ (St.aA ⟨c.ah,c.H⟩) (bd ρ (St.aA ⟨c.ah,c.H⟩) G) (w'.putObj l (.loop {st.gC L (d.f.getD f0) qw.toArray D with state:=.exhausted}))
  ((c.ah.drop (c.n+c.stk.extra)).take (d.n+ia d.ch+d.aY)++(c.ah.drop (c.n+c.stk.extra)).drop (d.n+ia d.ch+d.aY+1)) (qw++(rv'++(Ds'.map ey++v2'))):=by
  have au4:rv'.length=ia d.ch:=by
   have⟨r,_,h6⟩:=h3'.fr;cases hd:d.ch<;>rw[hd]at h6<;>simp only[]at h6;rw[h6.1];rfl;obtain⟨l,rfl,_⟩:=h6;rfl
  have h6:=yz.dp.drop (c.n+c.stk.extra);rw[aoF,e1']at h6;have h7:=(h6.take (d.n+ia d.ch+d.aY)).append (h6.drop (d.n+ia d.ch+d.aY+1));rw[show qw++(rv'++(Ds'.map ey++([cH l]++v2')))=(qw++(rv'++Ds'.map ey))++([cH l]++v2')from by simp]at h7
  rw[List.take_left' (by simp only[length_append,length_map,au4,h1',h2'];omega),show(qw++(rv'++Ds'.map ey))++([cH l]++v2')=((qw++(rv'++Ds'.map ey))++[cH l])++v2' from by simp,
   List.drop_left' (by simp only[length_append,length_map,au4,h1',h2',length_cons,length_nil];omega)]at h7
  rw[append_assoc,append_assoc]at h7;exact h7
 have hr3:=yz.c8 hdp;have ad:=ou _ h G (E1'++E2') ρ _ _ iS iZ hr3 b' t' fs2 ⟨hn3,qw,rv',v2',Ds',E1',E2',by simp,rfl,h2',h3',h4'⟩;refine fM.steps (λcs=>.head (step_leave_returned qu) ?_) ad;rw[finish_atR_inRangeFunc];refine .one ?_;have:=stepR_endRangeFunc (P:=P) (b:=b') (a:=t') (k:=d.todo) (cs:=fs2++cs) aoG;rw[List.append_eq];rw[this];cases st<;>rfl
theorem qy{f0:FuncId}{c:cn}{jump:Option Code}{go:cn->Tree}{b:Frame}{t:Act}{fs:List Frame}{todo:List Item}(ez:c.stk.ch=true)
 (h:(acx c jump go).ba K C) (ou:∀c',(go c').ba K C->Safe P f0 X K c')
 (iS:∀b,X.G b->G b) (iZ:∀b,G b->X.G b\/X.w.heap.size<=b) (hr:cF (X.at G E) ρ ⟨c.ah,c.H⟩ a w) (hw:Wf f0 c.stk a.ah.toList E b t fs)
 (au5:∀(l:Nat) (w':World) (c0:Frame) (cs:List Frame),b.roundOf=some l->b.kind=.normal->(Instr.endRound l jump).run P w=.ok (.bool jump.isNone) w'->step P (lone (b.atR t todo) (c0::cs) w)=.next (lone (c0.finish (.bool jump.isNone)) cs w')):
 fM P f0 (ku X K) (b.atR t todo) fs w:=by
 obtain⟨hn,v0,rv,v2,Ds,E1,E2,e1,rfl,hd,h3,h4⟩:=hw;have⟨l0,l1,l2⟩:=pf hr.dp.len e1 hd h3 h4;have hb:=h3.fr;rw[ez]at hb;obtain⟨r,rfl,l,yy,hrr⟩:=hb;subst yy hrr;unfold acx at h;split at h;rename_i id dN;rw[cond_eq_ite]at h;split at h;rename_i hm
 have hD0:Ds=[]:=by
  have:=Nat.eq_of_beq_eq_true hm;exact List.eq_nil_of_length_eq_zero (hd.trans this)
 subst hD0;have hgE:E1=[]:=h3.ghost;subst hgE;split at h;rename_i y hf;have⟨d,L,st,c8⟩:=y;have hdp:=hr.dp.drop (c.n+c.stk.extra);rw[l2]at hdp;have uO:(E2.map (·.1)).Nodup:=by simpa using hn
 have⟨l',D,qw,g1,g2,g3,g4,g5,g6⟩:=pe hf h4 uO hdp.get
 have kX:a.ah.toList.getD c.n undef=cH l:=by
  rw[e1,List.getD,getElem?_append_right (by omega),show c.n - v0.length=0 from by omega];rfl
 have lH:=hr.dp.get c.n;rw[dN,kX]at lH;unfold ak aO at lH;have hll:l'=l:=wC (g1.symm.trans lH.1.symm);subst hll;have jI:=(hr.bc _ (show _∈([]++E2)from g3)).2.2;have aoG:=run_endRound (P:=P) jump jI
 have axL:({st.gC L (d.f.getD f0) qw.toArray D with state:=if jump.isNone then .ready else .done,pending:=jump}:Loop)=(match jump with|none=>mw.ready|some j=>mw.done j).gC L (d.f.getD f0) qw.toArray D:=by
  cases jump<;>rfl
 rw[axL]at aoG
 have yz:cF (X.at G (upE l' (Obj.loop ((match jump with|none=>mw.ready|some j=>mw.done j).gC L (d.f.getD f0) qw.toArray D)) E2)) ρ ⟨c.ah,c.H⟩ a (w.putObj l' (Obj.loop ((match jump with|none=>mw.ready|some j=>mw.done j).gC L (d.f.getD f0) qw.toArray D))):=
  hr.aoD (show(l',Obj.loop (st.gC L (d.f.getD f0) qw.toArray D))∈([]++E2)from g3) (λy hy=>by
   rcases agR y hy with h6|h6;exact .inl h6;exact .inr h6)
 obtain⟨fr1,fs1,rfl,ad⟩:=ux (u:=.bool jump.isNone) h ou iS iZ yz l2 (g6 _) (by rw[acD];exact uO) (aJ (.aT _));exact fM.steps (λcs=>.one (au5 l' _ fr1 (fs1++cs) rfl rfl aoG)) ad;exact h.elim;exact h.elim;exact h.elim
theorem uy{f0 f:FuncId}{c:cn}{dF:List AV}{cvs:List Value}{L:Lp}{td:List Item}{go:cn->Tree}{b:Frame}{t:Act}{fs:List Frame}{g:Operand}{asg body:Code}{ps:Array Tmp}(hL:L=⟨ps.toList,asg,body⟩)
 (h:(aaZ P c f dF L td go).ba K C) (ou:∀c',(go c').ba K C->Safe P f0 X K c')
 (iS:∀b,X.G b->G b) (iZ:∀b,G b->X.G b\/X.w.heap.size<=b) (hr:cF (X.at G E) ρ ⟨c.ah,c.H⟩ a w) (hw:Wf f0 c.stk a.ah.toList E b t fs)
 (hg:t.eval g=.func (.func f) #[] cvs.toArray) (hl:bV ρ (St.aA ⟨c.ah,c.H⟩) (bd ρ (St.aA ⟨c.ah,c.H⟩) G) w dF cvs):
 fM P f0 (ku X K) (b.atR t (.code (.rangeFunc g ps asg body)::td)) fs w:=by
 unfold aaZ at h;rw[cond_eq_ite]at h;split at h;exact h.elim;rename_i ez;have ez:c.stk.ch=false:=by simpa using ez
 obtain⟨hn,v0,rv,v2,Ds,E1,E2,e1,rfl,hd,h3,h4⟩:=hw;have⟨l0,l1,l2⟩:=pf hr.dp.len e1 hd h3 h4;have hb:=h3.fr;rw[ez]at hb;obtain⟨r,rfl,yy,hrr⟩:=hb;subst yy hrr;have hgE:=h3.ghost;subst hgE;have asF:=h3.act;subst asF;let Dn:=w.heap.size;let ln:=w.heap.size+1;let rB:Loop:=mw.ready.gC L (c.stk.f.getD f0) v0.toArray Dn;have⟨r1,s1⟩:=hr.grow (.deferred (some [])) (ey Dn);have⟨r2,s2⟩:=r1.grow (.loop rB) (cH ln);have cq:(w.alloc (.deferred (some []))).heap.size=ln:=ga;rw[cq]at r2 s2
 have hold:∀x∈(Ds.map (λD=>(D,Obj.deferred (some [])))++E2).map (·.1),x<Dn:=λx hx=>by
  obtain⟨y,hy,rfl⟩:=mem_map.1 hx;exact(Array.getElem?_eq_some_iff.1 (hr.bc y hy).2.2).1
 have r3:=r2.sub (E':=(Dn::Ds).map (λD=>(D,Obj.deferred (some [])))++([(ln,Obj.loop rB)]++E2)) (λy hy=>by
  simp only[map_cons,cons_append,mem_cons,mem_append,nil_append]at hy ⊢;rcases hy with rfl|hy|rfl|hy;exact .inr (.inl rfl);exact .inr (.inr (.inl hy));exact .inl rfl;exact .inr (.inr (.inr hy)))
 have hn3:(((Dn::Ds).map (λD=>(D,Obj.deferred (some [])))++([(ln,Obj.loop rB)]++E2)).map (·.1)).Nodup:=by
  rw[map_append]at hn;have⟨n1,n2,n3⟩:=nodup_append.1 hn;rw[map_append,map_append];refine nodup_append.2 ⟨?_, ?_, ?_⟩;rw[map_cons,map_cons,List.nodup_cons];exact⟨λhm=>absurd (hold Dn (by rw[map_append];exact List.mem_append_left _ hm)) (Nat.lt_irrefl _),n1⟩;rw[map_cons,map_nil,List.singleton_append,List.nodup_cons];exact⟨λhm=>absurd (hold ln (by rw[map_append];exact mem_append_right _ hm)) (by omega),n2⟩;intro x hx y hy hxy;subst hxy;simp only[map_cons,map_nil,mem_cons,mem_append,List.not_mem_nil,or_false]at hx hy;rcases hx with rfl|hx;rcases hy with hy|hy;omega;exact absurd (hold Dn (by rw[map_append];exact mem_append_right _ hy)) (Nat.lt_irrefl _);rcases hy with rfl|hy;exact absurd (hold ln (by rw[map_append];exact List.mem_append_left _ hx)) (by omega);exact n3 x hx x hy rfl
 let L0:=c.H++[au.aB]++[au.aB];let G2:Nat->Prop:=λb=>(G b\/b=w.heap.size)\/b=ln;let gD:=qv (qv ρ c.H.length (ey Dn)) (c.H++[au.aB]).length (cH ln);have azt:(c.H++[au.aB]).length=c.H.length+1:=by simp
 have axM:gD (c.H.length+1)=cH ln:=by simp[gD,qv]
 have axN:gD c.H.length=ey Dn:=by simp[gD,qv]
 have au6:(St.aA ⟨c.ah,L0⟩) c.H.length=some .aB:=by simp[St.aA,L0]
 have au7:(St.aA ⟨c.ah,L0⟩) (c.H.length+1)=some .aB:=by simp[St.aA,L0]
 have d3:=r3.dp
 have axO:ak gD (St.aA ⟨c.ah,L0⟩) (bd gD (St.aA ⟨c.ah,L0⟩) G2) ((w.alloc (.deferred (some []))).alloc (.loop rB)) (.tag c.H.length) (ey Dn):=by
  unfold ak aO;exact⟨axN.symm,rfl,by rw[au6];rfl⟩
 have au8:ak gD (St.aA ⟨c.ah,L0⟩) (bd gD (St.aA ⟨c.ah,L0⟩) G2) ((w.alloc (.deferred (some []))).alloc (.loop rB)) (.tag (c.H.length+1)) (cH ln):=by
  unfold ak aO;exact⟨axM.symm,rfl,by rw[au7];rfl⟩
 have axP:DP gD (St.aA ⟨c.ah,L0⟩) (bd gD (St.aA ⟨c.ah,L0⟩) G2) ((w.alloc (.deferred (some []))).alloc (.loop rB))
  (c.ah.take c.n++.tag c.H.length::((c.ah.drop c.n).take c.stk.aY++.tag (c.H.length+1)::c.ah.drop (c.n+c.stk.aY))) (v0++([]++((Dn::Ds).map ey++([cH ln]++v2)))):=by
  have e2:a.ah.toList=v0++(Ds.map ey++v2):=by simpa using e1
  have a1:=d3.take c.n;have a2:=(d3.drop c.n).take c.stk.aY;have a3:=d3.drop (c.n+c.stk.aY);rw[e2,List.take_left' l0]at a1;rw[e2,List.drop_left' l0,List.take_left' (by rw[length_map,hd])]at a2;rw[e2,show v0++(Ds.map ey++v2)=(v0++Ds.map ey)++v2 from by simp,List.drop_left' (by rw[length_append,length_map,hd,l0])]at a3;have:=a1.append (DP.cons axO (a2.append (DP.cons au8 a3)));exact this
 have r4:=r3.c8 axP;have asH:Step ρ (St.aA ⟨c.ah,c.H⟩) (bd ρ (St.aA ⟨c.ah,c.H⟩) G) w gD (St.aA ⟨c.ah,L0⟩) (bd gD (St.aA ⟨c.ah,L0⟩) G2) ((w.alloc (.deferred (some []))).alloc (.loop rB)):=s1.trans s2
 have gB:bV gD (St.aA ⟨c.ah,L0⟩) (bd gD (St.aA ⟨c.ah,L0⟩) G2) ((w.alloc (.deferred (some []))).alloc (.loop rB)) (.tag (c.H.length+1)::dF) (cH ln::cvs):=
  aI.2 ⟨_,_,rfl,au8,bV.step asH _ _ hl⟩
 have agS:WfS f0 (⟨c.stk.f,c.n,false,c.stk.aY+1,some (L,.ready),td,((iD L.body).getD 0,0)⟩::c.stk.below) (v0++([]++((Dn::Ds).map ey++([cH ln]++v2))))
  ((Dn::Ds).map (λD=>(D,Obj.deferred (some [])))++([(ln,Obj.loop rB)]++E2))
  ((Frame.atR {(default:Frame)with fn:=c.stk.f.getD f0,kind:=.normal,roundOf:=none} {ah:=v0.toArray,defers:=(Dn::Ds).map pU} (.inRangeFunc ln::td))::fs):=
  ⟨v0,[],v2,Dn::Ds,_,E2,_,_,fs,[cH ln],[(ln,Obj.loop rB)],_,rfl,rfl,rfl,l0,by simp[hd],⟨⟨none,rfl,rfl,rfl⟩,rfl,rfl⟩,h4,⟨ln,Dn,rfl,rfl,rfl⟩⟩
 have ad:=uw (us:=cH ln::cvs) h ou (λb hb=>.inl (.inl (iS b hb))) (λb hb=>by
  have hle:X.w.heap.size<=w.heap.size:=hr.ax.size;rcases hb with(hb|hb)|hb;exact iZ b hb;exact .inr (by omega);exact .inr (by omega)) r4 gB hn3 (by simpa using agS)
 have⟨gI,ad⟩:=ad;refine fM.steps (λcs=>.one ?_) ad;have he:=run_enterLoop_outer (P:=P) (w:=w) (c.stk.f.getD f0) v0.toArray ps asg body
 have au9:rB={state:=.ready,pending:=none,fn:=c.stk.f.getD f0,ah:=v0.toArray,params:=ps,assign:=asg,body:=body,defers:=w.heap.size}:=by
  simp only[rB,mw.gC,hL,Dn]
 rw[<-au9]at he;refine stepR_rangeFunc (b:={(default:Frame)with fn:=c.stk.f.getD f0,kind:=.normal,roundOf:=none}) (a:={ah:=v0.toArray,defers:=Ds.map pU}) (ps:=ps) (assign:=asg) (body:=body) (w:=w) (l:=ln) (w₁':=(w.alloc (.deferred (some []))).alloc (.loop rB)) (d:={target:=.fn (.func f) cvs.toArray,args:= #[cH ln]}) he ?_ ?_;simp only[resolve,hg];simp[go_sem,cH,ln];have:=iC gI (#[cH ln]++cvs.toArray) ((w.alloc (.deferred (some []))).alloc (.loop rB));simp only[invoke];rw[this];simp
end
section
variable{ρ aQ:Nat->Value}{H H':aV}{G O O':Nat->Prop}{w w':World}{P:Program}{S:fO}{Z:bB}{X:Ctx}{s:St}{a:Act}{K:List au->AV->Prop}{C:cn->Prop}{ops:Array Oper}
def wpC(P:Program)(ops:Array Oper)(Q:Act->World->Prop):Nat->Array Bool->Act->World->Prop
 |0,_,a,w=>Q a w
 |fuel+1,listed,a,w=>Region.ready .any ops listed≠[]/\∀i∈Region.ready .any ops listed,wpOp P ops (λe a w=>e=.normal/\Q a w) i (wpC P ops Q fuel (listed.setIfInBounds i true)) a w
theorem ai5{Q:Act->World->Prop}:∀(fuel t:Nat) (listed:Array Bool) (a:Act) (w:World),wpC P ops Q fuel listed a w->
 wpOps P ops (λe a w=>e=.normal/\Q a w) (Region.linearise.go .any ops fuel t listed []) a w:=by
 intro fuel
 induction fuel with
 |zero=>intro t listed a w h;simpa[Region.linearise.go,wpOps,wpC]using h
 |succ fuel ih=>
  intro t listed a w h;have⟨h₀,h₁⟩:=h;simp only[Region.linearise.go]
  change wpOps P ops _ (match(Region.ready .any ops listed)[t%(Region.ready .any ops listed).length]? with
   |some i=>Region.linearise.go .any ops fuel (t / (Region.ready .any ops listed).length) (listed.setIfInBounds i true) [i]
   |none=>[].reverse) a w
  cases hi:(Region.ready .any ops listed)[t%(Region.ready .any ops listed).length]? with
  |none=>
   exfalso;cases hr:Region.ready .any ops listed with
   |nil=>exact h₀ hr
   |cons x xs=>
    rw[hr]at hi;have bA:t%(x::xs).length<(x::xs).length:=Nat.mod_lt _ (by simp);simp at hi;simp at bA;omega
  |some i=>
   simp only[];rw[linearise_go_acc,List.reverse_singleton,List.singleton_append,wpOps_cons];exact wpOp_mono (λa w=>ih _ _ a w) (h₁ i (List.mem_of_getElem? hi))
theorem gm{listed:Array Bool}{i:Nat}(hi:i∈Region.ready .any ops listed):i<ops.size/\listed.getD i true=false/\∃o,ops[i]? =some o/\∀e∈o.after,Region.binds .any e=true->listed.getD e.on false=true:=by
 simp only[Region.ready,List.mem_filter,mem_range,and_eq_true]at hi;have⟨h1,h2,h3⟩:=hi;refine⟨h1,by simpa using h2, ?_⟩;cases ho:ops[i]? with
 |none=>rw[ho]at h3;simp at h3
 |some o=>
  rw[ho]at h3;simp only[map_some,getD_some,Array.all_eq_true]at h3;refine⟨o,rfl,λe he hb=> ?_⟩;obtain⟨n,hn,rfl⟩:=Array.mem_iff_getElem.1 he;have:=h3 n hn;rw[hb]at this;simpa using this
theorem wD{listed:Array Bool}(cq:listed.size=ops.size)(heb:ei ops=true){i:Nat}(hi:i<ops.size)(hn:listed.getD i true=false)(hl:∀k,k<i->listed.getD k true=true):i∈Region.ready .any ops listed:=by
 simp only[Region.ready,List.mem_filter,mem_range,and_eq_true];have ho:ops[i]? =some ops[i]:=Array.getElem?_eq_getElem hi;refine⟨hi,by simpa using hn, ?_⟩;rw[ho];simp only[map_some,getD_some,Array.all_eq_true];intro n hn;have hb:ei ops=true:=heb;simp only[ei,all_eq_true,mem_range]at hb;have hb:=hb i hi;rw[ho]at hb;simp only[Array.all_eq_true]at hb;have hb:=hb n hn;cases hbi:Region.binds .any (ops[i].after[n])with
 |false=>simp
 |true=>
  rw[hbi]at hb;have hon:(ops[i].after[n]).on<i:=by simpa[Nat.blt,Nat.lt_iff_add_one_le]using hb
  have cX:=hl _ hon;have dv:(ops[i].after[n]).on<listed.size:=by omega
  simp only[Array.getD,dv,dif_pos]at cX ⊢;simpa using cX
theorem wF{j i k:Nat}(h:wv ops j=true)(hi:i<ops.size)(hj:j<=i)(hk:k<i):gQ ops i k=true:=by
 have h1:=all_eq_true.1 h i (mem_range.2 hi);rw[Bool.or_eq_true]at h1;rcases h1 with h1|h1;have:i<j:=by simpa[Nat.blt,Nat.lt_iff_add_one_le]using h1
 omega;exact all_eq_true.1 h1 k (mem_range.2 hk)
def Down(ops:Array Oper)(listed:Array Bool):Prop:=∀i o,ops[i]? =some o->listed.getD i false=true->∀e∈o.after,Region.binds .any e=true->listed.getD e.on false=true
theorem ai6{listed:Array Bool}{i:Nat}(h:listed.getD i false=true):listed.getD i true=true:=by
 simp only[getD_eq_getD_getElem?]at h ⊢;cases hx:listed[i]? with
 |none=>rw[hx]at h;simp at h
 |some b=>rw[hx]at h;simpa using h
theorem oC{listed:Array Bool}(hd:Down ops listed){i k:Nat}(hi:i∈Region.ready .any ops listed)(ha:gQ ops i k=true):listed.getD k true=true:=by
 have⟨h1,h2,o,ho,h3⟩:=gm hi;exact ai6 (jv (L:=λi=>listed.getD i false=true) hd 9 ho h3 ha)
theorem Down.set{listed:Array Bool}(hd:Down ops listed){i:Nat}(hi:i∈Region.ready .any ops listed):Down ops (listed.setIfInBounds i true):=by
 have⟨h1,h2,o,ho,h3⟩:=gm hi
 have fq:∀j,listed.getD j false=true->(listed.setIfInBounds i true).getD j false=true:=λj hj=>by
  simp only[getD_eq_getD_getElem?,Array.getElem?_setIfInBounds]at hj ⊢;split;split<;>simp_all;exact hj
 intro k o' dP fG e he hb;by_cases hif:k=i;subst hif;rw[ho]at dP;cases dP;exact fq _ (h3 e he hb);refine fq _ (hd k o' dP ?_ e he hb);simp only[getD_eq_getD_getElem?,Array.getElem?_setIfInBounds,if_neg (Ne.symm hif)]at fG ⊢;exact fG
theorem agT{listed:Array Bool}(cq:listed.size=ops.size){i k:Nat}(hi:i<ops.size):(listed.setIfInBounds i true).getD k true=if k=i then true else listed.getD k true:=by
 simp only[getD_eq_getD_getElem?,Array.getElem?_setIfInBounds];by_cases hjf:i=k;subst hjf;simp[cq,hi];simp[hjf,Ne.symm hjf]
theorem agU(heb:ei ops=true){j:Nat}(hc:wv ops j=true):∀(m t i:Nat) (listed:Array Bool),i+m=ops.size->j<=i->listed.size=ops.size->Down ops listed->(∀k,k<ops.size->(listed.getD k true=false↔i<=k))->
 Region.linearise.go .any ops m t listed []=range' i m
 |0,t,i,listed,_,_,_,_,_=>rfl
 |m+1,t,i,listed,him,hj,cq,hd,hl=>by
  have hr:Region.ready .any ops listed=[i]:=by
   have kr:i∈Region.ready .any ops listed:=wD cq heb (by omega) ((hl i (by omega)).2 (le_refl _)) (λk hk=>by
    cases h:listed.getD k true with
    |true=>rfl
    |false=>have:=(hl k (by omega)).1 h;omega)
   have zw:∀k∈Region.ready .any ops listed,k=i:=λk hk=>by
    have⟨h1,h2,_⟩:=gm hk;have h3:=(hl k h1).1 h2;rcases lt_or_ge i k with h4|h4;have:=oC hd hk (wF hc h1 (by omega) h4);rw[(hl i (by omega)).2 (le_refl _)]at this;cases this;omega
   have iu:(Region.ready .any ops listed).Nodup:=List.Nodup.sublist List.filter_sublist List.nodup_range;generalize Region.ready .any ops listed=l at *
   match l,kr,zw,iu with
   |[x],kr,zw,iu=>rw[zw x (by simp)]
   |x::y::l,kr,zw,iu=>
    have h1:=zw x (by simp);have h2:=zw y (by simp);rw[h1,h2]at iu;simp at iu
  simp only[Region.linearise.go]
  change (match(Region.ready .any ops listed)[t%(Region.ready .any ops listed).length]? with
   |some i=>Region.linearise.go .any ops m (t / (Region.ready .any ops listed).length) (listed.setIfInBounds i true) [i]
   |none=>[].reverse)=_
  rw[hr];simp only[List.length_singleton,Nat.mod_one,List.getElem?_cons_zero];rw[linearise_go_acc,List.reverse_singleton,List.singleton_append,List.range'_succ];congr 1;have kr:i∈Region.ready .any ops listed:=by rw[hr];simp
  refine agU heb hc m _ (i+1) _ (by omega) (by omega) (by simp[cq]) (hd.set kr) (λk hk=> ?_);rw[agT cq (by omega)];by_cases hki:k=i;subst hki;simp;rw[if_neg hki,hl k hk];omega
theorem acH(heb:ei ops=true){j:Nat}(hj:j<=ops.size)(hc:wv ops j=true):∀(m t:Nat) (listed:Array Bool) (us:List Nat),us.length=m->us.Nodup->(∀i∈us,i<j)->listed.size=ops.size->Down ops listed->
 (∀k,k<ops.size->(listed.getD k true=false↔k∈us\/j<=k))->Region.linearise.go .any ops (m+(ops.size - j)) t listed []=Region.linearise.go .any ops m t listed []++range' j (ops.size - j)
 |0,t,listed,us,hm,_,_,cq,hd,hl=>by
  obtain rfl:us=[]:=List.length_eq_zero_iff.1 hm;rw[zero_add,agU heb hc (ops.size - j) t j listed (by omega) (le_refl _) cq hd (λk hk=>by rw[hl k hk];simp)];rfl
 |m+1,t,listed,us,hm,iu,bA,cq,hd,hl=>by
  rw[show m+1+(ops.size - j)=(m+(ops.size - j))+1 from by omega];simp only[Region.linearise.go]
  change (match(Region.ready .any ops listed)[t%(Region.ready .any ops listed).length]? with
   |some i=>Region.linearise.go .any ops (m+(ops.size - j)) (t / (Region.ready .any ops listed).length) (listed.setIfInBounds i true) [i]
   |none=>[].reverse)=(match(Region.ready .any ops listed)[t%(Region.ready .any ops listed).length]? with
   |some i=>Region.linearise.go .any ops m (t / (Region.ready .any ops listed).length) (listed.setIfInBounds i true) [i]
   |none=>[].reverse)++_
  obtain⟨mn,hmn,asI⟩:∃i∈us,∀k∈us,i<=k:=by
   cases us with
   |nil=>simp at hm
   |cons x xs=>
    clear iu bA hl hm
    induction xs generalizing x with
    |nil=>exact⟨x,by simp,by simp⟩
    |cons y ys ih=>
     have⟨i,h1,h2⟩:=ih y;rcases Nat.le_total x i with h3|h3
     exact⟨x,by simp,λk hk=>by
      rcases mem_cons.1 hk with rfl|hk;exact le_refl _;exact le_trans h3 (h2 k hk)⟩
     exact⟨i,mem_cons_of_mem _ h1,λk hk=>by
      rcases mem_cons.1 hk with rfl|hk;exact h3;exact h2 k hk⟩
  have hr0:mn∈Region.ready .any ops listed:=by
   have h1:=bA mn hmn;refine wD cq heb (by omega) ((hl mn (by omega)).2 (.inl hmn)) (λk hk=> ?_);cases h:listed.getD k true with
   |true=>rfl
   |false=>
    rcases(hl k (by omega)).1 h with h2|h2;have:=asI k h2;omega;omega
  cases hi:(Region.ready .any ops listed)[t%(Region.ready .any ops listed).length]? with
  |none=>
   exfalso;cases hr:Region.ready .any ops listed with
   |nil=>rw[hr]at hr0;simp at hr0
   |cons x xs=>
    rw[hr]at hi;have bA:t%(x::xs).length<(x::xs).length:=Nat.mod_lt _ (by simp);simp at hi;simp at bA;omega
  |some i=>
   simp only[];have kr:=List.mem_of_getElem? hi;have⟨h1,h2,_⟩:=gm kr
   have lI:i∈us:=by
    rcases(hl i h1).1 h2 with h3|h3;exact h3;have h4:=bA mn hmn;have:=oC hd kr (wF hc h1 h3 (show mn<i by omega));rw[(hl mn (by omega)).2 (.inl hmn)]at this;cases this
   rw[linearise_go_acc _ _ (m+(ops.size - j)),linearise_go_acc _ _ m,append_assoc];congr 1;refine acH heb hj hc m _ _ (us.erase i) (by rw[List.length_erase_of_mem lI];omega) (iu.erase i) (λk hk=>bA k (List.mem_of_mem_erase hk)) (by simp[cq]) (hd.set kr) (λk hk=> ?_);rw[agT cq h1];by_cases hki:k=i;subst hki;have:=bA k lI;simp only[if_true,Bool.true_eq_false,false_iff,not_or];exact⟨λh=>(List.Nodup.not_mem_erase iu) h,by omega⟩;rw[if_neg hki,hl k hk,List.Nodup.mem_erase_iff iu];simp[hki]
theorem wG(heb:ei ops=true){j:Nat}(hj:j<=ops.size)(hc:wv ops j=true)(t:Nat):
 Region.linearise .any ops t=Region.linearise.go .any ops j t (Array.replicate ops.size false) []++range' j (ops.size - j):=by
 have:=acH heb hj hc j t (Array.replicate ops.size false) (List.range j) List.length_range List.nodup_range (λi hi=>mem_range.1 hi) (by simp)
  (λi o _ hi=>by rw[getD_eq_getD_getElem?,Array.getElem?_replicate]at hi;split at hi<;>simp at hi) (λk hk=>by
    simp only[getD_eq_getD_getElem?,Array.getElem?_replicate,hk,if_true,getD_some,true_iff,mem_range];omega)
 rw[show j+(ops.size - j)=ops.size from by omega]at this;exact this
theorem aa6{j0:Nat}(ai7:wv ops j0=true)(hS:SOk P S Z)(nB:eO Z X)(heb:ei ops=true){T':List AV}{H':aV}{Q:Act->World->Prop}(hQ:∀aQ a' w',my X aQ T' H' a' w'->Q a' w'):
 ∀(fuel:Nat) (listed:Array Bool) (es:List El) (T:List AV) (H:aV) (ρ:Nat->Value) (a:Act) (w:World),es.length=fuel->listed.size=ops.size->es.Pairwise (qt ops)->
 (∀e∈es,e.i<j0)->(∀i,i<ops.size->(listed.getD i true=false↔(∃e∈es,e.i=i)\/j0<=i))->(∀i o,ops[i]? =some o->listed.getD i false=true->∀e∈o.after,Region.binds .any e=true->listed.getD e.on false=true)->my X ρ T H a w->oo P S ops T H es T' H'->wpC P ops Q fuel listed a w:=by
 intro fuel
 induction fuel with
 |zero=>
  intro listed es T H ρ a w bK cq hp akU hl hdc afk hc;obtain rfl:es=[]:=List.length_eq_zero_iff.1 bK;obtain⟨rfl,rfl⟩:=hc;exact hQ _ _ _ afk
 |succ fuel ih=>
  intro listed es T H ρ a w bK cq hp akU hl hdc afk hc
  have first:∃e∈es,e.i∈Region.ready .any ops listed:=by
   cases es with
   |nil=>simp at bK
   |cons e es=>
    have ho:=hc.1.op;have bA:e.i<ops.size:=(Array.getElem?_eq_some_iff.1 ho).1;refine⟨e,by simp,wD cq heb bA ((hl e.i bA).2 (.inl ⟨e,by simp,rfl⟩)) (λk hk=> ?_)⟩;have hej:=akU e (by simp);cases h:listed.getD k true with
    |true=>rfl
    |false=>
     rcases(hl k (by omega)).1 h with⟨f,hf1,hf2⟩|h2;rcases mem_cons.1 hf1 with rfl|hf1;omega;have:=((pairwise_cons.1 hp).1 f hf1).1;omega;omega
  refine⟨λhr=> ?_,λi hi=> ?_⟩;have⟨e,_,he⟩:=first
  rw[hr]at he;simp at he;have⟨h1,h2,o,ho,h3⟩:=gm hi
  obtain⟨f,hf,rfl⟩:∃e∈es,e.i=i:=by
   rcases(hl i h1).1 h2 with h|h;exact h;have⟨e,he1,he2⟩:=first
   have⟨h4,h5,_⟩:=gm he2;have h6:=akU e he1;have:=oC hdc hi (wF ai7 h1 h (show e.i<i by omega));rw[h5]at this;cases this
  obtain⟨pre,post,rfl⟩:=List.append_of_mem hf;have mz:∀e∈pre,qt ops e f:=λe he=>(List.pairwise_append.1 hp).2.2 e he f (by simp)
  have asA:∀e∈pre,acz ops e f:=by
   intro e he;rcases(mz e he).2 with h4|h4;exfalso;have h8:listed.getD e.i false=true:=jv (L:=λi=>listed.getD i false=true) hdc 9 ho h3 h4;have bA:e.i<ops.size:=by have:=(mz e he).1;omega
   have h9:=(hl e.i bA).2 (.inl ⟨e,by simp[he],rfl⟩);have dv:e.i<listed.size:=by omega
   simp only[Array.getD,dv,dif_pos]at h8 h9;rw[h8]at h9;cases h9;exact h4
  have⟨kv,hch⟩:=front pre hc asA;refine agN hS nB kv afk (λaQ a' w' eR=> ?_)
  have fq:∀j,listed.getD j false=true->(listed.setIfInBounds f.i true).getD j false=true:=λj hj=>by
   simp only[getD_eq_getD_getElem?,Array.getElem?_setIfInBounds]at hj ⊢;split;split<;>simp_all;exact hj
  have asB:∀i o,ops[i]? =some o->(listed.setIfInBounds f.i true).getD i false=true->∀e∈o.after,Region.binds .any e=true->(listed.setIfInBounds f.i true).getD e.on false=true:=by
   intro i o' dP fG e he hb;by_cases hif:i=f.i;subst hif;rw[ho]at dP;cases dP;exact fq _ (h3 e he hb);refine fq _ (hdc i o' dP ?_ e he hb);simp only[getD_eq_getD_getElem?,Array.getElem?_setIfInBounds,if_neg (Ne.symm hif)]at fG ⊢;exact fG
  refine ih _ (pre++post) _ _ aQ a' w' ?_ (by simp[cq]) ?_ (λe he=>akU e (by
   rcases mem_append.1 he with he|he;exact mem_append.2 (.inl he);exact mem_append.2 (.inr (mem_cons_of_mem _ he)))) ?_ asB eR hch
  simp only[length_append,length_cons]at bK ⊢;omega;exact hp.sublist (List.Sublist.append (List.Sublist.refl _) (List.sublist_cons_self _ _));intro j hj
  have akE:∀e∈pre++post,e.i≠f.i:=by
   intro e he;rcases mem_append.1 he with he|he;have:=(mz e he).1;omega;have:=(pairwise_cons.1 (List.pairwise_append.1 hp).2.1).1 e he;have:=this.1;omega
  have dv:j<listed.size:=by omega
  have asC:(listed.setIfInBounds f.i true).getD j true=if j=f.i then true else listed.getD j true:=by
   simp only[getD_eq_getD_getElem?,Array.getElem?_setIfInBounds];by_cases hjf:f.i=j;subst hjf;simp[dv];simp[hjf,Ne.symm hjf]
  rw[asC];by_cases hjf:j=f.i;subst hjf;have:=akU f hf;simp only[if_true,Bool.true_eq_false,false_iff,not_or,not_exists,not_and];exact⟨akE,by omega⟩;rw[if_neg hjf,hl j hj];constructor;rintro(⟨e,he,rfl⟩|h);refine .inl ⟨e, ?_,rfl⟩;simp only[mem_append,mem_cons]at he ⊢;rcases he with he|rfl|he;exact .inl he;exact(hjf rfl).elim;exact .inr he;exact .inr h;rintro(⟨e,he,rfl⟩|h);refine .inl ⟨e, ?_,rfl⟩;simp only[mem_append,mem_cons]at he ⊢;rcases he with he|he;exact .inl he;exact .inr (.inr he);exact .inr h
theorem afp{j0:Nat}(hj0:j0<=ops.size)(ai7:wv ops j0=true)(hS:SOk P S Z)(nB:eO Z X){cont:St->List Touch->Tree}(hso:iF ops=true)(heb:ei ops=true)(h:(lZ P S ops cont 0 (ops.toList.take j0) s []).ba K C)(hcl:∀s' qT,(cont s' qT).ba K C->jh ops qT=true)
 {Q:Act->World->Prop} (hQ:∀aQ s' qT a' w',(cont s' qT).ba K C->cF X aQ s' a' w'->Q a' w') (hr:cF X ρ s a w):wpC P ops Q j0 (Array.replicate ops.size false) a w:=by
 have⟨es,s',qT,T',g1,g2,g3,g4,g5,g6⟩:=gR (ops.toList.take j0) 0 s [] s.ah (λj o hj=>by
  rw[getElem?_take]at hj;split at hj;simpa using hj;cases hj) h rfl (λt=>.inl rfl)
 have hcf:=gX _ (hcl _ _ g1);rw[g6,append_nil,List.pairwise_reverse,List.pairwise_map,List.pairwise_filter]at hcf;have yj:=wz g2
 have ach:es.Pairwise (λe f=>e.i<f.i):=by
  have:(es.map El.i).Pairwise (· < ·):=by rw[g5];exact List.pairwise_lt_range'
  rwa[List.pairwise_map]at this
 have aa4:es.Pairwise (qt ops):=by
  refine(hcf.and ach).imp_of_mem (λ{e f} he hf ⟨hc,bA⟩=>⟨bA, ?_⟩);cases hna:gQ ops f.i e.i with
  |true=>exact .inl rfl
  |false=>
   refine .inr ?_;have⟨s1,s2⟩:=uv hso (yj e he) (yj f hf) bA hna
   have hh:(∀id∈e.wr,id ∉ f.rd/\id ∉ f.wr)/\∀id∈f.wr,id ∉ e.rd:=by
    cases hqe:e.q with
    |none=>
     have e1:e.wr=[]:=by simp[El.wr,hqe]
     have e2:=kZ g2 e he hqe;exact⟨λid dN=>by rw[e1]at dN;simp at dN,λid _=>by rw[e2];simp⟩
    |some qe=>
     cases hqf:f.q with
     |none=>
      have e1:f.wr=[]:=by simp[El.wr,hqf]
      have e2:=kZ g2 f hf hqf;exact⟨λid _=>by rw[e1,e2];simp,λid dN=>by rw[e1]at dN;simp at dN⟩
     |some qf=>
      rcases hc (by rw[hqe];rfl) (by rw[hqf];rfl)with h1|h1;exact Touch.wy (a:=e.nu) (b:=f.nu) h1;exact(by rw[show f.nu.i=f.i from rfl,show e.nu.i=e.i from rfl,hna]at h1;cases h1)
   exact⟨s1,s2,hh.1,hh.2⟩
 have bK:es.length=j0:=by
  have:=congrArg List.length g5;simp only[length_map,List.length_range',length_take,length_toList]at this;omega
 refine aa6 ai7 hS nB heb (λaQ a' w' eR=>hQ aQ s' qT a' w' g1 ⟨eR.sat,g3▸eR.size,λt=>(g4 t).den (eR.den t),eR.defers,eR.ax,eR.jQ,eR.bc⟩) j0 _ es s.ah s.aA ρ a w bK (by simp) aa4 (λe he=> ?_) ?_ (λi o _ hi=>by rw[getD_eq_getD_getElem?,Array.getElem?_replicate]at hi;split at hi<;>simp at hi) hr.toF g2;have:e.i∈es.map El.i:=List.mem_map_of_mem he;rw[g5,List.mem_range'_1,length_take]at this;omega;intro i hi;simp only[getD_eq_getD_getElem?,Array.getElem?_replicate,hi,if_true,getD_some,true_iff];rcases lt_or_ge i j0 with h1|h1;have:i∈es.map El.i:=by rw[g5,List.mem_range'_1,length_take,length_toList];omega
 obtain⟨e,he,rfl⟩:=mem_map.1 this;exact .inl ⟨e,he,rfl⟩;exact .inr h1
end
section
variable{ρ aQ:Nat->Value}{H H':aV}{G O O':Nat->Prop}{w w':World}{P:Program}{Z:bB}{X:Ctx}{s:St}{a:Act}
theorem wH{id:Nat}{c:a8}{o:au}:(acv id c o).alive=o.alive:=by cases o<;>rfl
theorem akV{id:Nat}{c:a8}{o:au}{c':a8}{e':TypeId}(h:acv id c o=.aq c' e'):o=.aq c' e':=by
 cases o<;>simp[acv]at h ⊢;exact h
theorem cF.ai8(h:cF X ρ s a w)(id:Nat):cF X ρ (acw s id) a w:=by
 unfold acw;split;rename_i c e ho;have hs:=h.sat;have bA:id<s.H.length:=(getElem?_eq_some_iff.1 ho).1;let s':St:=⟨s.ah.map (od id c),(s.H.map (acv id c)).set id .aB⟩
 have aA:∀j,s'.aA j=if j=id then some .aB else(s.aA j).map (acv id c):=by
  intro j;show((s.H.map (acv id c)).set id .aB)[j]? =_;rw[getElem?_set];by_cases hj:id=j;subst hj;simp[bA];rw[if_neg hj,if_neg (Ne.symm hj),getElem?_map];rfl
 have ra:∀b,Own ρ s'.aA b->Own ρ (aF s.aA id .aB) b:=by
  rintro b ⟨j,o,hj,h1,h2⟩;rw[aA]at hj;by_cases e1:j=id;rw[if_pos e1]at hj;cases hj;cases h1;rw[if_neg e1]at hj;obtain⟨o0,h3,rfl⟩:=map_eq_some_iff.1 hj;exact⟨j,o0,by simp[aF,e1,h3],by rw[wH]at h1;exact h1,h2⟩
 have ay:∀b,Own ρ s'.aA b->Own ρ s.aA b:=λb hb=>fA (ra b hb)
 have st:Step ρ s.aA (bd ρ s.aA X.G) w ρ s'.aA (bd ρ s'.aA X.G) w:=by
  refine⟨λ_ _ _=>rfl,λj o hj=> ?_,λb hb=>.inl (hb.imp (ay b) (λx=>x)),λ_ _ _=>rfl,le_refl _⟩;by_cases e1:j=id;exact⟨.aB,by rw[aA,if_pos e1],λc' e' he=>by cases he⟩;refine⟨acv id c o,by rw[aA,if_neg e1,hj];rfl,λc' e' he=> ?_⟩;exact⟨c',e',akV he,rfl,rfl⟩
 have gone:bg (bd ρ s'.aA X.G) w (.ro c) (ρ id):=(rr hs ho).aq8 λb hb=>hb.imp (ra b) (λx=>x)
 have eqv:∀{j:Nat} {v:Value},aO ρ s.aA (bd ρ s.aA X.G) w (.aq j) v->j=id->v=ρ id:=by
  intro j v hv e1;subst e1;unfold aO at hv;have⟨_,o,h1,h2⟩:=hv;have h3:s.aA j=some (.aq c e):=ho;rw[h3]at h1;cases h1;exact h2 c e rfl
 have afq:∀x cs,aU ρ s.aA (bd ρ s.aA X.G) w x cs->aU ρ s'.aA (bd ρ s'.aA X.G) w (oc id c x) cs:=by
  intro x cs hx;have mY:=aU.step st x cs hx;cases x<;>try exact mY
  rename_i j;simp only[oc,cond_eq_ite];split;rename_i hj;have hj:j=id:=by simpa using hj
  unfold aU at hx ⊢;obtain⟨u,rfl,hu⟩:=hx;exact⟨u,rfl,by rw[eqv hu hj];exact gone⟩;exact mY
 have m8:∀(xs:List AV) cs,aE ρ s.aA (bd ρ s.aA X.G) w xs cs->aE ρ s'.aA (bd ρ s'.aA X.G) w (xs.map (oc id c)) cs:=by
  intro xs
  induction xs with
  |nil=>intro cs hx;exact aH.2 (aH.1 hx)
  |cons x xs ih=>
   intro cs hx;obtain⟨c1,c2,rfl,h1,h2⟩:=ao.1 hx;exact ao.2 ⟨c1,c2,rfl,afq _ _ h1,ih _ h2⟩
 have asJ:∀x v,ak ρ s.aA (bd ρ s.aA X.G) w x v->ak ρ s'.aA (bd ρ s'.aA X.G) w (od id c x) v:=by
  intro x v hx;have mY:=ak.step st x v hx;cases x with
  |agg aD=>
   unfold ak at hx;obtain⟨cs,rfl,h1⟩:=hx;show ak _ _ _ _ (.agg _) _;unfold ak;exact⟨cs,rfl,m8 _ _ h1⟩
  |aq j=>
   simp only[od,cond_eq_ite];split;rename_i hj;have hj:j=id:=by simpa using hj
   unfold ak at hx;rw[eqv hx hj];exact aJ gone;exact mY
  |_=>exact mY
 refine⟨⟨λj o hj=> ?_,λi j oi oj b h1 h2 h3 h4 h5 h6=> ?_,λb hb=>hs.apart b (ay b hb),hs.low⟩,by rw[<-h.size];exact length_map _,λt=> ?_,h.defers,h.ax.trans st,h.jQ,h.bc⟩;have hj:s'.aA j=some o:=hj;rw[aA]at hj;by_cases e1:j=id;rw[if_pos e1]at hj;cases hj;trivial;rw[if_neg e1]at hj;obtain⟨o0,h3,rfl⟩:=map_eq_some_iff.1 hj;have e9:=hs.obj j o0 h3;cases o0 with
 |ay aD e1=>
  have⟨b,cells,fr,g1,g2,g3,g4⟩:=e9;exact⟨b,cells,fr,g1,g2,g3,m8 _ _ g4⟩
 |_=>exact e9.step st (λ_ _ _=>rfl)
 have ad:∀i oi,s'.aA i=some oi->oi.alive=true->∃x,s.aA i=some x/\x.alive=true:=by
  intro i oi hi ha;rw[aA]at hi;by_cases e1:i=id;rw[if_pos e1]at hi;cases hi;cases ha;rw[if_neg e1]at hi;obtain⟨o0,h3,rfl⟩:=map_eq_some_iff.1 hi;exact⟨o0,h3,by rw[wH]at ha;exact ha⟩
 have⟨x,hx,hxa⟩:=ad i oi h1 h3;have⟨y,hy,hya⟩:=ad j oj h2 h4;exact hs.inj i j x y b hx hy hxa hya h5 h6
 have e1:(s.ah.map (od id c)).getD t (.s .bk)=od id c (s.ah.getD t (.s .bk)):=by
  rw[List.getD_eq_getElem?_getD,List.getD_eq_getElem?_getD,getElem?_map];cases s.ah[t]? <;>rfl
 show ak _ _ _ _ ((s.ah.map (od id c)).getD t (.s .bk)) _;rw[e1];exact asJ _ _ (h.den t);exact h
theorem cF.ava(ids:List Nat):∀{s:St},cF X ρ s a w->cF X ρ (ids.foldl acw s) a w:=by
 induction ids with
 |nil=>intro s h;exact h
 |cons id ids ih=>intro s h;exact ih (h.ai8 id)
theorem cF.iE(h:cF X ρ s a w)(o:Oper):cF X ρ (iE s o) a w:=by
 unfold Sx.iE;split;exact h.ava _;split;exact h.ava _;exact h;exact h
end
section
variable{ρ aQ:Nat->Value}{H H':aV}{G O O':Nat->Prop}{w w':World}{P:Program}{S:fO}{Z:bB}{X:Ctx}{s:St}{a:Act}{K:List au->AV->Prop}{C:cn->Prop}{ops:Array Oper}{E E':List (Nat×Obj)}
theorem kx.tmp{n:Nat}{rest:List Value}{Ds:List Nat}{a t:Act}(h:kx n rest Ds a t){o:Oper}{i:Nat}(dv:rz n rest ops)(ho:ops[i]? =some o):Region.wanted o (yielded ops t.ah)=Region.wanted o (yielded ops a.ah):=(h.same dv ho).2
theorem m9(hS:SOk P S Z)(nB:eO Z X){f0:FuncId}{R:Ending->World->Prop}{enter:St->Nat->Oper->Option Tree}{cont:St->Tree}{n:Nat}{rest:List Value}{Ds:List Nat}{b:Frame}{k:List Item}{fs:List Frame}
 (iu:iG ops=true) (dv:rz n rest ops)
 (akW:∀s,(cont s).ba K C->∀ρ a t w,cF X ρ s a w->kx n rest Ds a t->cT P f0 R b t k fs w)
 (gg:∀s i o tr,enter s i o=some tr->tr.ba K C->∀ρ a t w,ops[i]? =some o->Region.wanted o (yielded ops a.ah)=true->cF X ρ s a w->kx n rest Ds a t->
   cT P f0 R b t (.inRegion ops (range' i (ops.size - i))::k) fs w):
 ∀(l:List Oper) (i:Nat) (s:St),(∀j,l[j]? =ops[i+j]?)->i+l.length=ops.size->(lO P S ops enter cont i l s).ba K C->∀(ρ:Nat->Value) (a t:Act) (w:World),cF X ρ s a w->kx n rest Ds a t->
  cT P f0 R b t (.inRegion ops (range' i l.length)::k) fs w
 |[],i,s,hl,cq,h,ρ,a,t,w,hr,ht=>cT.step (λ_=>stepR_region_end) (akW s h ρ a t w hr ht)
 |o::l,i,s,hl,cq,h,ρ,a,t,w,hr,ht=>by
  have ho:ops[i]? =some o:=by simpa using(hl 0).symm
  have hl':∀j,l[j]? =ops[i+1+j]? :=λj=>by
   have:=hl (j+1);rw[show i+(j+1)=i+1+j from by omega]at this;simpa using this
  have aiC:i+1+l.length=ops.size:=by simp only[length_cons]at cq;omega
  have lG:rest=[]\/∀d,o.dst=some d->d<n:=(dv.op ho).imp id (·.2.1);simp only[length_cons,List.range'_succ];have ou:∀(s:St) (a:Act),cF X ρ s a w->kx n rest Ds a t->Region.wanted o (yielded ops a.ah)=true->
   (match enter s i o with
     |some t=>t
     |none=>match(uL P (S (iE s o).H.length) (jg (iE s o).ah) o).eval (iE s o).aA with
      |some r=>bif zu (iE s o).H.length r.up then Tree.zt r.ab (lO P S ops enter cont (i+1) l ((iE s o).put o.dst r))else .stuck "up"
      |none=>.stuck (o.pos++ " " ++(uL P (S (iE s o).H.length) (jg (iE s o).ah) o).why (iE s o).aA)).ba K C->
   cT P f0 R b t (.inRegion ops (i::range' (i+1) l.length)::k) fs w:=by
   intro s a hr ht hw h;split at h;rename_i tr hc;have:=gg s i o tr hc h ρ a t w ho hw hr ht;rwa[show ops.size - i=l.length+1 from by omega,List.range'_succ]at this;have hr:=hr.iE o;generalize iE s o=s at *;split at h;rename_i q hq;rw[cond_eq_ite]at h;split at h;rename_i hup;have⟨hn,h2⟩:=og _ _ h;have hy:=hr.op hS nB hq hn (akO hup)
   have hy':Yields P o t.eval w (λv w'=>∃aQ,cF X aQ (s.put o.dst q) (a.put o.dst v) w'):=by
    unfold Yields at *;rw[(ht.same dv ho).1];exact hy
   intro cs;have⟨v,w',⟨aQ,eR⟩,mY⟩:=agQ ho (by rw[(ht.same dv ho).2];exact hw) (ow iu ho) hy' b k (fs++cs) (rest:=range' (i+1) l.length);have⟨e,w2,fr,g1,g2,g3⟩:=m9 hS nB iu dv akW gg l (i+1) _ hl' aiC h2 aQ _ _ w' eR (ht.put lG v) cs;exact⟨e,w2,fr,g1,Comes.of_steps mY g2,g3⟩;exact h.elim;exact h.elim
  have ov:∀(s:St) (a:Act),cF X ρ s a w->kx n rest Ds a t->Region.wanted o (yielded ops a.ah)=false->(lO P S ops enter cont (i+1) l {s with ah:=dd s.ah o.dst (.bD [])}).ba K C->
   cT P f0 R b t (.inRegion ops (i::range' (i+1) l.length)::k) fs w:=by
   intro s a hr ht hw h;refine cT.step (λcs=>aa5 ho (by rw[(ht.same dv ho).2];exact hw) b k (fs++cs)) ?_;exact m9 hS nB iu dv akW gg l (i+1) _ hl' aiC h ρ _ _ w (hr.skip o.dst) (ht.put lG undef)
  unfold lO at h;simp only[]at h;split at h;rename_i hg;exact ou s a hr ht (by simp[Region.wanted,hg]) h;rename_i g want hg;split at h;exact h.elim;rename_i d hd;split at h;rename_i b' hb
  have hy:yielded ops a.ah g=some b':=by
   simp only[yielded,hd,Option.bind_some,oh hr hb]
  rw[cond_eq_ite]at h;split at h;rename_i hbw;exact ou s a hr ht (by simp only[Region.wanted,hg,hy];simpa using hbw) h;rename_i hbw;exact ov s a hr ht (by simp only[Region.wanted,hg,hy];simpa using hbw) h;rename_i b' hb;have eR:cF X ρ {s with ah:=s.ah.set d (.s (.aT b'))} a w:=hr.refine hb om
  have bA:d<s.ah.length:=by
   rcases lt_or_ge d s.ah.length with h3|h3;exact h3;rw[List.getD,getElem?_eq_none h3]at hb;simp at hb
  have hy:yielded ops a.ah g=some b':=by
   simp only[yielded,hd,Option.bind_some];rw[oh eR (d:=d) (b:=b') (by simp[List.getD,bA])]
  have⟨h1,h2⟩:=h;cases b';have h2:=h2 rfl;cases want;exact ou _ a eR ht (by simp only[Region.wanted,hg,hy];rfl) h2;exact ov _ a eR ht (by simp only[Region.wanted,hg,hy];rfl) h2;have h1:=h1 rfl;cases want;exact ov _ a eR ht (by simp only[Region.wanted,hg,hy];rfl) h1;exact ou _ a eR ht (by simp only[Region.wanted,hg,hy];rfl) h1;rename_i n0 eq hb
  have bA:d<s.ah.length:=by
   rcases lt_or_ge d s.ah.length with h3|h3;exact h3;rw[List.getD,getElem?_eq_none h3]at hb;simp at hb
  have hd0:=hr.den d;rw[hb]at hd0
  obtain⟨bb,hbv,hb0⟩:∃bb,a.ah.getD d undef=.bool bb/\(bb=eq->n0=0):=by
   have h2:=aC (by simp) hd0;generalize a.ah.getD d undef=u at h2;cases h2;exact⟨_,rfl,by assumption⟩
  have eR:cF X ρ {s with ah:=s.ah.set d (.s (.aT bb))} a w:=hr.aa1 hb (by rw[hbv];exact aJ (.aT bb))
  have hy:yielded ops a.ah g=some bb:=by
   simp only[yielded,hd,Option.bind_some];rw[oh eR (d:=d) (b:=bb) (by simp[List.getD,bA])]
  have⟨h1,h2⟩:=h;cases bb;have h2:=h2 (by cases eq<;>first|exact hb0 rfl|trivial);cases want;exact ou _ a eR ht (by simp only[Region.wanted,hg,hy];rfl) h2;exact ov _ a eR ht (by simp only[Region.wanted,hg,hy];rfl) h2;have h1:=h1 (by cases eq<;>first|exact hb0 rfl|trivial);cases want;exact ov _ a eR ht (by simp only[Region.wanted,hg,hy];rfl) h1;exact ou _ a eR ht (by simp only[Region.wanted,hg,hy];rfl) h1;rename_i hb
  have hy:yielded ops a.ah g=none:=by
   simp only[yielded,hd,Option.bind_some,ai3 hr hb,undef]
  exact ov s a hr ht (by simp only[Region.wanted,hg,hy];simp) h;exact h.elim
theorem Wf.top{f0:FuncId}{c:cn}{vs:List Value}{b:Frame}{t:Act}{fs:List Frame}(hl:c.ah.length=vs.length)(hw:Wf f0 c.stk vs E b t fs):∃rest Ds,kx c.n rest Ds ⟨vs.toArray,[]⟩ t/\(c.stk.plain=true->rest=[])/\
 ∀a' t',kx c.n rest Ds a' t'->a'.defers=[]->Wf f0 c.stk a'.ah.toList E b t' fs:=by
 obtain⟨hn,v0,rv,v2,Ds,E1,E2,rfl,rfl,hd,h3,h4⟩:=hw;have⟨l0,l1,l2⟩:=pf hl rfl hd h3 h4;refine⟨rv++(Ds.map ey++v2),Ds,⟨⟨v0,by simp,by rw[h3.act],l0⟩,by rw[h3.act];rfl⟩,λhp=> ?_,λa' t' ht hdf=> ?_⟩;simp only[ur.plain,and_eq_true,not_eq_true']at hp;have⟨⟨p1,p2⟩,p3⟩:=hp;have e1:rv=[]:=List.eq_nil_of_length_eq_zero (by rw[l1,p1];rfl);have e2:Ds=[]:=List.eq_nil_of_length_eq_zero (hd.trans (Nat.eq_of_beq_eq_true p2));have e3:c.stk.below=[]:=List.isEmpty_iff.1 p3;rw[e3]at h4;rw[e1,e2,h4.1];rfl;have⟨qw,k1,k2,k3⟩:=ht.sl;refine⟨hn,qw,rv,v2,Ds,E1,E2,k1,rfl,hd,⟨h3.fr, ?_,h3.ghost⟩,h4⟩;have⟨tt,td⟩:=t';have:=ht.df;rw[hdf]at this;simp only[nil_append]at this;simp only at k2 this;rw[k2,this]
theorem Act.eta{a:Act}(h:a.defers=[]):(⟨a.ah.toList.toArray,[]⟩:Act)=a:=by
 have⟨x,y⟩:=a;simp only at h;subst h;simp
theorem kx.bool{n:Nat}{rest:List Value}{Ds:List Nat}{a t:Act}(h:kx n rest Ds a t){j:Nat}(hj:rest=[]\/j<n):t.eval (.tmp j)=a.ah.getD j undef:=by
 rw[h.eval (hj.imp id λg=>λi e=>by cases e;exact g)];rfl
theorem acI{p q:Bool}{rest:List Value}{R:Prop}(h:(p||q)=true)(h1:p=true->rest=[])(h2:q=true->R):rest=[]\/R:=by
 rcases Bool.or_eq_true_iff.1 h with h|h;exact .inl (h1 h);exact .inr (h2 h)
theorem afr{a b:Nat}(h:a.blt b=true):a<b:=by simpa[Nat.blt,Nat.lt_iff_add_one_le]using h
theorem aa7{f0:FuncId}{c:cn}{id:Nat}{y:tl×Lp×List AV}{b:Frame}{t:Act}{fs:List Frame}{k:List Item}(ez:c.stk.ch=true)(dN:c.ah.getD c.n (.s .bk)=.tag id)
 (hf:kY id c.stk.below (c.ah.drop (c.n+c.stk.extra))=some (y.1,y.2.1,.ready,y.2.2))
 (ou:Safe P f0 X K {c with todo:=k,stk:={c.stk with below:=jK id .busy c.stk.below (c.ah.drop (c.n+c.stk.extra))}})
 (iS:∀b,X.G b->G b) (iZ:∀b,G b->X.G b\/X.w.heap.size<=b) (hr:cF (X.at G E) ρ ⟨c.ah,c.H⟩ a w) (hw:Wf f0 c.stk a.ah.toList E b t fs):
 cT P f0 (ku X K) b t (.beginRound::k) fs w:=by
 obtain⟨hn,v0,rv,v2,Ds,E1,E2,e1,rfl,hd,h3,h4⟩:=hw;have⟨l0,l1,l2⟩:=pf hr.dp.len e1 hd h3 h4;have hb:=h3.fr;rw[ez]at hb;obtain⟨r,rfl,l,yy,hrr⟩:=hb;subst yy hrr;have hdp:=hr.dp.drop (c.n+c.stk.extra);rw[l2]at hdp
 have uO:(E2.map (·.1)).Nodup:=by
  rw[map_append]at hn;exact(nodup_append.1 hn).2.1
 have⟨l',D,qw,g1,g2,g3,g4,g5,g6⟩:=pe hf h4 uO hdp.get
 have kX:a.ah.toList.getD c.n undef=cH l:=by
  rw[e1,List.getD,getElem?_append_right (by omega),show c.n - v0.length=0 from by omega];rfl
 have lH:=hr.dp.get c.n;rw[dN,kX]at lH;unfold ak aO at lH;have hll:l'=l:=wC (g1.symm.trans lH.1.symm);subst hll;have jI:=(hr.bc _ (show _∈(E1++E2)from mem_append_right _ g3)).2.2;have axQ:=run_beginRound (P:=P) jI rfl
 have hl1:l' ∉ E1.map (·.1):=by
  intro hm;rw[map_append]at hn;exact(nodup_append.1 hn).2.2 l' hm l' (List.mem_map_of_mem (f:=Prod.fst) g3) rfl
 have yz:cF (X.at G (E1++upE l' (Obj.loop (mw.busy.gC y.2.1 (y.1.f.getD f0) qw.toArray D)) E2)) ρ ⟨c.ah,c.H⟩ a (w.putObj l' (Obj.loop (mw.busy.gC y.2.1 (y.1.f.getD f0) qw.toArray D))):=
  hr.aoD (show(l',Obj.loop (mw.ready.gC y.2.1 (y.1.f.getD f0) qw.toArray D))∈(E1++E2)from mem_append_right _ g3) (λz hz=>by
   rcases mem_append.1 hz with h6|h6;exact .inl ⟨List.mem_append_left _ h6,λe=>hl1 (e▸List.mem_map_of_mem (f:=Prod.fst) h6)⟩;rcases agR z h6 with h7|h7;exact .inl ⟨mem_append_right _ h7.1,h7.2⟩;exact .inr h7)
 have ad:=ou G _ ρ a _ iS iZ yz _ t fs ⟨by rw[map_append,acD,<-map_append];exact hn,v0,[cH l'],v2,Ds,E1,_,e1,rfl,hd,h3,g6 .busy⟩;exact cT.step (λcs=>stepR_beginRound (l:=l') rfl axQ) ad
theorem gq{f:FuncId}{fn:Func}{stop inl:Nat→Bool}(hS:SOk P S Z)(nB:eO Z X)(hm:P.follows .mixedOrders=true)(hf:P.funcs[f]? =some fn):∀(n:Nat) (fst:Bool) (c:cn),(exec P S fn stop inl n fst c).ba K (Safe P f X K)→Safe P f X K c
 |0,_,c,h=>h
 |n+1,fst,c,h=>by
  intro G E ρ a w iS iZ hr b t fs hw;have ou:∀c',(exec P S fn stop inl n false c').ba K (Safe P f X K)→Safe P f X K c':=fun c' h'=>gq hS nB hm hf n false c' h';obtain⟨rest,Ds,qx,tn,hwf⟩:=hw.top hr.dp.len;rw[Act.eta hr.defers]at qx;have hto:∀k,(exec P S fn stop inl n fst {c with todo:=k}).ba K (Safe P f X K)→cT P f (ku X K) b t k fs w:=fun k hk=>gq hS nB hm hf n fst _ hk G E ρ a w iS iZ hr b t fs hw
  have hbr:c.stk.ch=false→b.roundOf=none:=fun h0=>by
   obtain⟨_,_,_,_,_,_,_,_,_,_,h3,_⟩:=hw;have:=h3.fr;rw[h0]at this;obtain⟨r,rfl,_,rfl⟩:=this;rfl
  have ara:∀k,(k=[]∨∃k',k=.code .ret::k')→c.stk.ch=false→
   (match c.stk.fn P fn with
     |some g=>(match gJ P ⟨c.ah.take c.n,c.H⟩ g.results.toList with
      |some vs=>agK c (oneOf vs) (fun c=>exec P S fn stop inl n false c)
      |none=>.stuck "results")
     |none=>.stuck "results: whose?").ba K (Safe P f X K)→cT P f (ku X K) b t k fs w:=by
   intro k hk h0 h;split at h;rename_i g hg;split at h;rename_i vs hv;have ad:=afo (todo:=k) hf hg h0 hv h ou iS iZ hr hw;refine fM.steps (fun cs=>.one ?_) ad;rcases hk with rfl|⟨k',rfl⟩;exact stepR_end (hbr h0);exact stepR_ret (hbr h0);exact h.elim;exact h.elim
  have avb:∀(ff:Bool) (id:Nat) (rs:Array Oper) (i:Nat) (k:List Item),i≤rs.size→
   (bif iG rs&&(c.stk.plain||lP c.n rs)then
     lO P S rs (fun s j o=>
      bif stop (akL c.stk id j)&& !(ff&&j.beq i)then some (.at {c with ah:=s.ah,H:=s.H,todo:=.inRegion rs (range' j (rs.size - j))::k,stk:={c.stk with rid:=id}})else
      match ru o (jg s.ah)with
      |some (g,args)=>(match g with
      |.s (.qW f)=>bif inl f then some (oe P {c with ah:=s.ah,H:=s.H} f args ⟨c.stk.f,c.n,c.stk.ch,c.stk.aY,none,.inRegion rs (range' j (rs.size - j))::k,(id,j)⟩ (fun c=>exec P S fn stop inl n false c))else none
      |.fn f dF=>bif inl f then some (oe P {c with ah:=s.ah,H:=s.H} f (args++dF) ⟨c.stk.f,c.n,c.stk.ch,c.stk.aY,none,.inRegion rs (range' j (rs.size - j))::k,(id,j)⟩ (fun c=>exec P S fn stop inl n false c))else none
      |.tag y=>some (aaY {c with ah:=s.ah,H:=s.H} y args ⟨c.stk.f,c.n,c.stk.ch,c.stk.aY,none,.inRegion rs (range' j (rs.size - j))::k,(id,j)⟩ (fun c=>exec P S fn stop inl n false c))
      |_=>none)
      |none=>bif agI o then some (.at {c with ah:=s.ah,H:=s.H,todo:=.inRegion rs (range' j (rs.size - j))::k,stk:={c.stk with rid:=id}})else none) (fun s=>exec P S fn stop inl n ff {c with ah:=s.ah,H:=s.H,todo:=k,stk:={c.stk with rid:=0}}) i (rs.toList.drop i) ⟨c.ah,c.H⟩
     else .stuck "region: slots").ba K (Safe P f X K)→
   cT P f (ku X K) b t (.inRegion rs (range' i (rs.size - i))::k) fs w:=by
   intro ff id rs i k hi h;rw[cond_eq_ite]at h;split at h;rename_i hc;simp only[and_eq_true]at hc;have dv:rz c.n rest rs:=acI hc.2 tn (fun x=>x);have bK:(rs.toList.drop i).length=rs.size - i:=by simp
   have hcn:∀(s:St),s.ah.length=c.ah.length→(cn.n {c with ah:=s.ah,H:=s.H})=c.n:=fun s hs=>by unfold cn.n;simp only[hs]
   have ad:=m9 (X:=X.at G E) (b:=b) (fs:=fs) (k:=k) (f0:=f) (R:=ku X K) (n:=c.n) (rest:=rest) (Ds:=Ds) hS (nB.at G E) hc.1 dv (fun s hs aQ a' t' w' eR ht'=> ?_) (fun s j o tr yA htr aQ a' t' w' ho avc eR ht'=> ?_)
    (rs.toList.drop i) i ⟨c.ah,c.H⟩ (fun j=>by rw[List.getElem?_drop,Array.getElem?_toList]) (by rw[bK];omega) h ρ a t w hr qx
   rw[bK]at ad;exact ad;exact gq hS nB hm hf n ff _ hs G E aQ a' w' iS iZ eR b t' fs (hwf a' t' ht' eR.defers);have hw':=hwf a' t' ht' eR.defers;have iu:=ow hc.1 ho;rw[cond_eq_ite]at yA;split at yA;cases yA;exact htr G E aQ a' w' iS iZ eR b t' fs hw';by_cases avd:ru o (jg s.ah)=none;rw[avd]at yA;simp only[cond_eq_ite]at yA;split at yA;cases yA;exact htr G E aQ a' w' iS iZ eR b t' fs hw';cases yA;obtain⟨⟨g,args⟩,gI⟩:=Option.ne_none_iff_exists'.1 avd;rw[gI]at yA;simp only[]at yA;obtain⟨vf,us,hvf,hus,hcf,hcy⟩:=aoE (P:=P) gI (e:=a'.eval) (fun x _=>eR.ev x);have akX:Region.wanted o (yielded rs t'.ah)=true:=by rw[(ht'.same dv ho).2];exact avc
   have hj:j<rs.size:=(Array.getElem?_eq_some_iff.1 ho).1
   have s5:range' j (rs.size - j)=j::range' (j+1) (rs.size - (j+1)):=by
    rw[show rs.size - j=rs.size - (j+1)+1 from by omega,List.range'_succ]
   have arb:s.ah.length=a'.ah.toList.length:=eR.dp.len
   have axR:c.ah.length=s.ah.length:=by
    obtain⟨v0,k1,_,k3⟩:=ht'.sl;obtain⟨qw,k1',_,k3'⟩:=qx.sl;rw[arb,k1,hr.dp.len,k1',length_append,length_append,k3,k3']
   have hn':=hcn s axR.symm;obtain⟨hnE,v0,rv,v2,Ds',E1,E2,e1,e2,hd,h3,h4⟩:=hw';obtain⟨q0,q1,q2⟩:=pf (c:={c with ah:=s.ah,H:=s.H}) arb e1 hd h3 h4;have agS:∀ad,WfS f (⟨c.stk.f,c.n,c.stk.ch,c.stk.aY,none,.inRegion rs (range' j (rs.size - j))::k,ad⟩::c.stk.below) a'.ah.toList E
    (b.atR t' (.inRegion rs (range' j (rs.size - j))::k)::fs):=fun ad=>
    ⟨v0,rv,v2,Ds',E1,E2,b,t',fs,[],[],_,by simpa using e1,by simpa using e2,rfl,q0.trans hn',hd,h3,h4,rfl,rfl,rfl⟩
   have push:∀(g':FuncId) (cs:List AV) (vs:List Value),vf=.func (.func g') #[] vs.toArray→bV aQ s.aA (bd aQ s.aA G) w' cs vs→
    (oe P {c with ah:=s.ah,H:=s.H} g' (args++cs) ⟨c.stk.f,c.n,c.stk.ch,c.stk.aY,none,.inRegion rs (range' j (rs.size - j))::k,(id,j)⟩ (fun c=>exec P S fn stop inl n false c)).ba K (Safe P f X K)→
    cT P f (ku X K) b t' (.inRegion rs (range' j (rs.size - j))::k) fs w':=by
    intro g' cs vs hv qq htr;obtain⟨asK,ad⟩:=uw (c:={c with ah:=s.ah,H:=s.H}) (us:=us++vs) htr ou iS iZ eR (jJ hus qq) hnE (agS _);refine fM.steps (fun cs=>.one ?_) ad;rw[s5];refine akR ho akX iu ?_ b k (fs++cs);rw[(ht'.same dv ho).1];exact hcf g' vs hv asK
   split at yA;rename_i g';rw[cond_eq_ite]at yA;split at yA;cases yA;exact push g' [] [] (aaW (aC (by simp) hvf)) (bo.2 rfl) (by rw[append_nil];exact htr);cases yA;rename_i g' dF;rw[cond_eq_ite]at yA;split at yA;cases yA;unfold ak at hvf;obtain⟨vs,hv,rq⟩:=hvf;exact push g' dF vs hv rq htr;cases yA;rename_i y;cases yA;have aoF:a'.ah.toList.drop (cn.n {c with ah:=s.ah,H:=s.H}+c.stk.extra)=v2:=q2;obtain⟨l,r,hv,jI,ave,ad⟩:=acF (c:={c with ah:=s.ah,H:=s.H}) (us:=us) htr ou iS iZ eR hus hnE (agS _) e2 aoF h4 hvf;refine fM.steps (fun cs=>.one ?_) ad;rw[s5];refine akS ho akX iu ?_ b k (fs++cs);rw[(ht'.same dv ho).1];exact hcy l hv r jI ave;cases yA;exact h.elim
  unfold exec at h;simp only[]at h;split at h;rename_i nE;rw[nE];rw[cond_eq_ite]at h;split at h;rename_i ez;exact qy ez h ou iS iZ hr hw (fun l w' c0 cs h1 h2 h3=>stepR_round_end h1 h2 h3);rename_i ez;exact ara [] (.inl rfl) (by simpa using ez) h;rename_i k nE;rw[nE];rw[cond_eq_ite]at h;split at h;rename_i ez;exact qy ez h ou iS iZ hr hw (fun l w' c0 cs h1 h2 h3=>stepR_round_ret h1 h2 h3);rename_i ez;exact ara _ (.inr ⟨k,rfl⟩) (by simpa using ez) h;rename_i k nE;rw[nE];exact cT.step (fun _=>stepR_skip) (hto _ h);rename_i k l nE;rw[nE];exact cT.step (fun _=>stepR_label) (hto _ h);rename_i k nE;rw[nE];exact cT.step (fun _=>stepR_inBlock) (hto _ h);rename_i k nE;rw[nE];exact cT.step (fun _=>step_lone_go (by simp[stepG,stepG.exec,Frame.atR])) (hto _ h);rename_i x y k nE;rw[nE];exact cT.step (fun _=>stepR_seq) (hto _ h);rename_i id body k nE;rw[nE];exact cT.step (fun _=>stepR_block) (hto _ h);rename_i body k nE;rw[nE];exact cT.step (fun _=>step_lone_go (by simp[stepG,stepG.exec,Frame.atR])) (hto _ h);rename_i id k nE;rw[nE];split at h;rename_i k' hk';exact cT.step (fun _=>stepR_exit hk') (hto _ h);rename_i hk';rw[cond_eq_ite]at h;split at h;rename_i ez;exact qy ez h ou iS iZ hr hw (fun l w' c0 cs h1 h2 h3=>stepR_round_exit h1 h2 hk' h3);exact h.elim;rename_i j x y k nE;rw[nE];rw[cond_eq_ite]at h;split at h;rename_i asL;have dv:rest=[]∨j<c.n:=acI asL tn afr;split at h;rename_i bb hb
  have hev:t.eval (.tmp j)=.bool bb:=by
   rw[qx.bool dv];have h1:=oh hr hb;rw[getD_eq_getD_getElem?,h1];rfl
  refine cT.step (fun _=>stepR_cond hev) ?_;have:=hto _ h;cases bb<;>exact this;rename_i bb hb;have eR:cF (X.at G E) ρ ⟨c.ah.set j (.s (.aT bb)),c.H⟩ a w:=hr.refine hb om
  have bA:j<c.ah.length:=by
   rcases lt_or_ge j c.ah.length with h3|h3;exact h3;rw[List.getD,getElem?_eq_none h3]at hb;simp at hb
  have hev:t.eval (.tmp j)=.bool bb:=by
   rw[qx.bool dv];have h1:=oh eR (d:=j) (b:=bb) (by simp[List.getD,bA]);rw[getD_eq_getD_getElem?,h1];rfl
  refine cT.step (fun _=>stepR_cond hev) ?_;obtain⟨h1,h2⟩:=h;cases bb;exact gq hS nB hm hf n _ _ (h2 rfl) G E ρ a w iS iZ eR b t fs hw;exact gq hS nB hm hf n _ _ (h1 rfl) G E ρ a w iS iZ eR b t fs hw;rename_i n0 eq hb
  have bA:j<c.ah.length:=by
   rcases lt_or_ge j c.ah.length with h3|h3;exact h3;rw[List.getD,getElem?_eq_none h3]at hb;simp at hb
  have hd0:=hr.den j;rw[show(St.ah ⟨c.ah,c.H⟩).getD j (.s .bk)=_ from hb]at hd0
  obtain⟨bb,hbv,hb0⟩:∃bb,a.ah.getD j undef=.bool bb∧(bb=eq→n0=0):=by
   have h2:=aC (by simp) hd0;generalize a.ah.getD j undef=u at h2;cases h2;exact⟨_,rfl,by assumption⟩
  have eR:cF (X.at G E) ρ ⟨c.ah.set j (.s (.aT bb)),c.H⟩ a w:=hr.aa1 hb (by rw[hbv];exact aJ (.aT bb));have hev:t.eval (.tmp j)=.bool bb:=by rw[qx.bool dv,hbv]
  refine cT.step (fun _=>stepR_cond hev) ?_;obtain⟨h1,h2⟩:=h;cases bb;exact gq hS nB hm hf n _ _ (h2 (by cases eq<;>first|exact hb0 rfl|trivial)) G E ρ a w iS iZ eR b t fs hw;exact gq hS nB hm hf n _ _ (h1 (by cases eq<;>first|exact hb0 rfl|trivial)) G E ρ a w iS iZ eR b t fs hw;exact h.elim;exact h.elim;rename_i id rs draw k nE;rw[nE];rw[cond_eq_ite]at h;split at h;have:=h G E ρ a w iS iZ hr b t fs hw;rwa[nE]at this;cases draw;simp only[cond_false]at h;have ad:=avb false id rs 0 k (zero_le _) h;refine cT.step (fun _=>stepR_region) ?_;rw[List.range_eq_range'];simpa using ad;simp only[cond_true]at h;rw[cond_eq_ite]at h;split at h;rename_i hso;simp only[and_eq_true]at hso;obtain⟨⟨⟨avf,asM⟩,iu⟩,hsl⟩:=hso;have dv:rz c.n rest rs:=acI hsl tn (fun x=>x);rw[cond_eq_ite]at h;split at h;rename_i hcc;simp only[and_eq_true]at hcc;obtain⟨bA,ai7⟩:=hcc;have bA:=afr bA
  have asN:=afp (j0:=cutAt rs) (Nat.le_of_lt bA) ai7 (X:=X.at G E) (Q:=fun a' w'=>∃aQ s',(exec P S fn stop inl n false {c with ah:=s'.ah,H:=s'.H,todo:=.inRegion rs (range' (cutAt rs) (rs.size - cutAt rs))::k,stk:={c.stk with rid:=id}}).ba K (Safe P f X K)∧cF (X.at G E) aQ s' a' w') hS (nB.at G E) avf asM h (fun s' qT hh=>by
   rw[cond_eq_ite]at hh;split at hh;rename_i hc;exact hc;exact hh.elim) (fun aQ s' qT a' w' hh eR=>by
   rw[cond_eq_ite]at hh;split at hh;exact⟨aQ,s',hh,eR⟩;exact hh.elim) hr.drew
  have afs:=fun tt=>ai5 (cutAt rs) tt _ a _ asN;refine cT.step (fun _=>stepR_region_draw) ?_
  have axS:Region.schedule (P.follows .mixedOrders) rs (w.tape w.drawn (.order b.fn id))=Region.linearise.go .any rs (cutAt rs) (w.tape w.drawn (.order b.fn id)) (Array.replicate rs.size false) []++range' (cutAt rs) (rs.size - cutAt rs):=by
   simp only[Region.schedule,hm,Bool.true_or,if_true];exact wG asM (Nat.le_of_lt bA) ai7 _
  rw[axS];have akY:=ic dv (fun e a w hq=>hq.1) _ a t _ qx (afs (w.tape w.drawn (.order b.fn id)));intro cs;obtain⟨a1,w1,⟨_,a',⟨_,aQ,s',hh,eR⟩,ht'⟩,k9⟩:=gh iu (fun e a w hq=>hq.1) _ t _ akY b k (fs++cs);have ad:=gq hS nB hm hf n false _ hh G E aQ a' w1 iS iZ eR b a1 fs (hwf a' a1 ht' eR.defers) cs;obtain⟨e,w2,fr,g1,g2,g3⟩:=ad;exact⟨e,w2,fr,g1,Comes.of_steps k9 g2,g3⟩
  have asN:=aa3 (X:=X.at G E) (Q:=fun a' w'=>∃aQ s',(exec P S fn stop inl n false {c with ah:=s'.ah,H:=s'.H,todo:=k}).ba K (Safe P f X K)∧cF (X.at G E) aQ s' a' w') hS (nB.at G E) avf asM h (fun s' qT hh=>by
   rw[cond_eq_ite]at hh;split at hh;rename_i hc;exact hc;exact hh.elim) (fun aQ s' qT a' w' hh eR=>by
   rw[cond_eq_ite]at hh;split at hh;exact⟨aQ,s',hh,eR⟩;exact hh.elim) hr.drew
  have afs:∀tt,wpOps P rs (fun e a' w'=>e=.normal∧∃aQ s',(exec P S fn stop inl n false {c with ah:=s'.ah,H:=s'.H,todo:=k}).ba K (Safe P f X K)∧cF (X.at G E) aQ s' a' w') (Region.schedule (P.follows .mixedOrders) rs tt) a {w with drawn:=w.drawn+1}:=fun tt=>by
   simp only[Region.schedule,hm,Bool.true_or,if_true];exact wpAny_sound rs.size tt _ a _ asN
  refine cT.step (fun _=>stepR_region_draw) ?_;have akY:=ic dv (fun e a w hq=>hq.1) _ a t _ qx (afs (w.tape w.drawn (.order b.fn id)));intro cs;obtain⟨a1,w1,⟨_,a',⟨_,aQ,s',hh,eR⟩,ht'⟩,k9⟩:=ib iu (fun e a w hq=>hq.1) _ t _ akY b k (fs++cs);have ad:=gq hS nB hm hf n false _ hh G E aQ a' w1 iS iZ eR b a1 fs (hwf a' a1 ht' eR.defers) cs;obtain⟨e,w2,fr,g1,g2,g3⟩:=ad;exact⟨e,w2,fr,g1,Comes.of_steps k9 g2,g3⟩;exact h.elim;rename_i rs todo k nE;rw[nE];rw[cond_eq_ite]at h;split at h;rename_i he;simp only[and_eq_true]at he;have hle:todo.length≤rs.size:=le_of_ble_eq_true he.1;have he:todo=range' (rs.size - todo.length) todo.length:=by simpa using he.2
  have ad:=avb fst c.stk.rid rs (rs.size - todo.length) k (by omega) h;rw[show rs.size - (rs.size - todo.length)=todo.length from by omega,←he]at ad;exact ad;exact h.elim;rename_i k nE;rw[nE];rw[cond_eq_ite]at h;split at h;rename_i ez;split at h;rename_i id dN;split at h;rename_i d L sl hf';exact aa7 (y:=(d,L,sl)) ez dN hf' (gq hS nB hm hf n _ _ h) iS iZ hr hw;exact h.elim;exact h.elim;exact h.elim;rename_i j ps asg body k nE;rw[nE];rw[cond_eq_ite]at h;split at h;rename_i asL;have dv:rest=[]∨j<c.n:=acI asL tn afr;split at h;rename_i g hg;have hd0:=hr.den j;rw[show(St.ah ⟨c.ah,c.H⟩).getD j (.s .bk)=_ from hg]at hd0;have hv:=aaW (aC (by simp) hd0);exact uy (g:=.tmp j) (cvs:=[]) rfl h ou iS iZ hr hw (by rw[qx.bool dv,hv]) (bo.2 rfl);rename_i g dF hg;have hd0:=hr.den j;rw[show(St.ah ⟨c.ah,c.H⟩).getD j (.s .bk)=_ from hg]at hd0;unfold ak at hd0;obtain⟨vs,hv,rq⟩:=hd0;exact uy (g:=.tmp j) (cvs:=vs) rfl h ou iS iZ hr hw (by rw[qx.bool dv,hv]) rq;exact h.elim;exact h.elim;rename_i body k nE;rw[nE];rw[cond_eq_ite]at h;split at h;exact cT.step (fun _=>stepR_loop) (gq hS nB hm hf n _ _ h G E ρ a w iS iZ hr b t fs hw);exact cT.step (fun _=>stepR_loop) (h G E ρ a w iS iZ hr b t fs hw);rename_i body k nE;rw[nE];rw[cond_eq_ite]at h;split at h;exact cT.step (fun _=>stepR_inLoop) (gq hS nB hm hf n _ _ h G E ρ a w iS iZ hr b t fs hw);exact cT.step (fun _=>stepR_inLoop) (h G E ρ a w iS iZ hr b t fs hw);exact h G E ρ a w iS iZ hr b t fs hw
theorem Wf.base(f:FuncId){a:Act}(h:a.defers=[]):Wf f {} a.ah.toList [] {(default:Frame)with fn:=f,kind:=.normal,roundOf:=none} a []:=
 ⟨List.nodup_nil,a.ah.toList,[],[],[],[],[],by simp,rfl,rfl,⟨⟨none,rfl,rfl,rfl⟩,(Act.eta h).symm,rfl⟩,rfl,rfl,rfl⟩
theorem Safe.goes{f:FuncId}{c:cn}(h:Safe P f X K c)(hc:c.stk={})(hE:X.E=[])(hr:cF X ρ ⟨c.ah,c.H⟩ a w):cT P f (ku X K) {(default:Frame)with fn:=f,kind:=.normal,roundOf:=none} a c.todo [] w:=by
 have e:X.at X.G []=X:=by
  have⟨x1,x2,x3,x4,x5⟩:=X;simp only at hE;subst hE;rfl
 exact h X.G [] ρ a w (λ_ h=>h) (λ_ h=>.inl h) (by rw[e];exact hr) _ a [] (by rw[hc];exact Wf.base f hr.defers)
end
def allM{α β:Type}(f:α->Option β):List α->Option (List β)
 |[]=>some []
 |a::aS=>match f a,allM f aS with
  |some b,some bs=>some (b::bs)
  |_,_=>none
def yk:SV->SV
 |.aZ k n=>.int k n
 |.aT b=>.bool b
 |x=>x
def rn(g:Nat->Option Nat):Nat->AV->Option AV
 |0,_=>none
 |d+1,a=>
  match a with
  |.s x=>some (.s (yk x))
  |.an id off=>(g id).map λj=>.an j off
  |.kQ id off n i=>(g id).map λj=>.kQ j off n i
  |.kj c m j=>some (.kj c m j)
  |.aq id=>(g id).map λj=>.aq j
  |.gU id i j=>(g id).map λl=>.gU l i j
  |.part id lo n=>(g id).map λl=>.part l lo n
  |.sub id off n=>(g id).map λl=>.sub l off n
  |.lF id i j n=>(g id).map λl=>.lF l i j n
  |.emp=>some .emp
  |.agg aD=>(allM (rn g d) aD).map .agg
  |.aw k n ws=>some (.aw k n ws)
  |.bD vs=>(allM (rn g d) vs).map .bD
  |.fn f dF=>(allM (rn g d) dF).map (.fn f)
  |.y8 f dF=>(allM (rn g d) dF).map (.y8 f)
  |.gV id=>(g id).map λj=>.gV j
  |.tag id=>(g id).map λj=>.tag j
def wI(g:Nat->Option Nat):au->Option au
 |.ay aD e=>(allM (rn g 20) aD).map λs=>.ay s e
 |.aq c e=>some (.aq c e)
 |.map ck m=>some (.map ck m)
 |.jA ck m gid=>match g gid with
  |some j=>some (.jA ck m j)
  |none=>some (.map ck m)
 |.iter mid gid ck left cur=>match g mid,g gid with
  |some i,some j=>some (.iter i j ck left cur)
  |_,_=>none
 |.aB=>some .aB
structure Emb (g:Nat->Option Nat) (ρ:Nat->Value) (H:aV) (O:Nat->Prop) (aQ:Nat->Value) (H':aV) (O':Nat->Prop):Prop where
 id:∀i j,g i=some j->aQ j=ρ i/\∀o,H i=some o->∃o',H' j=some o'/\∀c e,o'=.aq c e->o=.aq c e
 gy:∀b,O' b->O b
section
variable{g:Nat->Option Nat}{ρ aQ:Nat->Value}{H H':aV}{G O O':Nat->Prop}{w w':World}{P:Program}{S:fO}{Z:bB}{X:Ctx}{s:St}{a:Act}{K:List au->AV->Prop}{C:cn->Prop}
theorem allM_cons{α β:Type}{f:α->Option β}{a:α}{aS:List α}{l:List β}(h:allM f (a::aS)=some l):∃b bs,f a=some b/\allM f aS=some bs/\l=b::bs:=by
 unfold allM at h;split at h;rename_i b bs h1 h2;simp only[Option.some.injEq]at h;exact⟨b,bs,h1,h2,h.symm⟩;cases h
theorem ie{α β:Type}{f:α->Option β}:∀{aS:List α} {l:List β},allM f aS=some l->l.length=aS.length
 |[],l,h=>by simp only[allM,Option.some.injEq]at h;subst h;rfl
 |a::aS,l,h=>by
  obtain⟨b,bs,_,h2,rfl⟩:=allM_cons h;simp[ie h2]
theorem gK{α β:Type}{f:α->Option β}:∀{aS:List α} {l:List β},allM f aS=some l->∀(i:Nat) (a:α),aS[i]? =some a->∃b,f a=some b/\l[i]? =some b
 |[],l,h,i,a,hi=>by simp at hi
 |a::aS,l,h,i,x,hi=>by
  obtain⟨b,bs,h1,h2,rfl⟩:=allM_cons h;cases i with
  |zero=>simp only[List.getElem?_cons_zero,Option.some.injEq]at hi;subst hi;exact⟨b,h1,rfl⟩
  |succ i=>simpa using gK h2 i x (by simpa using hi)
theorem bg.less(gy:∀b,O' b->O b){x:SV}{v:Value}(h:bg O w x v):bg O' w x v:=
 h.step (λb hb=>.inl (gy b hb)) (λ_ _ _=>rfl) (le_refl _)
theorem bg.yk{x:SV}{v:Value}(h:bg O w x v):bg O w (yk x) v:=by
 cases h<;>first
  |exact bg.int _ _
  |exact bg.bool _
  |(refine bg.ro _ _ _ _ _ _ ?_ ?_ ?_ ?_ ?_<;>assumption)
  |(constructor<;>assumption)
  |constructor
theorem ai9(gy:∀b,O' b->O b){x:SV}{v:Value}(h:ak ρ H O w (.s x) v):ak aQ H' O' w (.s (Sx.yk x)) v:=by
 by_cases hx:x=.bk;subst hx;unfold ak;trivial;have h1:=aC hx h;exact aJ (h1.less gy).yk
theorem wJ(E:Emb g ρ H O aQ H' O'):∀(d:Nat),
 (∀a a' v,rn g d a=some a'->ak ρ H O w a v->ak aQ H' O' w a' v)/\(∀a a' cs,rn g d a=some a'->aU ρ H O w a cs->aU aQ H' O' w a' cs):=by
 have isSome:∀{i j:Nat},g i=some j->(H i).isSome=true->(H' j).isSome=true:=by
  intro i j hg hi;have⟨o,ho⟩:=isSome_iff_exists.1 hi;have⟨o',dP,_⟩:=(E.id i j hg).2 o ho;rw[dP];rfl
 have avg:∀{i j:Nat} {v:Value},g i=some j->aO ρ H O w (.aq i) v->aO aQ H' O' w (.aq j) v:=by
  intro i j v hg h;unfold aO at *;have⟨h0,o,ho,h1⟩:=h;have⟨hr,h2⟩:=E.id i j hg;have⟨o',dP,h3⟩:=h2 o ho;exact⟨h0,o',dP,λc e hc=>by rw[hr];exact h1 c e (h3 c e hc)⟩
 have arc:∀{i j:Nat} {v:Value} {m n:Nat},g i=some j->aO ρ H O w (.gU i m n) v->aO aQ H' O' w (.gU j m n) v:=by
  intro i j v m n hg h;unfold aO at *;have⟨h0,o,ho,h1⟩:=h;have⟨hr,h2⟩:=E.id i j hg;have⟨o',dP,h3⟩:=h2 o ho;exact⟨h0,o',dP,λc e hc=>by rw[hr];exact h1 c e (h3 c e hc)⟩
 have ard:∀{i j:Nat} {v:Value} {m n:Nat},g i=some j->aO ρ H O w (.part i m n) v->aO aQ H' O' w (.part j m n) v:=by
  intro i j v m n hg h;unfold aO at *;have⟨h0,o,ho,h1⟩:=h;have⟨hr,h2⟩:=E.id i j hg;have⟨o',dP,h3⟩:=h2 o ho;exact⟨h0,o',dP,λc e hc=>by rw[hr];exact h1 c e (h3 c e hc)⟩
 have avh:∀{i j:Nat} {v:Value} {m n:Nat},g i=some j->aO ρ H O w (.sub i m n) v->aO aQ H' O' w (.sub j m n) v:=by
  intro i j v m n hg h;unfold aO at *;have⟨h0,b,a,cap,h1,h2,h4,h3⟩:=h;exact⟨h0,b,a,cap,by rw[(E.id i j hg).1,h1],h2,h4,isSome hg h3⟩
 have are:∀{i j:Nat} {v:Value} {m n l:Nat},g i=some j->aO ρ H O w (.lF i m n l) v->aO aQ H' O' w (.lF j m n l) v:=by
  intro i j v m n l hg h;unfold aO at *;have⟨h0,o,ho,h1⟩:=h;have⟨hr,h2⟩:=E.id i j hg;have⟨o',dP,h3⟩:=h2 o ho;exact⟨h0,o',dP,λc e hc=>by rw[hr];exact h1 c e (h3 c e hc)⟩
 have avi:∀{i j:Nat} {v:Value} {off:Nat},g i=some j->aO ρ H O w (.an i off) v->aO aQ H' O' w (.an j off) v:=by
  intro i j v off hg h;unfold aO at *;have⟨b,h1,h2,h3⟩:=h;exact⟨b,by rw[(E.id i j hg).1,h1],h2,isSome hg h3⟩
 have avj:∀{i j:Nat} {v:Value},g i=some j->aO ρ H O w (.gV i) v->aO aQ H' O' w (.gV j) v:=by
  intro i j v hg h;unfold aO at *;have⟨b,h1,h2,h3⟩:=h;exact⟨b,by rw[(E.id i j hg).1,h1],h2,isSome hg h3⟩
 have avk:∀{i j:Nat} {v:Value},g i=some j->aO ρ H O w (.tag i) v->aO aQ H' O' w (.tag j) v:=by
  intro i j v hg h;unfold aO at *;have⟨h1,h2,h3⟩:=h;exact⟨by rw[(E.id i j hg).1,h1],h2,isSome hg h3⟩
 have arf:∀{i j:Nat} {v:Value} {off n l:Nat},g i=some j->aO ρ H O w (.kQ i off n l) v->aO aQ H' O' w (.kQ j off n l) v:=by
  intro i j v off n l hg h;unfold aO at *;have⟨h0,b,h1,h2,h3⟩:=h;exact⟨h0,b,by rw[(E.id i j hg).1,h1],h2,isSome hg h3⟩
 have arh:∀{c:a8} {m j:Nat} {v:Value},aO ρ H O w (.kj c m j) v->aO aQ H' O' w (.kj c m j) v:=by
  intro c m j v h;unfold aO at *;have⟨b,o,us,h1,h2,h3,h4⟩:=h;exact⟨b,o,us,h1,λh5=>h2 (E.gy b h5),h3,λi hi=>⟨(h4 i hi).1,(h4 i hi).2.less E.gy⟩⟩
 intro d
 induction d with
 |zero=>exact⟨λa a' v h=>by simp[rn]at h,λa a' cs h=>by simp[rn]at h⟩
 |succ d ih=>
  have lst:∀(aS dU:List AV) (vs:List Value),allM (rn g d) aS=some dU->bV ρ H O w aS vs->bV aQ H' O' w dU vs:=by
   intro aS
   induction aS with
   |nil=>intro dU vs h hd;simp only[allM,Option.some.injEq]at h;subst h;rw[bo.1 hd];exact bo.2 rfl
   |cons a aS ihl=>
    intro dU vs h hd;obtain⟨b,bs,h1,h2,rfl⟩:=allM_cons h;obtain⟨v,rest,rfl,h3,h4⟩:=aI.1 hd;exact aI.2 ⟨v,rest,rfl,ih.1 a b v h1 h3,ihl bs rest h2 h4⟩
  have sgs:∀(aS dU:List AV) (cs:List Value),allM (rn g d) aS=some dU->aE ρ H O w aS cs->aE aQ H' O' w dU cs:=by
   intro aS
   induction aS with
   |nil=>intro dU vs h hd;simp only[allM,Option.some.injEq]at h;subst h;rw[aH.1 hd];exact aH.2 rfl
   |cons a aS ihl=>
    intro dU vs h hd;obtain⟨b,bs,h1,h2,rfl⟩:=allM_cons h;obtain⟨c1,c2,rfl,h3,h4⟩:=ao.1 hd;exact ao.2 ⟨c1,c2,rfl,ih.2 a b c1 h1 h3,ihl bs c2 h2 h4⟩
  refine⟨λa a' v h hd=> ?_,λa a' cs h hd=> ?_⟩;cases a<;>simp only[rn,map_eq_some_iff,Option.some.injEq,reduceCtorEq]at h
  case s x=>subst h;exact ai9 E.gy hd
  case an id off=>obtain⟨j,hg,rfl⟩:=h;unfold ak at *;exact avi hg hd
  case kQ id off n i=>obtain⟨j,hg,rfl⟩:=h;unfold ak at *;exact arf hg hd
  case kj c m j=>subst h;unfold ak at *;exact arh hd
  case aq id=>obtain⟨j,hg,rfl⟩:=h;unfold ak at *;exact avg hg hd
  case gU id i j=>obtain⟨l,hg,rfl⟩:=h;unfold ak at *;exact arc hg hd
  case part id lo n=>obtain⟨l,hg,rfl⟩:=h;unfold ak at *;exact ard hg hd
  case sub id off n=>obtain⟨l,hg,rfl⟩:=h;unfold ak at *;exact avh hg hd
  case lF id i j n=>obtain⟨l,hg,rfl⟩:=h;unfold ak at *;exact are hg hd
  case emp=>subst h;unfold ak at *;exact hd
  case agg aD=>obtain⟨l,hl,rfl⟩:=h;unfold ak at *;have⟨cs,h1,h2⟩:=hd;exact⟨cs,h1,sgs _ _ _ hl h2⟩
  case aw k n ws=>subst h;unfold ak at *;exact hd
  case bD vs=>obtain⟨l,hl,rfl⟩:=h;unfold ak at *;have⟨us,h1,h2⟩:=hd;exact⟨us,h1,lst _ _ _ hl h2⟩
  case fn f dF=>obtain⟨l,hl,rfl⟩:=h;unfold ak at *;have⟨us,h1,h2⟩:=hd;exact⟨us,h1,lst _ _ _ hl h2⟩
  case y8 f dF=>obtain⟨l,hl,rfl⟩:=h;unfold ak at *;have⟨us,h1,h2⟩:=hd;exact⟨us,h1,lst _ _ _ hl h2⟩
  case gV id=>obtain⟨j,hg,rfl⟩:=h;unfold ak at *;exact avj hg hd
  case tag id=>obtain⟨j,hg,rfl⟩:=h;unfold ak at *;exact avk hg hd
  cases a<;>simp only[rn,map_eq_some_iff,Option.some.injEq,reduceCtorEq]at h
  case s x=>subst h;unfold aU at *;have⟨u,h1,h2⟩:=hd;exact⟨u,h1,(h2.less E.gy).yk⟩
  case an id off=>obtain⟨j,hg,rfl⟩:=h;unfold aU at *;have⟨u,h1,h2⟩:=hd;exact⟨u,h1,avi hg h2⟩
  case kQ id off n i=>obtain⟨j,hg,rfl⟩:=h;unfold aU at *;have⟨u,h1,h2⟩:=hd;exact⟨u,h1,arf hg h2⟩
  case kj c m j=>subst h;unfold aU at *;have⟨u,h1,h2⟩:=hd;exact⟨u,h1,arh h2⟩
  case aq id=>obtain⟨j,hg,rfl⟩:=h;unfold aU at *;have⟨u,h1,h2⟩:=hd;exact⟨u,h1,avg hg h2⟩
  case gU id i j=>obtain⟨l,hg,rfl⟩:=h;unfold aU at *;have⟨u,h1,h2⟩:=hd;exact⟨u,h1,arc hg h2⟩
  case part id lo n=>obtain⟨l,hg,rfl⟩:=h;unfold aU at *;have⟨u,h1,h2⟩:=hd;exact⟨u,h1,ard hg h2⟩
  case sub id off n=>obtain⟨l,hg,rfl⟩:=h;unfold aU at *;have⟨u,h1,h2⟩:=hd;exact⟨u,h1,avh hg h2⟩
  case lF id i j n=>obtain⟨l,hg,rfl⟩:=h;unfold aU at *;have⟨u,h1,h2⟩:=hd;exact⟨u,h1,are hg h2⟩
  case emp=>subst h;unfold aU at *;exact hd
  case agg aD=>unfold aU at hd;exact hd.elim
  case aw k n ws=>subst h;unfold aU at *;exact hd
  case bD vs=>unfold aU at hd;exact hd.elim
  case fn f dF=>obtain⟨l,hl,rfl⟩:=h;unfold aU at *;have⟨u,h1,us,h2,h3⟩:=hd;exact⟨u,h1,us,h2,lst _ _ _ hl h3⟩
  case y8 f dF=>obtain⟨l,hl,rfl⟩:=h;unfold aU at *;have⟨u,h1,us,h2,h3⟩:=hd;exact⟨u,h1,us,h2,lst _ _ _ hl h3⟩
  case gV id=>obtain⟨j,hg,rfl⟩:=h;unfold aU at *;have⟨u,h1,h2⟩:=hd;exact⟨u,h1,avj hg h2⟩
  case tag id=>obtain⟨j,hg,rfl⟩:=h;unfold aU at *;have⟨u,h1,h2⟩:=hd;exact⟨u,h1,avk hg h2⟩
theorem vd(E:Emb g ρ H O aQ H' O'){d:Nat}:∀{aS dU:List AV} {vs:List Value},allM (rn g d) aS=some dU->bV ρ H O w aS vs->bV aQ H' O' w dU vs
 |[],dU,vs,h,hd=>by simp only[allM,Option.some.injEq]at h;subst h;rw[bo.1 hd];exact bo.2 rfl
 |a::aS,dU,vs,h,hd=>by
  obtain⟨b,bs,h1,h2,rfl⟩:=allM_cons h;obtain⟨v,rest,rfl,h3,h4⟩:=aI.1 hd;exact aI.2 ⟨v,rest,rfl,(wJ E d).1 a b v h1 h3,vd E h2 h4⟩
theorem wK(E:Emb g ρ H O aQ H' O'){d:Nat}:∀{aS dU:List AV} {cs:List Value},allM (rn g d) aS=some dU->aE ρ H O w aS cs->aE aQ H' O' w dU cs
 |[],dU,vs,h,hd=>by simp only[allM,Option.some.injEq]at h;subst h;rw[aH.1 hd];exact aH.2 rfl
 |a::aS,dU,vs,h,hd=>by
  obtain⟨b,bs,h1,h2,rfl⟩:=allM_cons h;obtain⟨c1,c2,rfl,h3,h4⟩:=ao.1 hd;exact ao.2 ⟨c1,c2,rfl,(wJ E d).2 a b c1 h1 h3,wK E h2 h4⟩
theorem aa8(E:Emb g ρ H O aQ H' O'){o o':au}{aa:Value}(h:wI g o=some o')(hs:jd ρ H O w aa o):jd aQ H' O' w aa o':=by
 cases o with
 |aB=>simp only[wI,Option.some.injEq]at h;subst h;trivial
 |map ck m=>simp only[wI,Option.some.injEq]at h;subst h;exact hs
 |jA ck m gid=>
  have⟨b,es,clock,h0,h1,h2,h3,h4⟩:=hs;simp only[wI]at h;split at h;rename_i j hj;simp only[Option.some.injEq]at h;subst h;have⟨e1,e2⟩:=E.id _ _ hj;have⟨o,ho⟩:=isSome_iff_exists.1 h4;have⟨o',dP,_⟩:=e2 o ho;exact⟨b,es,clock,h0,h1,h2,by rw[e1];exact h3,by rw[dP];rfl⟩;simp only[Option.some.injEq]at h;subst h;exact⟨b,es,clock,h0,h1,h2⟩
 |iter mid gid ck left cur=>
  have⟨b,mb,es,clock,seen,h0,h1,h2,h3,h4,h5,h6⟩:=hs;simp only[wI]at h;split at h;rename_i i j hi hj;simp only[Option.some.injEq]at h;subst h;have⟨e1,e2⟩:=E.id _ _ hj;have⟨o,ho⟩:=isSome_iff_exists.1 h4;have⟨o',dP,_⟩:=e2 o ho;have⟨e3,e4⟩:=E.id _ _ hi;have⟨p,hp⟩:=isSome_iff_exists.1 h6;have⟨p',hp',_⟩:=e4 p hp;exact⟨b,mb,es,clock,seen,h0,h1,h2,by rw[e1];exact h3,by rw[dP];rfl,by rw[e3];exact h5,by rw[hp'];rfl⟩;cases h
 |ay aD e=>
  simp only[wI,map_eq_some_iff]at h;obtain⟨l,hl,rfl⟩:=h;have⟨b,cells,fr,h0,h1,h2,h3⟩:=hs;exact⟨b,cells,fr,h0,h1,h2,wK E hl h3⟩
 |aq c e=>
  simp only[wI,Option.some.injEq]at h;subst h;have⟨r,cap,h0,h1,h2,h3⟩:=hs;refine⟨r,cap,h0,h1,h2,h3.imp id ?_⟩;rintro⟨b,f,cells,fr,us,h4,h5,h6,h7,h8⟩;exact⟨b,f,cells,fr,us,h4,h5,h6,h7,λi j hi hj=>⟨(h8 i j hi hj).1,(h8 i j hi hj).2.less E.gy⟩⟩
theorem c9{o o':au}(h:wI g o=some o'):o'.alive=o.alive/\∀c e,o'=.aq c e->o=.aq c e:=by
 cases o with
 |aB=>simp only[wI,Option.some.injEq]at h;subst h;exact⟨rfl,λc e hc=>by cases hc⟩
 |map ck m=>simp only[wI,Option.some.injEq]at h;subst h;exact⟨rfl,λc e hc=>by cases hc⟩
 |jA ck m gid=>
  simp only[wI]at h;split at h<;>simp only[Option.some.injEq]at h<;>subst h<;>exact⟨rfl,λc e hc=>by cases hc⟩
 |iter mid gid ck left cur=>
  simp only[wI]at h;split at h;simp only[Option.some.injEq]at h;subst h;exact⟨rfl,λc e hc=>by cases hc⟩;cases h
 |ay aD e=>
  simp only[wI,map_eq_some_iff]at h;obtain⟨l,hl,rfl⟩:=h;exact⟨rfl,λc e hc=>by cases hc⟩
 |aq c e=>simp only[wI,Option.some.injEq]at h;subst h;exact⟨rfl,λc e hc=>hc⟩
def akZ:List Nat->Nat->Nat->Option Nat
 |[],_,_=>none
 |x::xs,k,id=>bif x.beq id then some k else akZ xs (k+1) id
def idx(σ:List Nat)(id:Nat):Option Nat:=akZ σ 0 id
def rC(σ:List Nat)(L:List au):Option (List au):=allM (λid=>match L[id]? with|some o=>wI (idx σ) o|none=>none) σ
def tp:List Nat->Bool
 |[]=>true
 |x::xs=> !(xs.any (x.beq ·))&&tp xs
theorem zx:∀{σ:List Nat} {k id j:Nat},akZ σ k id=some j->k<=j/\σ[j - k]? =some id
 |[],k,id,j,h=>by simp[akZ]at h
 |x::xs,k,id,j,h=>by
  simp only[akZ,cond_eq_ite]at h;split at h;rename_i hx;obtain rfl:x=id:=Nat.eq_of_beq_eq_true hx;obtain rfl:k=j:=by simpa using h
  exact⟨le_refl _,by simp⟩;have⟨h1,h2⟩:=zx h;refine⟨by omega, ?_⟩;rw[show j - k=(j - (k+1))+1 from by omega];simpa using h2
theorem acJ{σ:List Nat}{id j:Nat}(h:idx σ id=some j):σ[j]? =some id:=by simpa using(zx h).2
theorem lQ:∀{σ:List Nat},tp σ=true->σ.Nodup
 |[],_=>.nil
 |x::xs,h=>by
  simp only[tp,and_eq_true,not_eq_true',List.any_eq_false]at h;refine List.nodup_cons.2 ⟨λhm=> ?_,lQ h.2⟩;have:=h.1 x hm;simp at this
theorem ph{σ:List Nat}{L L':List au}(h:rC σ L=some L'){j:Nat}{o':au}(hj:L'[j]? =some o'):∃(id:Nat) (o:au),σ[j]? =some id/\L[id]? =some o/\wI (idx σ) o=some o':=by
 have bK:=ie h;have bA:j<σ.length:=by rw[<-bK];exact(getElem?_eq_some_iff.1 hj).1
 have⟨b,h1,h2⟩:=gK h j σ[j] (getElem?_eq_getElem bA);rw[hj]at h2;simp only[Option.some.injEq]at h2;subst h2;split at h1;rename_i o ho;exact⟨σ[j],o,getElem?_eq_getElem bA,ho,h1⟩;cases h1
theorem acK{σ:List Nat}{L L':List au}(h:rC σ L=some L'){j id:Nat}(hj:σ[j]? =some id):∃o o',L[id]? =some o/\wI (idx σ) o=some o'/\L'[j]? =some o':=by
 have⟨b,h1,h2⟩:=gK h j id hj;split at h1;rename_i o ho;exact⟨o,b,ho,h1,h2⟩;cases h1
def pull(σ:List Nat)(ρ:Nat->Value):Nat->Value:=λj=>ρ (σ.getD j 0)
theorem rD{σ:List Nat}{L L':List au}(hv:rC σ L=some L'){b:Nat}(h:Own (pull σ ρ) (λj=>L'[j]?) b):∃(j id:Nat) (o:au),σ[j]? =some id/\L[id]? =some o/\o.alive=true/\fp (ρ id)=some b:=by
 have⟨j,o',dP,ha,hb⟩:=h;have⟨id,o,h1,h2,h3⟩:=ph hv dP;have:pull σ ρ j=ρ id:=by simp[pull,List.getD,h1]
 rw[this]at hb;exact⟨j,id,o,h1,h2,by rw[<-(c9 h3).1];exact ha,hb⟩
theorem tq{σ:List Nat}{L L':List au}{G':Nat->Prop}(hs:Sat ρ (λi=>L[i]?) G w)(hn:σ.Nodup)(hv:rC σ L=some L')(hG:∀b,G' b->bd ρ (λi=>L[i]?) G b)(hap:∀b,Own (pull σ ρ) (λj=>L'[j]?) b->¬G' b):
 Sat (pull σ ρ) (λj=>L'[j]?) G' w/\Emb (idx σ) ρ (λi=>L[i]?) (bd ρ (λi=>L[i]?) G) (pull σ ρ) (λj=>L'[j]?) (bd (pull σ ρ) (λj=>L'[j]?) G'):=by
 have oD:∀{j id:Nat},σ[j]? =some id->pull σ ρ j=ρ id:=λh1=>by simp[pull,List.getD,h1]
 have E:Emb (idx σ) ρ (λi=>L[i]?) (bd ρ (λi=>L[i]?) G) (pull σ ρ) (λj=>L'[j]?) (bd (pull σ ρ) (λj=>L'[j]?) G'):=by
  refine⟨λi j lI=> ?_,λb hb=> ?_⟩;have h1:=acJ lI;refine⟨oD h1,λo ho=> ?_⟩;have⟨o1,o',h2,h3,h4⟩:=acK hv h1;rw[show L[i]? =some o from ho]at h2;simp only[Option.some.injEq]at h2;subst h2;exact⟨o',h4,(c9 h3).2⟩;rcases hb with hb|hb;have⟨j,id,o,h1,h2,h3,h4⟩:=rD hv hb;exact .inl ⟨id,o,h2,h3,h4⟩;exact hG b hb
 refine⟨⟨λj o' dP=> ?_,λi j oi oj b hi hj ai aj bi bj=> ?_,hap,λb hb=>aaD hs (hG b hb)⟩,E⟩;have⟨id,o,h1,h2,h3⟩:=ph hv dP;rw[oD h1];exact aa8 E h3 (hs.obj id o h2);have⟨id,o,h1,h2,h3⟩:=ph hv hi;have⟨id',o',h1',h2',h3'⟩:=ph hv hj;rw[oD h1]at bi;rw[oD h1']at bj;have:=hs.inj id id' o o' b h2 h2' (by rw[<-(c9 h3).1];exact ai) (by rw[<-(c9 h3').1];exact aj) bi bj;subst this;have fG:=getElem?_eq_some_iff.1 h1;have kq:=getElem?_eq_some_iff.1 h1';have⟨hi1,hi2⟩:=fG;have⟨hj1,u7⟩:=kq;exact(List.getElem_inj hn).1 (hi2.trans u7.symm)
theorem zy{σ:List Nat}{L L':List au}{ρ0:Nat->Value}{H0:aV}{O0:Nat->Prop}{w0:World}{m:Nat}(hs:Sat ρ (λi=>L[i]?) G w)(hn:σ.Nodup)(hv:rC σ L=some L')(aja:∀i,i<m->σ[i]? =some i)(h0:∀id,m<=id->H0 id=none)
 (st:Step ρ0 H0 O0 w0 ρ (λi=>L[i]?) (bd ρ (λi=>L[i]?) G) w):Step ρ0 H0 O0 w0 (pull σ ρ) (λj=>L'[j]?) (bd (pull σ ρ) (λj=>L'[j]?) G) w:=by
 have E:=(tq (G':=G) hs hn hv (λb hb=>.inr hb) (λb hb=>by
  have⟨j,id,o,h1,h2,h3,h4⟩:=rD hv hb;exact hs.apart b ⟨id,o,h2,h3,h4⟩)).2
 have bA:∀{id:Nat} {o:au},H0 id=some o->id<m:=λ{id o} h=>by
  rcases lt_or_ge id m with h1|h1;exact h1;rw[h0 id h1]at h;cases h
 refine⟨λid o ho=> ?_,λid o ho=> ?_,λb hb=>st.gy b (E.gy b hb),st.heap,st.size⟩;rw[show pull σ ρ id=ρ id from by simp[pull,List.getD,aja id (bA ho)]];exact st.vH id o ho;have⟨o1,h1,h2⟩:=st.fq id o ho;have⟨o2,o',h3,h4,h5⟩:=acK hv (aja id (bA ho));rw[show L[id]? =some o1 from h1]at h3;simp only[Option.some.injEq]at h3;subst h3;exact⟨o',h5,λc e hc=>h2 c e ((c9 h4).2 c e hc)⟩
theorem Good.view{σ:List Nat}{L L':List au}{m d:Nat}{r r':AV}{v:Value}(h:Good ρ H G w (λi=>L[i]?) r v w')(hn:σ.Nodup)(hv:rC σ L=some L')(aja:∀i,i<m->σ[i]? =some i)(h0:∀id,m<=id->H id=none)(hr:rn (idx σ) d r=some r'):
 Good ρ H G w (λi=>L'[i]?) r' v w':=by
 have⟨aQ,h1,h2,h3,h4⟩:=h
 have⟨h5,h6⟩:=tq (G':=G) h1 hn hv (λb hb=>.inr hb) (λb hb=>by
  have⟨j,id,o,h1',h2,h3,h4⟩:=rD hv hb;exact h1.apart b ⟨id,o,h2,h3,h4⟩)
 exact⟨pull σ aQ,h5,(wJ h6 d).1 r r' v hr h2,zy h1 hn hv aja h0 h3,h4⟩
theorem cF.view{σ:List Nat}{ah uz:List AV}{L L':List au}{m d:Nat}(h:cF X ρ ⟨ah,L⟩ a w)(hn:σ.Nodup)(hv:rC σ L=some L')(aja:∀i,i<m->σ[i]? =some i)(h0:∀id,m<=id->X.H id=none)(ht:allM (rn (idx σ) d) ah=some uz):
 cF X (pull σ ρ) ⟨uz,L'⟩ a w:=by
 have hs:Sat ρ (λi=>L[i]?) X.G w:=h.sat
 have⟨h5,h6⟩:=tq (G':=X.G) hs hn hv (λb hb=>.inr hb) (λb hb=>by
  have⟨j,id,o,h1',h2,h3,h4⟩:=rD hv hb;exact hs.apart b ⟨id,o,h2,h3,h4⟩)
 refine⟨h5,by rw[<-h.size];exact ie ht,λt=> ?_,h.defers,zy hs hn hv aja h0 h.ax,h.jQ,h.bc⟩;have hd:=h.den t;simp only[]at hd ⊢;rcases lt_or_ge t ah.length with bA|hge;have⟨b,h1,h2⟩:=gK ht t ah[t] (getElem?_eq_getElem bA);have e1:ah.getD t (.s .bk)=ah[t]:=by simp[List.getD,bA]
 have e2:uz.getD t (.s .bk)=b:=by simp[List.getD,h2]
 rw[e1]at hd;rw[e2];exact(wJ h6 d).1 _ _ _ h1 hd
 have e2:uz.getD t (.s .bk)=.s .bk:=by
  have:=ie ht;simp[List.getD,getElem?_eq_none (show uz.length<=t by omega)]
 rw[e2];unfold ak;trivial
def fa(ks:List Nat):Nat->List AV->List AV
 |_,[]=>[]
 |i,a::aS=>(bif ks.any (i.beq ·)then a else .s .bk)::fa ks (i+1) aS
theorem nv(ks:List Nat):∀(i:Nat) (aS:List AV),(fa ks i aS).length=aS.length
 |_,[]=>rfl
 |i,a::aS=>by simp[fa,nv ks (i+1) aS]
theorem rE(ks:List Nat):∀(i:Nat) (aS:List AV) (t:Nat),(fa ks i aS).getD t (.s .bk)=aS.getD t (.s .bk)\/(fa ks i aS).getD t (.s .bk)=.s .bk
 |_,[],t=>.inl rfl
 |i,a::aS,0=>by
  simp only[fa,List.getD_cons_zero];cases ks.any (i.beq ·);exact .inr rfl;exact .inl rfl
 |i,a::aS,t+1=>by
  simp only[fa,List.getD_cons_succ];exact rE ks (i+1) aS t
theorem cF.fa{ah:List AV}{L:List au}(ks:List Nat)(h:cF X ρ ⟨ah,L⟩ a w):cF X ρ ⟨fa ks 0 ah,L⟩ a w:=by
 refine⟨h.sat,by rw[<-h.size];exact nv ks 0 ah,λt=> ?_,h.defers,h.ax,h.jQ,h.bc⟩;rcases rE ks 0 ah t with h1|h1;simp only[];rw[h1];exact h.den t;simp only[];rw[h1];unfold ak;trivial
def pj(c:a8)(e:TypeId)(t:Nat)(ah:List AV)(L:List au):List AV×List au:=
 match ah.getD t (.s .bk)with
 |.emp=>bif c.n.beq 0 then(ah.set t (.aq L.length),L++[.aq c e])else(ah,L)
 |_=>(ah,L)
theorem Step.alloc{v:Value}{c:a8}{e:TypeId}{L:List au}(hb:fp v=none):
 Step ρ (λi=>L[i]?) (bd ρ (λi=>L[i]?) G) w (λj=>if j=L.length then v else ρ j) (λi=>(L++[.aq c e])[i]?) (bd (λj=>if j=L.length then v else ρ j) (λi=>(L++[.aq c e])[i]?) G) w:=by
 have bA:∀{id:Nat} {o:au},L[id]? =some o->id<L.length:=λh=>(getElem?_eq_some_iff.1 h).1;refine⟨λid o ho=> ?_,λid o ho=> ?_,λb uN=>.inl ?_,λ_ _ _=>rfl,le_refl _⟩;have:=bA ho;rw[if_neg (by omega)];have h1:=bA ho;exact⟨o,by show(L++[.aq c e])[id]? =_;rw[getElem?_append_left h1];exact ho,λc' e' hc=>⟨c',e',hc,rfl,rfl⟩⟩;rcases uN with⟨id,o,ho,ha,hbl⟩|hg;by_cases dN:id=L.length;simp only[dN,if_true]at hbl;rw[hb]at hbl;cases hbl;simp only[dN,if_false]at hbl
 have dP:L[id]? =some o:=by
  have h2:=(getElem?_eq_some_iff.1 ho).1;simp only[length_append,length_cons,length_nil]at h2;have h3:id<L.length:=by omega
  have h4:(L++[.aq c e])[id]? =L[id]? :=getElem?_append_left h3;rw[<-h4];exact ho
 exact .inl ⟨id,o,dP,ha,hbl⟩;exact .inr hg
theorem cF.pj{c:a8}{e:TypeId}{t:Nat}{ah:List AV}{L:List au}(h:cF X ρ ⟨ah,L⟩ a w):∃aQ,cF X aQ ⟨(pj c e t ah L).1,(pj c e t ah L).2⟩ a w:=by
 unfold Sx.pj;split;rename_i he;rw[cond_eq_ite];split;rename_i hc;have hc:c.n=0:=Nat.eq_of_beq_eq_true hc;have hd:=h.den t;simp only[]at hd;rw[he]at hd;unfold ak at hd;have⟨r,hv⟩:=hd;have mR:fp (.slice r 0 0)=none:=by cases r<;>simp[fp]
 let aQ:Nat->Value:=λj=>if j=L.length then .slice r 0 0 else ρ j
 have st:Step ρ (λi=>L[i]?) (bd ρ (λi=>L[i]?) X.G) w aQ (λi=>(L++[.aq c e])[i]?) (bd aQ (λi=>(L++[.aq c e])[i]?) X.G) w:=Step.alloc mR;have hs:Sat ρ (λi=>L[i]?) X.G w:=h.sat
 have old:∀{id:Nat} {o:au},(L++[.aq c e])[id]? =some o->(id=L.length/\o=.aq c e)\/(id≠L.length/\L[id]? =some o):=by
  intro id o ho;have h2:=(getElem?_eq_some_iff.1 ho).1;simp only[length_append,length_cons,length_nil]at h2;by_cases dN:id=L.length;subst dN;simp at ho;exact .inl ⟨rfl,ho.symm⟩;refine .inr ⟨dN, ?_⟩;rwa[getElem?_append_left (by omega)]at ho
 have ew:∀b,Own aQ (λi=>(L++[.aq c e])[i]?) b->Own ρ (λi=>L[i]?) b:=by
  rintro b ⟨id,o,ho,ha,hb⟩;rcases old ho with⟨h1,h2⟩|⟨h1,h2⟩;simp only[aQ,h1,if_true]at hb;rw[mR]at hb;cases hb;simp only[aQ,h1,if_false]at hb;exact⟨id,o,h2,ha,hb⟩
 refine⟨aQ,⟨⟨λid o ho=> ?_,λi j oi oj b hi hj ai aj bi bj=> ?_,λb hb=>hs.apart b (ew b hb),hs.low⟩,by simpa using h.size,λu=> ?_,h.defers, ?_,h.jQ,h.bc⟩⟩;rcases old ho with⟨h1,h2⟩|⟨h1,h2⟩;subst h2;simp only[aQ,h1,if_true];exact⟨r,0,by rw[hc],by omega,zero_le _,.inl rfl⟩;simp only[aQ,h1,if_false];exact(hs.obj id o h2).step st (λ_ _ _=>rfl);rcases old hi with⟨h1,h2⟩|⟨h1,h2⟩;simp only[aQ,h1,if_true]at bi;rw[mR]at bi;cases bi;rcases old hj with⟨h3,h4⟩|⟨h3,h4⟩;simp only[aQ,h3,if_true]at bj;rw[mR]at bj;cases bj;simp only[aQ,h1,if_false]at bi;simp only[aQ,h3,if_false]at bj;exact hs.inj i j oi oj b h2 h4 ai aj bi bj;simp only[];rw[dh];split;rename_i hu;obtain⟨rfl,_⟩:=hu;rw[hv];unfold ak aO;refine⟨rfl,.aq c e,by simp[St.aA],λc' e' _=> ?_⟩;exact(if_pos rfl).symm;exact ak.step st _ _ (h.den u);exact h.ax.trans st;exact⟨ρ,h⟩;exact⟨ρ,h⟩
def agV:Nat->AV->List Nat
 |0,_=>[]
 |d+1,a=>match a with
  |.an id _|.kQ id _ _ _|.aq id|.gU id _ _|.part id _ _|.gV id|.tag id|.sub id _ _|.lF id _ _ _=>[id]
  |.agg aS|.bD aS|.fn _ aS|.y8 _ aS=>aS.flatMap (agV d)
  |_=>[]
def ak0:Option au->List Nat
 |some (.ay aD _)=>aD.flatMap (agV 20)
 |some (.iter mid gid _ _ _)=>[mid,gid]
 |_=>[]
def reach(L:List au):Nat->List Nat->List Nat->List Nat
 |0,_,acc=>acc
 |_,[],acc=>acc
 |n+1,id::todo,acc=>bif acc.any (id.beq ·)then reach L n todo acc else reach L n (todo++ak0 L[id]?) (acc++[id])
def asO(m:Nat)(σ:List Nat):Bool:=(List.range m).all λi=>match σ[i]? with|some j=>i.beq j|none=>false
structure Norm where
 qb:List (Nat×a8×TypeId)
 fq:List Nat
 m:Nat
 cells:List (Nat×Nat×Bool×a8×TypeId)
def gL:List (Nat×a8×TypeId)->List AV->List au->List AV×List au
 |[],ah,L=>(ah,L)
 |(t,c,e)::ns,ah,L=>let p:=pj c e t ah L;gL ns p.1 p.2
def rF(id j:Nat)(c:a8)(e:TypeId)(L:List au):List au:=
 match L[id]? with
 |some (.ay aD e0)=>(match aD[j]? with
  |some .emp=>bif c.n.beq 0 then L.set id (.ay (aD.set j (.aq L.length)) e0)++[.aq c e]else L
  |_=>L)
 |_=>L
def wL(id j:Nat)(c:a8)(L:List au):List au:=
 match L[id]? with
 |some (.ay aD e0)=>(match aD[j]? with
  |some .emp=>bif c.n.beq 0 then L.set id (.ay (aD.set j (.s (.ro c))) e0)else L
  |_=>L)
 |_=>L
def rG(id j:Nat)(L:List au):List au:=
 match L[id]? with
 |some (.ay aD e0)=>(match aD[j]? with
  |some (.aq v)=>(match L[v]? with
   |some (.aq c _)=>(L.set v .aB).set id (.ay (aD.set j (.s (.ro c))) e0)
   |_=>L)
  |_=>L)
 |_=>L
def gM:List (Nat×Nat×Bool×a8×TypeId)->List au->List au
 |[],L=>L
 |(id,j,ro,c,e)::ns,L=>gM ns (bif ro then rG id j (wL id j c L)else rF id j c e L)
def roots(L:List au)(m:Nat)(ah:List AV):List Nat:=
 reach L 4000 ((List.range m).flatMap (λi=>ak0 L[i]?)++ah.flatMap (agV 20)) (List.range m)
def gr(m:Nat)(ah:List AV)(L:List au):Option (List AV×List au):=
 let σ:=roots L m ah
 bif tp σ&&asO m σ then
  match rC σ L,allM (rn (idx σ) 20) ah with
  |some L',some uz=>some (uz,L')
  |_,_=>none
 else none
def Norm.run(N:Norm)(c:cn):Option cn:=
 match gr N.m (fa N.fq 0 c.ah) c.H with
 |some (t1,L1)=>
  let p:=gL N.qb t1 L1
  (match gr N.m p.1 (gM N.cells p.2)with
  |some (t2,L2)=>some ⟨t2,L2,c.todo,c.stk⟩
  |none=>none)
 |none=>none
theorem wM:∀(aD:List AV) (j:Nat) {cells:List Value},aD[j]? =some .emp->aE ρ H O w aD cells->
 ∃r,∀(aQ:Nat->Value) (H':aV) (O':Nat->Prop) (x:AV),(∀a cs,aU ρ H O w a cs->aU aQ H' O' w a cs)->aU aQ H' O' w x [.slice r 0 0]->aE aQ H' O' w (aD.set j x) cells
 |[],j,cells,h,hd=>by simp at h
 |a::aS,0,cells,h,hd=>by
  simp only[List.getElem?_cons_zero,Option.some.injEq]at h;subst h;obtain⟨c1,c2,rfl,h1,h2⟩:=ao.1 hd;unfold aU at h1;obtain⟨u,rfl,r,rfl⟩:=h1;refine⟨r,λaQ H' O' x hs hx=> ?_⟩;simp only[List.set_cons_zero];refine ao.2 ⟨_,c2,rfl,hx, ?_⟩;clear hd
  induction aS generalizing c2 with
  |nil=>rw[aH.1 h2];exact aH.2 rfl
  |cons b bs ih=>
   obtain⟨d1,d2,rfl,h3,h4⟩:=ao.1 h2;exact ao.2 ⟨d1,d2,rfl,hs _ _ h3,ih d2 h4⟩
 |a::aS,j+1,cells,h,hd=>by
  obtain⟨c1,c2,rfl,h1,h2⟩:=ao.1 hd;have⟨r,h3⟩:=wM aS j (by simpa using h) h2;refine⟨r,λaQ H' O' x hs hx=> ?_⟩;simp only[List.set_cons_succ];exact ao.2 ⟨c1,c2,rfl,hs _ _ h1,h3 aQ H' O' x hs hx⟩
theorem cF.rF{id j:Nat}{c:a8}{e:TypeId}{ah:List AV}{L:List au}(h:cF X ρ ⟨ah,L⟩ a w):∃aQ,cF X aQ ⟨ah,rF id j c e L⟩ a w:=by
 unfold Sx.rF;split;rename_i aD e0 dN;split;rename_i hj;rw[cond_eq_ite];split;rename_i hc;have hc:c.n=0:=Nat.eq_of_beq_eq_true hc;have hs:Sat ρ (λi=>L[i]?) X.G w:=h.sat;have⟨b,cells,fr,h0,h1,h2,h3⟩:=hs.obj id _ dN;have⟨r,nX⟩:=wM aD j hj h3;have mR:fp (.slice r 0 0)=none:=by cases r<;>simp[fp]
 have bA:id<L.length:=(getElem?_eq_some_iff.1 dN).1;let aQ:Nat->Value:=λk=>if k=L.length then .slice r 0 0 else ρ k
 let L':=L.set id (.ay (aD.set j (.aq L.length)) e0)++[.aq c e]
 have old:∀{k:Nat} {o:au},L'[k]? =some o->(k=L.length/\o=.aq c e)\/(k=id/\k≠L.length/\o=.ay (aD.set j (.aq L.length)) e0)\/(k≠L.length/\k≠id/\L[k]? =some o):=by
  intro k o ho;have h2:=(getElem?_eq_some_iff.1 ho).1;simp only[L',length_append,List.length_set,length_cons,length_nil]at h2;by_cases hk:k=L.length;subst hk;simp only[L']at ho;rw[getElem?_append_right (by simp)]at ho;simp at ho;exact .inl ⟨rfl,ho.symm⟩;simp only[L']at ho;rw[getElem?_append_left (by simp;omega),getElem?_set]at ho;split at ho;rename_i hki;exact .inr (.inl ⟨hki.symm,hk,by simpa using ho.symm⟩);rename_i hki;exact .inr (.inr ⟨hk,Ne.symm hki,ho⟩)
 have new:∀{k:Nat} {o:au},L[k]? =some o->∃o',L'[k]? =some o'/\(∀c' e',o'=.aq c' e'->o=.aq c' e'):=by
  intro k o ho;have hk:k<L.length:=(getElem?_eq_some_iff.1 ho).1;by_cases hki:k=id;subst hki;refine⟨.ay (aD.set j (.aq L.length)) e0, ?_,λc' e' hc=>by cases hc⟩;simp only[L'];rw[getElem?_append_left (by simpa using hk),List.getElem?_set_self hk];refine⟨o, ?_,λc' e' hc=>hc⟩;simp only[L'];rw[getElem?_append_left (by simpa using hk),List.getElem?_set_ne (Ne.symm hki)];exact ho
 have ew:∀b,Own aQ (λi=>L'[i]?) b->Own ρ (λi=>L[i]?) b:=by
  rintro b ⟨k,o,ho,ha,hb⟩;rcases old ho with⟨h1,h2⟩|⟨h1,h2,h3⟩|⟨h1,h2,h3⟩;simp only[aQ,h1,if_true]at hb;rw[mR]at hb;cases hb;simp only[aQ,h2,if_false]at hb;exact⟨id,_,dN,rfl,h1▸hb⟩;simp only[aQ,h1,if_false]at hb;exact⟨k,o,h3,ha,hb⟩
 have st:Step ρ (λi=>L[i]?) (bd ρ (λi=>L[i]?) X.G) w aQ (λi=>L'[i]?) (bd aQ (λi=>L'[i]?) X.G) w:=by
  refine⟨λk o ho=> ?_,λk o ho=> ?_,λb hb=>.inl ?_,λ_ _ _=>rfl,le_refl _⟩;have hk:k<L.length:=(getElem?_eq_some_iff.1 ho).1;simp only[aQ];rw[if_neg (by omega)];have⟨o',h4,h5⟩:=new ho;exact⟨o',h4,λc' e' hc=>⟨c',e',h5 c' e' hc,rfl,rfl⟩⟩;rcases hb with hb|hb;exact .inl (ew b hb);exact .inr hb
 have qz:aO aQ (λi=>L'[i]?) (bd aQ (λi=>L'[i]?) X.G) w (.aq L.length) (.slice r 0 0):=by
  unfold aO;refine⟨rfl,.aq c e, ?_,λc' e' _=>(if_pos rfl).symm⟩;simp only[L'];rw[getElem?_append_right (by simp)];simp
 refine⟨aQ,⟨⟨λk o ho=> ?_,λi l oi ol b hi hl ai al bi bl=> ?_,λb hb=>hs.apart b (ew b hb),hs.low⟩,h.size,λu=>ak.step st _ _ (h.den u),h.defers,h.ax.trans st,h.jQ,h.bc⟩⟩;rcases old ho with⟨g1,g2⟩|⟨g1,g2,g3⟩|⟨g1,g2,g3⟩;subst g2;simp only[aQ,g1,if_true];exact⟨r,0,by rw[hc],by omega,zero_le _,.inl rfl⟩;subst g3;simp only[aQ,g2,if_false];rw[g1,h0];exact⟨b,cells,fr,rfl,h1,h2,nX aQ _ _ _ (λa cs hd=>aU.step st a cs hd) (by unfold aU;exact⟨_,rfl,qz⟩)⟩;simp only[aQ,g1,if_false];exact(hs.obj k o g3).step st (λ_ _ _=>rfl)
 have low:∀{k:Nat} {o:au},L'[k]? =some o->o.alive=true->fp (aQ k)=some b->∃o2,L[k]? =some o2/\o2.alive=true/\fp (ρ k)=some b:=by
  intro k o ho ha hb;rcases old ho with⟨g1,g2⟩|⟨g1,g2,g3⟩|⟨g1,g2,g3⟩;simp only[aQ,g1,if_true]at hb;rw[mR]at hb;cases hb;simp only[aQ,g2,if_false]at hb;exact⟨_,g1▸dN,rfl,hb⟩;simp only[aQ,g1,if_false]at hb;exact⟨o,g3,ha,hb⟩
 have⟨o1,q1,q2,q3⟩:=low hi ai bi;have⟨o2,q4,q5,q6⟩:=low hl al bl;exact hs.inj i l o1 o2 b q1 q4 q2 q5 q3 q6;exact⟨ρ,h⟩;exact⟨ρ,h⟩;exact⟨ρ,h⟩
theorem rH{c:a8}(hc:c.n=0)(r:Option Addr):bg O w (.ro c) (.slice r 0 0):=by
 have:=bg.ro (O:=O) (w:=w) c r 0 (λ_ _=>undef) 0 0 (by omega) (zero_le _) (λh=>by omega) (λi j hi hj=>by omega) (λi j hi hj=>by omega);rwa[hc]at this
theorem cF.wL{id j:Nat}{c:a8}{ah:List AV}{L:List au}(h:cF X ρ ⟨ah,L⟩ a w):cF X ρ ⟨ah,wL id j c L⟩ a w:=by
 unfold Sx.wL;split;rename_i aD e0 dN;split;rename_i hj;rw[cond_eq_ite];split;rename_i hc;have hc:c.n=0:=Nat.eq_of_beq_eq_true hc;have hs:Sat ρ (λi=>L[i]?) X.G w:=h.sat;have⟨b,cells,fr,h0,h1,h2,h3⟩:=hs.obj id _ dN;have⟨r,nX⟩:=wM aD j hj h3;have bA:id<L.length:=(getElem?_eq_some_iff.1 dN).1;let L':=L.set id (.ay (aD.set j (.s (.ro c))) e0)
 have old:∀{k:Nat} {o:au},L'[k]? =some o->(k=id/\o=.ay (aD.set j (.s (.ro c))) e0)\/(k≠id/\L[k]? =some o):=by
  intro k o ho;simp only[L']at ho;rw[getElem?_set]at ho;split at ho;rename_i hki;exact .inl ⟨hki.symm,by simpa using ho.symm⟩;rename_i hki;exact .inr ⟨Ne.symm hki,ho⟩
 have ew:∀b,Own ρ (λi=>L'[i]?) b->Own ρ (λi=>L[i]?) b:=by
  rintro b ⟨k,o,ho,ha,hb⟩;rcases old ho with⟨h1,h2⟩|⟨h1,h2⟩;exact⟨id,_,dN,rfl,h1▸hb⟩;exact⟨k,o,h2,ha,hb⟩
 have st:Step ρ (λi=>L[i]?) (bd ρ (λi=>L[i]?) X.G) w ρ (λi=>L'[i]?) (bd ρ (λi=>L'[i]?) X.G) w:=by
  refine⟨λ_ _ _=>rfl,λk o ho=> ?_,λb hb=>.inl ?_,λ_ _ _=>rfl,le_refl _⟩;by_cases hk:k=id;subst hk;refine⟨.ay (aD.set j (.s (.ro c))) e0, ?_,λc' e' hc=> ?_⟩;show(L.set k _)[k]? =_;rw[List.getElem?_set_self bA];cases hc;refine⟨o, ?_,λc' e' hc=>⟨c',e',hc,rfl,rfl⟩⟩;show(L.set id _)[k]? =_;rw[List.getElem?_set_ne (Ne.symm hk)];exact ho;rcases hb with hb|hb;exact .inl (ew b hb);exact .inr hb
 refine⟨⟨λk o ho=> ?_,λi l oi ol b hi hl ai al bi bl=> ?_,λb hb=>hs.apart b (ew b hb),hs.low⟩,h.size,λu=>ak.step st _ _ (h.den u),h.defers,h.ax.trans st,h.jQ,h.bc⟩;rcases old ho with⟨g1,g2⟩|⟨g1,g2⟩;subst g2;rw[g1,h0];exact⟨b,cells,fr,rfl,h1,h2,nX ρ _ _ _ (λa cs hd=>aU.step st a cs hd) (by unfold aU;exact⟨_,rfl,rH hc r⟩)⟩;exact(hs.obj k o g2).step st (λ_ _ _=>rfl)
 have low:∀{k:Nat} {o:au},L'[k]? =some o->o.alive=true->∃o2,L[k]? =some o2/\o2.alive=true:=by
  intro k o ho ha;rcases old ho with⟨g1,g2⟩|⟨g1,g2⟩;exact⟨_,g1▸dN,rfl⟩;exact⟨o,g2,ha⟩
 have⟨o1,q1,q2⟩:=low hi ai;have⟨o2,q4,q5⟩:=low hl al;exact hs.inj i l o1 o2 b q1 q4 q2 q5 bi bl;exact h;exact h;exact h
theorem acL:∀(aD:List AV) (j:Nat) {cells:List Value} {a:AV},aD[j]? =some a→aE ρ H O w aD cells→
 ∃cs,aU ρ H O w a cs∧∀(aQ:Nat→Value) (H':aV) (O':Nat→Prop) (x:AV),(∀a cs,aU ρ H O w a cs→aU aQ H' O' w a cs)→aU aQ H' O' w x cs→aE aQ H' O' w (aD.set j x) cells
 |[],j,cells,a,h,hd=>by simp at h
 |b::aS,0,cells,a,h,hd=>by
  simp only[List.getElem?_cons_zero,Option.some.injEq]at h;subst h;obtain⟨c1,c2,rfl,h1,h2⟩:=ao.1 hd;refine⟨c1,h1,fun aQ H' O' x hs hx=> ?_⟩;simp only[List.set_cons_zero];refine ao.2 ⟨_,c2,rfl,hx, ?_⟩;clear hd
  induction aS generalizing c2 with
  |nil=>rw[aH.1 h2];exact aH.2 rfl
  |cons b bs ih=>
   obtain⟨d1,d2,rfl,h3,h4⟩:=ao.1 h2;exact ao.2 ⟨d1,d2,rfl,hs _ _ h3,ih d2 h4⟩
 |b::aS,j+1,cells,a,h,hd=>by
  obtain⟨c1,c2,rfl,h1,h2⟩:=ao.1 hd;obtain⟨cs,h3,h4⟩:=acL aS j (by simpa using h) h2;refine⟨cs,h3,fun aQ H' O' x hs hx=> ?_⟩;simp only[List.set_cons_succ];exact ao.2 ⟨c1,c2,rfl,hs _ _ h1,h4 aQ H' O' x hs hx⟩
theorem ajb(hs:Sat ρ H G w){id:Nat}{c:a8}{e:TypeId}(ho:H id=some (.aq c e)):bg (bd ρ (aF H id .aB) G) w (.ro c) (ρ id):=by
 have e9:=hs.obj id _ ho;have⟨a,cap,hr,h2,h3,h4⟩:=e9;have akJ:∀b,bd ρ (aF H id .aB) G b->bd ρ H G b:=λb hb=>hb.imp fA (λx=>x);rw[hr];by_cases hc:cap=0;have h0:c.n=0:=by omega
 have:=bg.ro (O:=bd ρ (aF H id .aB) G) (w:=w) c a cap (λ_ _=>undef) 0 0 h2 h3 (λh=>by omega) (λi j hi hj=>by omega) (λi j hi hj=>by omega);exact this;obtain⟨b,o,cells,fr,us,rfl,g1,g2,g3,g4⟩:=h4.resolve_left hc;have mR:fp (ρ id)=some b:=by rw[hr];simp only[fp];rw[if_neg hc]
 refine bg.ro c _ cap us b o h2 h3 (λ_=>⟨rfl,λhb=> ?_,(Array.getElem?_eq_some_iff.1 g1).1⟩) (λi j hi hj=> ?_) (λi j hi hj=> ?_);rcases hb with⟨j,x,hx,ha,hb⟩|hb;by_cases hj:j=id;subst hj;simp only[aF,if_true,Option.some.injEq]at hx;subst hx;cases ha;simp only[aF,hj,if_false]at hx;exact hj (hs.inj j id x _ b hx ho ha rfl hb mR);exact hs.apart b ⟨id,_,ho,rfl,mR⟩ hb;rw[dJ g1];exact(g4 i j hi hj).1;exact(g4 i j hi hj).2.less akJ
theorem agW{L:List au}{v:Nat}{o x:au}(h:L[v]? =some o):(λi=>(L.set v x)[i]?)=aF (λi=>L[i]?) v x:=by
 funext i;simp only[aF,getElem?_set];by_cases hi:v=i;subst hi;rw[if_pos rfl,if_pos rfl,if_pos (getElem?_eq_some_iff.1 h).1];rw[if_neg hi,if_neg (Ne.symm hi)]
theorem cF.rG{id j:Nat}{ah:List AV}{L:List au}(h:cF X ρ ⟨ah,L⟩ a w):cF X ρ ⟨ah,rG id j L⟩ a w:=by
 unfold Sx.rG;split;rename_i aD e0 dN;split;rename_i v hj;split;rename_i c e hv;have cX:v≠id:=λe1=>by rw[e1,dN]at hv;cases hv
 have hs:Sat ρ (λi=>L[i]?) X.G w:=h.sat;have⟨b,cells,fr,h0,h1,h2,h3⟩:=hs.obj id _ dN;have⟨cs,hc,nX⟩:=acL aD j hj h3
 have qq:cs=[ρ v]:=by
  unfold aU at hc;obtain⟨u,rfl,hd⟩:=hc;unfold aO at hd;have⟨_,o,ho,hu⟩:=hd;rw[show o=.aq c e from by simpa[hv]using ho.symm]at hu;rw[hu _ _ rfl]
 have axT:(L.set v .aB)[id]? =some (.ay aD e0):=by rw[List.getElem?_set_ne cX];exact dN
 have hro:=ajb hs hv;have s1:=hs.kill hv;have st1:=fz (ρ:=ρ) (G:=X.G) (w:=w) (H:=λi=>L[i]?) hv;show cF X ρ ⟨ah,(L.set v .aB).set id (.ay (aD.set j (.s (.ro c))) e0)⟩ a w
 have e1:(St.aA ⟨ah,(L.set v .aB).set id (.ay (aD.set j (.s (.ro c))) e0)⟩)=aF (aF (λi=>L[i]?) v .aB) id (.ay (aD.set j (.s (.ro c))) e0):=by
  show(λi=>((L.set v .aB).set id _)[i]?)=_;rw[agW axT,agW hv]
 generalize hH1:aF (λi=>L[i]?) v .aB=H1 at *;have ari:H1 id=some (.ay aD e0):=by rw[<-hH1];simp only[aF];rw[if_neg (Ne.symm cX)];exact dN
 have ew:∀b,Own ρ (aF H1 id (.ay (aD.set j (.s (.ro c))) e0)) b->Own ρ H1 b:=by
  rintro b ⟨k,o,ho,ha,hb⟩;simp only[aF]at ho;split at ho;rename_i hk;exact⟨id,_,ari,rfl,hk▸hb⟩;exact⟨k,o,ho,ha,hb⟩
 have st2:Step ρ H1 (bd ρ H1 X.G) w ρ (aF H1 id (.ay (aD.set j (.s (.ro c))) e0)) (bd ρ (aF H1 id (.ay (aD.set j (.s (.ro c))) e0)) X.G) w:=by
  refine⟨λ_ _ _=>rfl,λk o ho=> ?_,λb hb=>.inl (hb.imp (ew b) (λx=>x)),λ_ _ _=>rfl,le_refl _⟩;by_cases hk:k=id;exact⟨.ay (aD.set j (.s (.ro c))) e0,by simp[aF,hk],λc' e' hc=>by cases hc⟩;exact⟨o,by simp only[aF];rw[if_neg hk];exact ho,λc' e' hc=>⟨c',e',hc,rfl,rfl⟩⟩
 have st:=st1.trans st2;refine⟨?_,h.size,λu=> ?_,h.defers, ?_,h.jQ,h.bc⟩;rw[e1];refine⟨λk o ho=> ?_,λi l oi ol b hi hl ai al bi bl=> ?_,λb hb=>s1.apart b (ew b hb),hs.low⟩
 replace ho:aF H1 id (.ay (aD.set j (.s (.ro c))) e0) k=some o:=ho
 unfold aF at ho;split at ho;rename_i hk;cases ho;rw[hk,h0];refine⟨b,cells,fr,rfl,h1,h2,nX ρ _ _ _ (λa cs hd=>aU.step st a cs hd) ?_⟩;rw[qq];unfold aU;exact⟨_,rfl,hro.less (λb hb=>hb.imp (ew b) (λx=>x))⟩;exact(s1.obj k o ho).step st2 (λ_ _ _=>rfl)
 have low:∀{k:Nat} {o:au},aF H1 id (.ay (aD.set j (.s (.ro c))) e0) k=some o->o.alive=true->∃o2,H1 k=some o2/\o2.alive=true:=by
  intro k o ho ha;simp only[aF]at ho;split at ho;rename_i hk;exact⟨_,hk▸ari,rfl⟩;exact⟨o,ho,ha⟩
 have⟨o1,q1,q2⟩:=low hi ai;have⟨o2,q4,q5⟩:=low hl al;exact s1.inj i l o1 o2 b q1 q4 q2 q5 bi bl;rw[e1];exact ak.step st _ _ (h.den u);rw[e1];exact h.ax.trans st;exact h;exact h;exact h
theorem cF.gM:∀(ns:List (Nat×Nat×Bool×a8×TypeId)) {ρ:Nat->Value} {ah:List AV} {L:List au},cF X ρ ⟨ah,L⟩ a w->∃aQ,cF X aQ ⟨ah,gM ns L⟩ a w
 |[],ρ,ah,L,h=>⟨ρ,h⟩
 |(id,j,ro,c,e)::ns,ρ,ah,L,h=>by
  cases ro;have⟨aQ,h'⟩:=h.rF (c:=c) (e:=e) (id:=id) (j:=j);exact cF.gM ns h';exact cF.gM ns ((h.wL (c:=c) (id:=id) (j:=j)).rG (id:=id) (j:=j))
theorem cF.gL:∀(ns:List (Nat×a8×TypeId)) {ρ:Nat->Value} {ah:List AV} {L:List au},cF X ρ ⟨ah,L⟩ a w->∃aQ,cF X aQ ⟨(gL ns ah L).1,(gL ns ah L).2⟩ a w
 |[],ρ,ah,L,h=>⟨ρ,h⟩
 |(t,c,e)::ns,ρ,ah,L,h=>by
  have⟨aQ,h'⟩:=h.pj (c:=c) (e:=e) (t:=t);exact cF.gL ns h'
theorem ajc{m:Nat}{σ:List Nat}(h:asO m σ=true):∀i,i<m->σ[i]? =some i:=by
 intro i hi;simp only[asO,all_eq_true,mem_range]at h;have:=h i hi;split at this;rename_i j hj;rw[hj,Nat.eq_of_beq_eq_true this];cases this
theorem cF.gr{m:Nat}{ah t1:List AV}{L L1:List au}(h0:∀id,m<=id->X.H id=none)(h:gr m ah L=some (t1,L1))(hr:cF X ρ ⟨ah,L⟩ a w):∃aQ,cF X aQ ⟨t1,L1⟩ a w:=by
 unfold Sx.gr at h;simp only[cond_eq_ite]at h;split at h;rename_i hb;simp only[and_eq_true]at hb;split at h;rename_i L' uz hL ht;simp only[Option.some.injEq,Prod.mk.injEq]at h;obtain⟨rfl,rfl⟩:=h;exact⟨_,hr.view (lQ hb.1) hL (ajc hb.2) h0 ht⟩;cases h;cases h
theorem Norm.safe{N:Norm}{f:FuncId}{c c':cn}(h0:∀id,N.m<=id->X.H id=none)(h:N.run c=some c')(hs:Safe P f X K c'):Safe P f X K c:=by
 intro G E ρ a w iS iZ hr b a' fs hw;unfold Norm.run at h;split at h;rename_i t1 L1 h1;simp only[]at h;split at h;rename_i t2 L2 h2;simp only[Option.some.injEq]at h;subst h;have⟨jL,r1⟩:=cF.gr (X:=X.at G E) h0 h1 (cF.fa N.fq hr);have⟨gD,r2⟩:=cF.gL N.qb r1;have⟨ρ3,r3⟩:=cF.gM N.cells r2;have⟨ρ4,r4⟩:=cF.gr (X:=X.at G E) h0 h2 r3;exact hs G E _ a w iS iZ r4 b a' fs hw;cases h;cases h
end
end Go.Sx
