/- Lemmas: SxPan3, H13, H14, H15, H16, H17, H18, H19, H20, H21, H22, H23, I1, I2, SxStill, I3, I4, I5, I6, A0, A1, A2, A3, A4, A7, E0, E1, E2. -/
import Derived.Test.YtikelbaeckehgaaGreatPC
open Go.Proofs.Tryz
open Go.IntKind (i64 u64 u8)
open Array (toList_inj)
open Bool (and_eq_true)
open ByteArray (empty)
open List (all_eq_true append_nil getElem?_eq_getElem getElem?_eq_none getElem?_map getElem_mem length_append length_drop length_map map_append mem_append mem_range)
open Nat (le_of_ble_eq_true le_refl le_trans lt_or_ge zero_add zero_le)
open Option (bind_eq_some_iff isSome_iff_exists)
noncomputable section
namespace Go.Sx
open Go
def FnT(P:Program)(Z:aP)(f:FuncId){X:Type}(S:Spec X)(T:Value->Ending->Prop):Prop:=
 ∀x,bd (S.pre x)->∀(ρ:Nat->Value) (G:Nat->Prop) (w:World) (vs:List Value),ZAt Z ρ (lk (S.heap x)) w->Sat ρ (lk (S.heap x)) G w->
  bH ρ (lk (S.heap x)) (aV ρ (lk (S.heap x)) G) w (S.args x) vs->
  Calls P f vs.toArray w λe w'=>∃v,T v e/\Good ρ (lk (S.heap x)) G w (lk (S.dG x)) (S.out x) v w'
def arV(P:Program)(Z:aP)(f:FuncId)(s:Nat->List AV->RM bK)(T:Value->Ending->Prop):Prop:=
 ∀(base:Nat) (args:List AV) (H:aJ) (q:bK),(s base args).eval H=some q->bd q.aa->∀(ρ:Nat->Value) (G:Nat->Prop) (w:World) (vs:List Value),
  (∀i,i<q.new.length->H (base+i)=none)->ZAt Z ρ H w->Sat ρ H G w->bH ρ H (aV ρ H G) w args vs->
  Calls P f vs.toArray w λen w'=>∃v,T v en/\Good ρ H G w (cL H q.up base q.new) (q.r base) v w'
section
variable{ρ aO:Nat->Value}{H H':aJ}{G O O':Nat->Prop}{w w':World}{P:Program}{Z:aP}{X:Type}{S:Spec X}
theorem xm.t{f:FuncId}{ch:List PanicEntry}(ho:∀x,S.out x=.bO [])(h:xm P Z f S ch):FnT P Z f S λv e=>v=undef/\e=.panicked ch:=by
 intro x gz ρ G w vs hz hs hd;refine(h x gz ρ G w vs hz hs hd).mono ?_;rintro e w' ⟨rfl,gB,g1,_,g3,g4⟩;exact⟨undef,⟨rfl,rfl⟩,gB,g1,by rw[ho];exact cv,g3,g4⟩
theorem ed.t{f:FuncId}(h:ed P Z f S):FnT P Z f S λv e=>e=.returned v:=λx gz ρ G w vs hz hs hd=>(h x gz ρ G w vs hz hs hd).mono λe w' ⟨v,h1,h2⟩=>⟨v,h1,h2⟩
theorem FnT.sum{f:FuncId}{T:Value->Ending->Prop}(h:FnT P Z f S T)(M:List AV->RM (X×List Nat)):arV P Z f (fm S M) T:=by
 intro base args H q hq hn ρ G w vs hY hz hs hd;unfold fm at hq;have⟨⟨x,σ⟩,_,hq⟩:=RM.nP hq;simp only[Bool.cond_eq_ite]at hq;split at hq;rename_i gl;have gl:=iZ gl;have⟨os,hq,bL,hos⟩:=jv hq;split at hq;rename_i L' r hL' hr;split at hq;rename_i hle;have hle:=le_of_ble_eq_true hle;simp only[RM.eval,Option.some.injEq]at hq;subst hq;have⟨ef,fF,gz⟩:=hn;simp only[]at hY ⊢
 have c9:∀{j:Nat} {o':au},(S.heap x)[j]? =some o'->∃(id:Nat) (o:au),σ[j]? =some id/\H id=some o/\rH (idx σ) o=some o':=by
  intro j o' c5;have hl:=eE fF;have hj:j<os.length:=by rw[<-hl];exact(List.getElem?_eq_some_iff.1 c5).1
  have⟨b,g1,g2⟩:=dE fF j os[j] (getElem?_eq_getElem hj);rw[c5]at g2;cases g2;have hj2:j<σ.length:=by omega
  have:=(hos j σ[j] (getElem?_eq_getElem hj2)).1;exact⟨σ[j],os[j],getElem?_eq_getElem hj2,by rw[this,getElem?_eq_getElem hj],g1⟩
 have gW:∀{j id:Nat},σ[j]? =some id->∃o o',H id=some o/\rH (idx σ) o=some o'/\(S.heap x)[j]? =some o':=by
  intro j id hj;have⟨g1,g2⟩:=hos j id hj;have⟨o,ho⟩:=isSome_iff_exists.1 g2;have⟨b,g3,g4⟩:=dE fF j o ho;exact⟨o,b,g1.trans ho,g3,g4⟩
 have iD:∀{j id:Nat},σ[j]? =some id->pull σ ρ j=ρ id:=λh1=>by simp[pull,List.getD,h1]
 have dD:∀{b:Nat},Own (pull σ ρ) (lk (S.heap x)) b->∃(j id:Nat) (o:au),σ[j]? =some id/\H id=some o/\o.alive=true/\eD (ρ id)=some b:=by
  rintro b ⟨j,o',c5,ha,hb⟩;have⟨id,o,h1,h2,h3⟩:=c9 c5;rw[iD h1]at hb;exact⟨j,id,o,h1,h2,by rw[<-(bq h3).1];exact ha,hb⟩
 let G':Nat->Prop:=λb=>aV ρ H G b/\¬Own (pull σ ρ) (lk (S.heap x)) b
 have E:Emb (idx σ) ρ H (aV ρ H G) (pull σ ρ) (lk (S.heap x)) (aV (pull σ ρ) (lk (S.heap x)) G'):=by
  refine⟨λi j kT=> ?_,λb hb=> ?_⟩;have h1:=uU kT;refine⟨iD h1,λo ho=> ?_⟩;have⟨o1,o',h2,h3,h4⟩:=gW h1;rw[ho]at h2;cases h2;exact⟨o',h4,(bq h3).2⟩;rcases hb with hb|hb;have⟨j,id,o,h1,h2,h3,h4⟩:=dD hb;exact .inl ⟨id,o,h2,h3,h4⟩;exact hb.1
 have ao2:Sat (pull σ ρ) (lk (S.heap x)) G' w:=by
  refine⟨λj o' c5=> ?_,λi j oi oj b hi hj ai aj bi bj=> ?_,λb hb hG=>hG.2 hb,λb hb=>ua hs hb.1⟩;have⟨id,o,h1,h2,h3⟩:=c9 c5;rw[iD h1];exact pU E h3 (hs.obj id o h2);have⟨id,o,h1,h2,h3⟩:=c9 hi;have⟨id',o',h1',h2',h3'⟩:=c9 hj;rw[iD h1]at bi;rw[iD h1']at bj;have:=hs.inj id id' o o' b h2 h2' (by rw[<-(bq h3).1];exact ai) (by rw[<-(bq h3').1];exact aj) bi bj;subst this;have⟨wY,xd⟩:=List.getElem?_eq_some_iff.1 h1;have⟨hj1,hj2⟩:=List.getElem?_eq_some_iff.1 h1';exact(List.getElem_inj gl).1 (xd.trans hj2.symm)
 have hz':ZAt Z (pull σ ρ) (lk (S.heap x)) w:=⟨hz.1,λb hb ho=>by
  have⟨j,id,o,h1,h2,h3,h4⟩:=dD ho;exact hz.2 b hb ⟨id,o,h2,h3,h4⟩⟩
 have hd':=pT E ef hd;refine(h x gz (pull σ ρ) G' w vs hz' ao2 hd').mono ?_;rintro e w' ⟨v,he,gB,g1,g2,g3,g4⟩;refine⟨v,he, ?_⟩;have aro:=eE hL';generalize hn0:(S.dG x).length=n0 at *
 have mv:∀{j:Nat},σ.length<=j->j<n0->H (base+(j - σ.length))=none:=by
  intro j h1 h2;exact hY (j - σ.length) (by simp;omega)
 have y6:∀{id:Nat} {o:au},H id=some o->¬(base<=id/\id<base+(L'.length - σ.length)):=by
  intro id o ho hc;have:=mv (j:=σ.length+(id - base)) (by omega) (by omega);rw[show base+(σ.length+(id - base) - σ.length)=id from by omega,ho]at this;cases this
 let eB:Nat->Value:=λid=>if base<=id/\id<base+(L'.length - σ.length)then gB (σ.length+(id - base))else ρ id
 let H2:=cL H (σ.zip L') base (L'.drop σ.length)
 have hL1:∀{j:Nat} {o2:au},L'[j]? =some o2->∃o,(S.dG x)[j]? =some o/\rH (back σ base n0) o=some o2:=by
  intro j o2 h1;have hj:j<(S.dG x).length:=by have:=(List.getElem?_eq_some_iff.1 h1).1;omega
  have⟨b,h2,h3⟩:=dE hL' j (S.dG x)[j] (getElem?_eq_getElem hj);rw[h1]at h3;cases h3;exact⟨_,getElem?_eq_getElem hj,h2⟩
 have abb:∀{j id:Nat},σ[j]? =some id->eB id=ρ id/\gB j=ρ id:=by
  intro j id hj;have⟨o,o',h1,h2,h3⟩:=gW hj;refine⟨?_, ?_⟩;simp only[eB];rw[if_neg (y6 h1)];rw[g3.pt j o' h3,iD hj]
 have acU:∀{j id:Nat},σ[j]? =some id->H2 id=L'[j]? :=by
  intro j id hj;have a8:j<σ.length:=(List.getElem?_eq_some_iff.1 hj).1;have:=(jY (σ:=σ) (L:=L') (j:=id) gl hle).1 j hj;simp only[H2,cL,this];rw[getElem?_eq_getElem (show j<L'.length by omega)]
 have hni:∀{id:Nat},(base<=id/\id<base+(L'.length - σ.length))->id ∉ σ:=by
  intro id hc hm;have⟨i,hi⟩:=List.getElem?_of_mem hm;have⟨o,_,h3,_⟩:=gW hi;exact y6 h3 hc
 have aiR:∀{id:Nat},(base<=id/\id<base+(L'.length - σ.length))->H2 id=L'[σ.length+(id - base)]? :=by
  intro id hc;simp only[H2,cL,(jY (σ:=σ) (L:=L') gl hle).2 (hni hc)];rw[if_pos (by simp only[length_drop];exact hc)];simp only[List.getElem?_drop]
 have aiS:∀{id:Nat},id ∉ σ->¬(base<=id/\id<base+(L'.length - σ.length))->H2 id=H id:=by
  intro id h1 h2;simp only[H2,cL,(jY (σ:=σ) (L:=L') gl hle).2 h1];rw[if_neg (by simp only[length_drop];exact h2)]
 have cls:∀{id:Nat} {o2:au},H2 id=some o2->(∃(j:Nat) (o:au),(S.dG x)[j]? =some o/\rH (back σ base n0) o=some o2/\eB id=gB j/\back σ base n0 j=some id)\/(id ∉ σ/\H id=some o2/\eB id=ρ id):=by
  intro id o2 ho;by_cases hm:id∈σ;have⟨j,hj⟩:=List.getElem?_of_mem hm;rw[acU hj]at ho;have⟨o,h1,h2⟩:=hL1 ho;have⟨h3,h4⟩:=abb hj;exact .inl ⟨j,o,h1,h2,by rw[h3,h4],by simp only[back,jP (List.getElem?_eq_some_iff.1 hj).1,cond_true];exact hj⟩;by_cases hc:base<=id/\id<base+(L'.length - σ.length);rw[aiR hc]at ho;have⟨o,h1,h2⟩:=hL1 ho;refine .inl ⟨_,o,h1,h2,by simp only[eB];rw[if_pos hc], ?_⟩;simp only[back,oB (show σ.length<=σ.length+(id - base)by omega),cond_false,jP (show σ.length+(id - base)<n0 by omega),cond_true];congr 1;omega;rw[aiS hm hc]at ho;exact .inr ⟨hm,ho,by simp only[eB];rw[if_neg hc]⟩
 have jZ:∀{id b:Nat} {o:au},id ∉ σ->H id=some o->o.alive=true->eD (ρ id)=some b->¬Own (pull σ ρ) (lk (S.heap x)) b:=by
  intro id b o hm ho ha hb hv;have⟨j,id',o',h1,h2,h3,h4⟩:=dD hv;have:=hs.inj id id' o o' b ho h2 ha h3 hb h4;subst this;exact hm (List.mem_of_getElem? h1)
 have aiT:∀{b:Nat},G b->G' b:=λ{b} hb=>⟨.inr hb,λhv=>by
  have⟨j,id',o',h1,h2,h3,h4⟩:=dD hv;exact hs.apart b ⟨id',o',h2,h3,h4⟩ hb⟩
 have aiU:∀{b:Nat},Own eB H2 b->Own gB (lk (S.dG x)) b\/(Own ρ H b/\G' b):=by
  rintro b ⟨id,o2,ho,ha,hb⟩;rcases cls ho with⟨j,o,h1,h2,h3,_⟩|⟨h1,h2,h3⟩;exact .inl ⟨j,o,h1,by rw[<-(bq h2).1];exact ha,by rw[<-h3];exact hb⟩;rw[h3]at hb;exact .inr ⟨⟨id,o2,h2,ha,hb⟩,.inl ⟨id,o2,h2,ha,hb⟩,jZ h1 h2 ha hb⟩
 have E2:Emb (back σ base n0) gB (lk (S.dG x)) (aV gB (lk (S.dG x)) G') eB H2 (aV eB H2 G):=by
  refine⟨λi j kT=> ?_,λb hb=> ?_⟩;simp only[back,Bool.cond_eq_ite]at kT;split at kT;rename_i a8;have⟨h3,h4⟩:=abb kT;refine⟨by rw[h3,h4],λo ho=> ?_⟩;have⟨b,h5,h6⟩:=dE hL' i o ho;exact⟨b,by rw[acU kT];exact h6,(bq h5).2⟩;rename_i hge;split at kT;rename_i a8;have a8:i<n0:=le_of_ble_eq_true a8
  have hge:σ.length<=i:=by
   rcases lt_or_ge i σ.length with h5|h5;exact absurd (jP h5) hge;exact h5
  simp only[Option.some.injEq]at kT;have hc:base<=j/\j<base+(L'.length - σ.length):=by omega
  have hi:σ.length+(j - base)=i:=by omega
  refine⟨by simp only[eB];rw[if_pos hc,hi],λo ho=> ?_⟩;have⟨b,h5,h6⟩:=dE hL' i o ho;exact⟨b,by rw[aiR hc,hi];exact h6,(bq h5).2⟩;cases kT;rcases hb with hb|hb;exact(aiU hb).imp (λh=>h) (λh=>h.2);exact .inr (aiT hb)
 have st:Step ρ H (aV ρ H G) w eB H2 (aV eB H2 G) w':=by
  refine⟨λid o ho=>by simp only[eB];rw[if_neg (y6 ho)],λid o ho=> ?_,λb hb=> ?_,λb hb hO=>g3.heap b hb (λhv=>hO (E.ft b hv)),g3.size⟩;by_cases hm:id∈σ;have⟨j,hj⟩:=List.getElem?_of_mem hm;have⟨o1,o',h1,h2,h3⟩:=gW hj;rw[ho]at h1;cases h1;have⟨o'',h4,h5⟩:=g3.eT j o' h3;have⟨o3,h6,h7⟩:=dE hL' j o'' h4;refine⟨o3,by rw[acU hj];exact h7,λc' e' hc=> ?_⟩;have⟨c,e1,h8,h9,iz⟩:=h5 c' e' ((bq h6).2 c' e' hc);exact⟨c,e1,(bq h2).2 c e1 h8,h9,iz⟩;exact⟨o,by rw[aiS hm (y6 ho)];exact ho,λc' e' hc=>⟨c',e',hc,rfl,rfl⟩⟩;rcases g3.ft b (E2.ft b hb)with h5|h5;exact .inl (E.ft b h5);exact .inr h5
 refine⟨eB,⟨λid o2 ho=> ?_,λi j oi oj b hi hj ai aj bi bj=> ?_,λb hb hG=> ?_,λb hb=>Nat.lt_of_lt_of_le (hs.low b hb) g3.size⟩,(rI E2 20).1 _ _ _ hr g2,st,⟨g4.os,g4.tape,g4.output,λb hb hO=>g4.heap b hb (λhv=> ?_)⟩⟩;rcases cls ho with⟨j,o,h1,h2,h3,_⟩|⟨h1,h2,h3⟩;rw[h3];exact pU E2 h2 (g1.obj j o h1);rw[h3];refine(hs.obj id o2 h2).step st (λb ha hb=> ?_);exact g4.heap b (gf hs ⟨id,o2,h2,ha,hb⟩) (jZ h1 h2 ha hb)
 have mixed:∀{b:Nat},Own gB (lk (S.dG x)) b->∀{id:Nat} {o:au},id ∉ σ->H id=some o->o.alive=true->eD (ρ id)=some b->False:=by
  intro b h1 id o h2 h3 h4 h5;have hG:G' b:=⟨.inl ⟨id,o,h3,h4,h5⟩,jZ h2 h3 h4 h5⟩;exact g1.apart b h1 hG
 rcases cls hi with⟨j1,o1,p1,p2,p3,p4⟩|⟨p1,p2,p3⟩;rw[p3]at bi;have a1:o1.alive=true:=by rw[<-(bq p2).1];exact ai
 rcases cls hj with⟨j2,o2,q1,q2,q3,q4⟩|⟨q1,q2,q3⟩;rw[q3]at bj;have:=g1.inj j1 j2 o1 o2 b p1 q1 a1 (by rw[<-(bq q2).1];exact aj) bi bj;subst this;rw[p4]at q4;exact Option.some.inj q4;rw[q3]at bj;exact(mixed ⟨j1,o1,p1,a1,bi⟩ q1 q2 aj bj).elim;rw[p3]at bi;rcases cls hj with⟨j2,o2,q1,q2,q3,q4⟩|⟨q1,q2,q3⟩;rw[q3]at bj;exact(mixed ⟨j2,o2,q1,by rw[<-(bq q2).1];exact aj,bj⟩ p1 p2 ai bi).elim;rw[q3]at bj;exact hs.inj i j oi oj b p2 q2 ai aj bi bj;rcases aiU hb with h5|h5;exact g1.apart b h5 (aiT hG);exact hs.apart b h5.1 hG;have⟨j,id,o,h1,h2,h3,h4⟩:=dD hv;exact hO ⟨id,o,h2,h3,h4⟩;simp[RM.eval]at hq;simp[RM.eval]at hq;simp[RM.eval]at hq
theorem sA{Y:Ctx}{K:List au->AV->Prop}{U:Type}{R:Spec U}{ch:List PanicEntry}{x:U}{f g:FuncId}{fn:Func}{key i rid:Nat}{us:List Operand}{s:Nat->List AV->RM bK}(hf:P.funcs[f]? =some fn)(xk:(qg fn key i).bind (aet g)=some us)
 (er:di P g=true) {tmps:List AV} {L:List au} (hg:((qg fn key i).all λy=>gOk y.1 y.2.1 tmps)=true) (hS:arV P Z g s λv e=>v=undef/\e=.panicked ch) (hz:cE Z Y) (hXH:Y.H=lk (R.heap x)) (mg:∀e w',vn R x ch Y.ρ Y.G Y.w e w'->Y.pan e w')
 {q:bK} (hq:(s L.length (us.map (gy tmps))).eval (lk L)=some q) (hn:bd q.aa) (mv:q.new=[]) (hu:aaH L.length q.up) (gW:l3 L q.up=R.dG x):Safe P f Y K ⟨tmps,L,fI fn key i,{rid:=rid}⟩:=by
 have⟨⟨ops,o,k⟩,h1,h2⟩:=bind_eq_some_iff.1 xk;rw[h1]at hg;unfold aet at h2;split at h2;rename_i c e2;simp only[]at e2;split at h2;rename_i g' e3;rw[Bool.cond_eq_ite]at h2;split at h2;rename_i e4;have e4:g=g':=Nat.eq_of_beq_eq_true e4;subst e4;simp only[Option.some.injEq]at h2;subst h2;refine vp hf h1 (λc' h=>by rw[e2]at h;cases h) (by simpa using hg) λG E ρ a w fV gh hr=> ?_;have hl:bH ρ (lk L) (aV ρ (lk L) G) w (c.args.toList.map (gy tmps)) (c.args.toList.map a.eval):=jT c.args.toList λz _=>hr.ev z;have key:=hS L.length _ (lk L) q hq hn ρ G w _ (λj hj=>by rw[mv]at hj;simp at hj) (zed (hz.at G E) hr.iH hr.sat hr.cu) hr.sat hl;have e1:(c.args.toList.map a.eval).toArray=c.args.map a.eval:=by apply toList_inj.1;simp
 unfold vk
 have eG:(execOp a.eval o).run P w=.ok (.enter g (c.args.toList.map a.eval).toArray) w:=by
  rw[e1];have hv:a.eval (.func g)=.func (.func g) #[] #[]:=rfl;simp[execOp,e2,resolve,e3,hv,Deferred.ofValue,invoke,dW er]
 rw[eG];refine key.mono ?_;rintro e w' ⟨v,⟨rfl,rfl⟩,ni⟩
 have e5:cL (lk L) q.up L.length q.new=lk (R.dG x):=by
  have:=uK ⟨tmps,L⟩ none q hu;rw[show cL (lk L) q.up L.length q.new=_ from this.symm,<-gW];show lk (l3 L q.up++q.new)=_;rw[mv,append_nil]
 rw[e5]at ni;have⟨gB,g1,_,g3,g4⟩:=ni;exact⟨ch,rfl,mg _ _ (ac2 hXH fV gh hr ⟨gB,g1,by unfold ae;trivial,g3,g4⟩)⟩;cases h2;cases h2;cases h2
end
end Go.Sx
namespace Ds
open Go Go.Sx Go.Proofs Lf
abbrev oo(cs:Ss):au:=.ad [om cs] 34
abbrev zb:au:=oo []
abbrev ji(nm:ByteArray)(k:Int):au:=.ad [.s (.str nm),aT k] sR
abbrev sD(n:Int):Spec Unit:=⟨λ_=>[.ptr 2 0,.ptr 0 0,.ptr 1 0],λ_=>[zb,ji bB 1,eY qi 0],λ_=>[],λ_=>[zb,ji bB 1,eY qi n],λ_=>.bO []⟩
def af5:List (Nat×Norm):=[(eb+3,⟨[],[4,5,6],3,[]⟩)]
theorem aui(ps:Ps)(nm:ByteArray)(k n:Int):run P bE.sum f48 af5 (start f48 [.ptr 2 0,.ptr 0 0,.ptr 1 0] [zb,ji nm k,eY ps n])=
 Tree.at (.mk (sl 8 [(4,.ptr 2 0),(5,.s (.ro (.ab bZ []))),(6,.agg [.s (.str nm),.s (.int .i64 k)])]) [.ad [.s (.ro (.ab bZ []))] 34,.ad [.s (.str nm),.s (.int .i64 k)] 33,.ad [.s (.ro (.ab cP ps)),.s (.int .i64 n)] 97] (fI f48 0 3) (.mk none false 0 [] 0)):=by kernel_rfl
theorem auj(ps:Ps)(nm:ByteArray)(k n:Int):run P bE.sum f50 af5 (start f50 [.ptr 2 0,.ptr 0 0,.ptr 1 0] [zb,ji nm k,eY ps n])=
 Tree.at (.mk (sl 8 [(4,.ptr 2 0),(5,.s (.ro (.ab bZ []))),(6,.agg [.s (.str nm),.s (.int .i64 k)])]) [.ad [.s (.ro (.ab bZ []))] 34,.ad [.s (.str nm),.s (.int .i64 k)] 33,.ad [.s (.ro (.ab cP ps)),.s (.int .i64 n)] 97] (fI f50 0 3) (.mk none false 0 [] 0)):=by kernel_rfl
def mX:List AV->RM (Unit×List Nat)
 |.ptr id 0::_=>.ret ((),[id])|_=>.fail ""
def cS1(fn:Func):aR:=⟨sl 8 [(4,.ptr 2 0),(5,om []),(6,.agg [.s (.str bB),aT 1])],[zb,ji bB 1,eY qi 0],fI fn 0 3,⟨none,false,0,[],0⟩⟩
theorem aev{o:au}:aaH 3 [(2,o)]:=λj hj=>by
 have hj:3<=j:=hj;obtain⟨j,rfl⟩:∃i,j=i+3:=⟨j - 3,by omega⟩;rfl
theorem ac6{Z:aP}:xm P Z 48 (sD 2001) chM:=by
 refine gP func48 (by kernel_rfl) (λx=>le_of_ble_eq_true (by kernel_rfl)) ?_;rintro⟨⟩ _ X hX hz mg;have jL:∀x∈af5,((sD 2001).heap ()).length<=x.2.m:=by intro y hy;simp[af5]at hy;rcases hy with rfl;exact le_refl _
 refine eC hz hX jL aQ.Ok.nil func48 (aui qi bB 1 0) ?_;show Safe P 48 X _ (cS1 f48);have hp:=(arU (Z:=Z) 2000 0 (by omega) (by omega)).1.1;exact sA (R:=sD 2001) (x:=()) (f:=48) (fn:=f48) (g:=49) (key:=0) (i:=3) (us:=[.tmp 4,.tmp 5,.tmp 6]) (s:=fm (sX 0 1) mX) func48 (by kernel_rfl) abm (by kernel_rfl) ((hp.t λ_=>rfl).sum mX) hz hX mg (q:=⟨[bN (some [AV.ptr 0 0,om [],.agg [.s (.str bB),aT 1]]),bN (some [eY qi 0])],[(2,eY qi 2001)],[],λ_=>.bO []⟩) rfl ⟨rfl,rfl,trivial⟩ rfl aev rfl
theorem ac7{Z:aP}:xm P Z 50 (sD 2001) chM:=by
 refine gP func50 (by kernel_rfl) (λx=>le_of_ble_eq_true (by kernel_rfl)) ?_;rintro⟨⟩ _ X hX hz mg;have jL:∀x∈af5,((sD 2001).heap ()).length<=x.2.m:=by intro y hy;simp[af5]at hy;rcases hy with rfl;exact le_refl _
 refine eC hz hX jL aQ.Ok.nil func50 (auj qi bB 1 0) ?_;show Safe P 50 X _ (cS1 f50);have hp:=(arU (Z:=Z) 2000 0 (by omega) (by omega)).2.1;exact sA (R:=sD 2001) (x:=()) (f:=50) (fn:=f50) (g:=51) (key:=0) (i:=3) (us:=[.tmp 4,.tmp 5,.tmp 6]) (s:=fm (sX 0 1) mX) func50 (by kernel_rfl) abn (by kernel_rfl) ((hp.t λ_=>rfl).sum mX) hz hX mg (q:=⟨[bN (some [AV.ptr 0 0,om [],.agg [.s (.str bB),aT 1]]),bN (some [eY qi 0])],[(2,eY qi 2001)],[],λ_=>.bO []⟩) rfl ⟨rfl,rfl,trivial⟩ rfl aev rfl
abbrev sDg(cs:Ss)(ps:Ps)(nm:ByteArray)(k m:Int):Spec Unit:=⟨λ_=>[.ptr 2 0,.ptr 0 0,.ptr 1 0],λ_=>[oo cs,ji nm k,eY ps 0],λ_=>[],λ_=>[oo cs,ji nm k,eY ps m],λ_=>.bO []⟩
abbrev sCt(g:FuncId)(cs:Ss)(ps:Ps)(nm:ByteArray)(k m:Int):Spec Unit:=⟨λ_=>[.s (.ro (.ab cP ps)),.fn g [.ptr 0 0,.ptr 1 0]],λ_=>[oo cs,ji nm k],λ_=>[],λ_=>[oo cs,ji nm k],λ_=>aT m⟩
def mD:List AV->RM (Unit×List Nat)
 |[.ptr a 0,.ptr b 0,.ptr c 0]=>.ret ((),[b,c,a])|_=>.fail ""
abbrev TM(_:Value)(e:Ending):Prop:=e=.panicked chM\/∃v,e=.returned v
abbrev eCp:TypeId:=76
abbrev L5(cs:Ss)(ps:Ps)(nm:ByteArray)(k n r:Int):List au:=[oo cs,ji nm k,.ad [aT r] 3,eY ps n,.ad [.ptr 3 0] eCp]
section
variable{ρ gB:Nat->Value}{H H1 H2:aJ}{G:Nat->Prop}{w w1 w2:World}{r:AV}{v:Value}
theorem rS(h1:Sat gB H1 G w1)(st:Step ρ H (aV ρ H G) w gB H1 (aV gB H1 G) w1)(f1:xw ρ H w w1)(f2:xw gB H1 w1 w2):xw ρ H w w2:=by
 refine⟨f2.os.trans f1.os,f2.tape.trans f1.tape,f2.output.trans f1.output,λb hb hO=> ?_⟩;rw[f2.heap b (Nat.lt_of_lt_of_le hb st.size) (λho=> ?_),f1.heap b hb hO];rcases st.ft b (.inl ho)with(h|h)|h;exact hO h;exact h1.apart b ho h;omega
theorem vu(h1:Sat gB H1 G w1)(st:Step ρ H (aV ρ H G) w gB H1 (aV gB H1 G) w1)(f1:xw ρ H w w1)(k:Good gB H1 G w1 H2 r v w2):Good ρ H G w H2 r v w2:=by
 have⟨eB,s2,d2,st2,f2⟩:=k;exact⟨eB,s2,d2,st.trans st2,rS h1 st f1 f2⟩
theorem xX{L0 L L':List au}{o:AV}(h:Good ρ (lk L0) G w (lk L) r v w1)(N:Norm)(hm:L0.length≤N.m)(hN:N.run ⟨[r],L,[],{}⟩=some ⟨[o],L',[],{}⟩):Good ρ (lk L0) G w (lk L') o v w1:=by
 obtain⟨gB,g1,g2,g3,g4⟩:=h
 have r0:b8 ⟨ρ,lk L0,G,w,[],fun _ _=>False⟩ gB ⟨[r],L⟩ {tmps:= #[v],defers:=[]} w1:=by
  refine⟨g1,rfl,fun t=> ?_,rfl,g3,g4,fun x hx=>by cases hx⟩;cases t with
  |zero=>exact g2
  |succ t=>simp only[List.getD,Array.getD];simp;unfold ae;trivial
 have h0:∀id,N.m≤id→(⟨ρ,lk L0,G,w,[],fun _ _=>False⟩:Ctx).H id=none:=fun id dU=>by simp[lk];omega
 unfold Norm.run at hN;split at hN
 ·rename_i t1 L1 h1;simp only[]at hN;split at hN
  ·rename_i t2 L2 h2;simp only[Option.some.injEq,aR.mk.injEq,and_true]at hN;obtain⟨rfl,rfl⟩:=hN;obtain⟨gB,r1⟩:=b8.fY h0 h1 (b8.dX N.eT r0);obtain⟨eB,r2⟩:=b8.gm N.oJ r1;obtain⟨ρ3,r3⟩:=b8.gn N.cells r2;obtain⟨ρ4,r4⟩:=b8.fY h0 h2 r3;exact⟨ρ4,r4.sat,(by have h:=r4.den 0;exact h),r4.cu,r4.iH⟩
  ·cases hN
 ·cases hN
theorem qj{O:Nat->Prop}{a:AV}{u:Value}{az:List AV}{us:List Value}(ha:a.single=true)(h:ae ρ H O w a u)(k:aA ρ H O w az us):aA ρ H O w (a::az) (u::us):=
 ah.2 ⟨[u],us,rfl,(gV ha h).1,k⟩
end
abbrev qCt(cs:Ss)(ps:Ps)(nm:ByteArray)(k m:Int):bK:=⟨[bN (some [AV.ptr 2 0,.ptr 0 0,.ptr 1 0]),bN (some [oo cs,ji nm k,eY ps 0])],[(0,oo cs),(1,ji nm k),(3,eY ps m)],[],λ_=>.bO []⟩
theorem vv{ρ:Nat->Value}{H:aJ}{O:Nat->Prop}{w:World}{id b:Nat}(h:ae ρ H O w (.ptr id 0) (.pointer (some ⟨b,0,none⟩))):ρ id=.pointer (some ⟨b,0,none⟩):=by
 unfold ae aH at h;have⟨b',h1,h2,_⟩:=h;rw[h1,h2]
theorem zd{ρ:Nat->Value}{H:aJ}{O:Nat->Prop}{w:World}{r:Int}{az:List AV}{cells:List Value}(h:aA ρ H O w (aT r::az) cells):∃rest,cells=.int .i64 r::rest/\aA ρ H O w az rest:=by
 obtain⟨c1,c2,rfl,h1,h2⟩:=ah.1 h;obtain⟨u,rfl,_,h3⟩:=dV h1 rfl (λ_ _ _ e=>by cases e);have h4:=aw (by simp) h3;cases h4;exact⟨c2,rfl,h2⟩
theorem aew{ρ:Nat->Value}{H:aJ}{O:Nat->Prop}{w:World}{a:AV}{az:List AV}{cells:List Value}(ha:a.wide=1)(hi:∀k n ws,a≠.ay k n ws)(h:aA ρ H O w (a::az) cells):∃u rest,cells=u::rest/\ae ρ H O w a u/\aA ρ H O w az rest:=by
 obtain⟨c1,c2,rfl,h1,h2⟩:=ah.1 h;obtain⟨u,rfl,_,h3⟩:=dV h1 ha hi;exact⟨u,c2,rfl,h3,h2⟩
theorem ac8{Z:aP}{g:FuncId}{cs:Ss}{ps:Ps}{nm:ByteArray}{k m:Int}(hg:di P g=true)(hT:FnT P Z g (sDg cs ps nm k m) TM):ed P Z 47 (sCt g cs ps nm k m):=by
 rintro⟨⟩ _ ρ G w vs hz hs hd;change Sat ρ (lk [oo cs,ji nm k]) G w at hs;change bH ρ (lk [oo cs,ji nm k]) (aV ρ (lk [oo cs,ji nm k]) G) w _ vs at hd;obtain⟨v0,r0,rfl,h0,hd⟩:=aG.1 hd;obtain⟨v1,r1,rfl,h1,hd⟩:=aG.1 hd;obtain rfl:=bc.1 hd;obtain⟨cap,rfl,ug⟩:∃us:List Value,v1=.func (.func g) #[] us.toArray/\bH ρ (lk [oo cs,ji nm k]) (aV ρ (lk [oo cs,ji nm k]) G) w [.ptr 0 0,.ptr 1 0] us:=by unfold ae at h1;exact h1
 obtain⟨a,n,c,rfl⟩:∃a n c,v0=.slice a n c:=by
  have h:=aw (by simp) h0;cases h;exact⟨_,_,_,rfl⟩
 have⟨gB,s1,d1,st1,f1⟩:=lq (n:=2) (segs:=[aT 0]) (e:=3) (cells:=[.int .i64 0]) hs rfl (qj rfl (aC (.int _ _)) (aB.2 rfl));have⟨eB,s2,d2,st2,f2⟩:=lq (n:=3) (segs:=[.s (.ro (.ab cP ps)),aT 0]) (e:=eCo) (cells:=[.slice a n c,.int .i64 0]) s1 rfl (qj rfl (ae.step st1 _ _ h0) (qj rfl (aC (.int _ _)) (aB.2 rfl)));have⟨ρ3,s3,d3,st3,f3⟩:=lq (n:=4) (segs:=[.ptr 3 0]) (e:=eCp) s2 rfl (qj rfl d2 (aB.2 rfl));rw[dN]at d2 s3 d3 st3 f3;rw[dN,dN]at d3
 have eH:aK (aK (aK (lk [oo cs,ji nm k]) 2 (.ad [aT 0] 3)) 3 (eY ps 0)) 4 (.ad [.ptr 3 0] eCp)=lk (L5 cs ps nm k 0 0):=by
  funext j
  match j with
  |0=>rfl|1=>rfl|2=>rfl|3=>rfl|4=>rfl|j+5=>rfl
 rw[eH]at s3 d3 st3;have stW:=(st1.trans st2).trans st3;have fW:=rS s2 (st1.trans st2) (rS s1 st1 f1 f2) f3;have p2:ρ3 2=.pointer (some ⟨w.heap.size,0,none⟩):=by rw[st3.pt 2 _ rfl,st2.pt 2 _ rfl];exact vv d1
 have p3:ρ3 3=.pointer (some ⟨w.heap.size+1,0,none⟩):=by rw[st3.pt 3 _ rfl];exact vv d2
 have p4:ρ3 4=.pointer (some ⟨w.heap.size+1+1,0,none⟩):=vv d3;have hz5:=zed (X:=⟨ρ,lk [oo cs,ji nm k],G,w,[],λ_ _=>False⟩) hz fW s3 stW
 have hd5:bH ρ3 (lk (L5 cs ps nm k 0 0)) (aV ρ3 (lk (L5 cs ps nm k 0 0)) G) (wCt w (.slice a n c)) [.ptr 3 0,.ptr 0 0,.ptr 1 0] (.pointer (some ⟨w.heap.size+1,0,none⟩)::cap):=
  aG.2 ⟨_,_,rfl,ae.step st3 _ _ d2,bH.step stW _ _ ug⟩
 have key:=(hT.sum mD) 5 [.ptr 3 0,.ptr 0 0,.ptr 1 0] (lk (L5 cs ps nm k 0 0)) (qCt cs ps nm k m) rfl ⟨rfl,rfl,trivial⟩ ρ3 G _ _ (λj hj=>absurd hj (Nat.not_lt_zero j)) hz5 s3 hd5
 have e5:cL (lk (L5 cs ps nm k 0 0)) (qCt cs ps nm k m).up 5 (qCt cs ps nm k m).new=lk (L5 cs ps nm k m 0):=by
  funext j
  match j with
  |0=>rfl|1=>rfl|2=>rfl|3=>rfl|4=>rfl|j+5=>simp[cL,cD,lk]
 rw[e5]at key;refine(ac5 (k:=m) (R:=λw'=>∃v,Good ρ3 (lk (L5 cs ps nm k 0 0)) G (wCt w (.slice a n c)) (lk (L5 cs ps nm k m 0)) (.bO []) v w') hg ?_ ?_).mono ?_;rintro w' ⟨v,ρ4,g1,g2,g3,g4⟩;have q2:=g1.obj 2 _ rfl;have q3:=g1.obj 3 _ rfl;have q4:=g1.obj 4 _ rfl;rw[g3.pt 2 _ rfl,p2]at q2;rw[g3.pt 3 _ rfl,p3]at q3;rw[g3.pt 4 _ rfl,p4]at q4;have⟨b2,c2,fr2,e2,h2,u2,k2⟩:=q2;have⟨b3,c3,fr3,e3,h3,u3,k3⟩:=q3;have⟨b4,c4,fr4,e4,h4,u4,k4⟩:=q4;simp only[Value.pointer.injEq,Option.some.injEq,Addr.mk.injEq,and_true]at e2 e3 e4;subst e2 e3 e4;obtain⟨t2,rfl,k2⟩:=zd k2;obtain⟨x3,t3,rfl,_,k3⟩:=aew rfl (λ_ _ _ e=>by cases e) k3;obtain⟨t3,rfl,k3⟩:=zd k3;obtain⟨x4,t4,rfl,k5,k4⟩:=aew rfl (λ_ _ _ e=>by cases e) k4;refine⟨?_,oT h2 (by simpa using u2) (by simp), ?_, ?_⟩;simp[World.cell?,h2]
 have:x4=.pointer (some ⟨w.heap.size+1,0,none⟩):=by
  unfold ae aH at k5;have⟨b',i1,i2,_⟩:=k5;rw[g3.pt 3 _ rfl,p3]at i1;rw[i2,<-i1]
 subst this;simp[World.cell?,h4];simp[World.cell?,h3];have e6:(#[Value.pointer (some ⟨w.heap.size+1,0,none⟩)]++cap.toArray)=(Value.pointer (some ⟨w.heap.size+1,0,none⟩)::cap).toArray:=by simp
 rw[e6];refine Calls.mono key ?_;rintro e w' ⟨v,h,h'⟩;exact⟨h,v,h'⟩;rintro e w'' ⟨w1,⟨v,ni⟩,rfl,hw⟩;refine⟨_,rfl, ?_⟩;have⟨ρ4,g1,g2,g3,g4⟩:=ni;have hp:ρ4 2=.pointer (some ⟨w.heap.size,0,none⟩):=by rw[g3.pt 2 _ rfl,p2]
 have q2:=g1.obj 2 _ rfl;rw[hp]at q2;have⟨b2,c2,fr2,e2,h2,u2,k2⟩:=q2;simp only[Value.pointer.injEq,Option.some.injEq,Addr.mk.injEq,and_true]at e2;subst e2;obtain⟨t2,rfl,k9⟩:=zd k2;obtain rfl:=aB.1 k9
 have e7:w1.setCell ⟨w.heap.size,0,none⟩ (.int .i64 m)=World.cc w1 w.heap.size (.cells [Value.int .i64 m].toArray 3 fr2):=by
  rw[mL h2];rfl
 have e8:(w1.setCell ⟨w.heap.size,0,none⟩ (.int .i64 m)).setCell ⟨w.heap.size,0,none⟩ (.int .i64 m)=World.cc w1 w.heap.size (.cells [Value.int .i64 m].toArray 3 fr2):=by
  rw[e7,mL (dM h2),oz];rfl
 have ew:w''=World.cc w1 w.heap.size (.cells [Value.int .i64 m].toArray 3 fr2):=by
  rcases hw with hw|hw;rw[hw,e7];rw[hw,e8]
 subst ew;have wr:=Good.pE g1 (id:=2) (segs':=[aT m]) rfl hp h2 u2 (cells':=[.int .i64 m]) rfl (qj rfl (aC (.int _ _)) (aB.2 rfl))
 have eU:aK (lk (L5 cs ps nm k m 0)) 2 (.ad [aT m] 3)=lk (L5 cs ps nm k m m):=by
  funext j
  match j with
  |0=>rfl|1=>rfl|2=>rfl|3=>rfl|4=>rfl|j+5=>rfl
 rw[eU]at wr;have⟨ρ5,s5,_,st5,f5⟩:=wr;have fin:Good ρ (lk [oo cs,ji nm k]) G w (lk (L5 cs ps nm k m m)) (aT m) (.int .i64 m) _:=vu s3 stW fW (vu g1 g3 g4 ⟨ρ5,s5,aC (.int _ _),st5,f5⟩);exact xX fin ⟨[],[0],2,[]⟩ (le_refl _) rfl
def arW(g:FuncId)(cs:Ss)(ps:Ps)(nm:ByteArray)(k m:Int):Prop:=∀Z,FnT P Z g (sDg cs ps nm k m) TM
def ib(g:FuncId)(ps:Ps)(nm:ByteArray)(k m:Int):Prop:=arW g [] ps nm k m
abbrev vw:Type:=Ps->ByteArray->Int->Int
abbrev apn(g:FuncId)(F:vw):Spec (Ps×ByteArray×Int):=⟨λ(ps,_,_)=>[.s (.ro (.ab cP ps)),.fn g [.ptr 0 0,.ptr 1 0]],λ(_,nm,k)=>[zb,ji nm k],λ(ps,nm,k)=>[ib g ps nm k (F ps nm k)],λ(_,nm,k)=>[zb,ji nm k],λ(ps,nm,k)=>aT (F ps nm k)⟩
def mC:List AV->RM ((Ps×ByteArray×Int)×List Nat)
 |[.s (.ro (.ab [.str,.rows [.str,.int .u8,.int .i64,.str],.rows [.str,.int .u8,.int .i64,.int .i64,.int .u8,.str,.str,.str,.bool,.rows [.str,.int .u8,.int .i64,.str],.strs],.rows [.int .i64,.int .i64,.str,.bool]] ps)),.fn _ [.ptr a 0,.ptr b 0]]=>.look b λo=>match o with
  |some (.ad [.s (.str nm),.s (.int .i64 k)] _)=>.ret ((ps,nm,k),[a,b])|_=>.fail ""
 |_=>.fail ""
def anP(F:vw):aQ:=[(47,fm (apn 48 F) mC)]
def anQ(F:vw):aQ:=[(47,fm (apn 50 F) mC)]
theorem amk(F:vw)(ps:Ps)(cs:Ss)(nm:ByteArray)(k:Int):run P (anP F).sum f29 [] (start f29 [.s (.ro (.ab cP ps)),om cs,.agg [.s (.str nm),aT k]] [])=
 Tree.aa (bN (some [AV.s (.ro (.ab cP ps)),.fn 48 [.ptr 0 0,.ptr 1 0]])) (.aa (some [au.ad [.s (.ro (.ab bZ cs))] 34,.ad [.s (.str nm),aT k] 33]=some [au.ad [.s (.ro (.ab bZ []))] 34,.ad [.s (.str nm),aT k] 33]) (.aa (ib (48:FuncId) ps nm k (F ps nm k)) (.ret [.ad [.s (.ro (.ab bZ []))] 34,.ad [.s (.str nm),aT k] 33] (aT (F ps nm k))))):=by kernel_rfl
theorem aml(F:vw)(ps:Ps)(cs:Ss)(nm:ByteArray)(k:Int):run P (anQ F).sum f30 [] (start f30 [.s (.ro (.ab cP ps)),om cs,.agg [.s (.str nm),aT k]] [])=
 Tree.aa (bN (some [AV.s (.ro (.ab cP ps)),.fn 50 [.ptr 0 0,.ptr 1 0]])) (.aa (some [au.ad [.s (.ro (.ab bZ cs))] 34,.ad [.s (.str nm),aT k] 33]=some [au.ad [.s (.ro (.ab bZ []))] 34,.ad [.s (.str nm),aT k] 33]) (.aa (ib (50:FuncId) ps nm k (F ps nm k)) (.ret [.ad [.s (.ro (.ab bZ []))] 34,.ad [.s (.str nm),aT k] 33] (aT (F ps nm k))))):=by kernel_rfl
theorem aex{Z:aP}{g:FuncId}{F:vw}(hg:di P g=true):ed P Z 47 (apn g F):=by
 rintro⟨ps,nm,k⟩ ⟨h,_⟩ ρ G w vs hz hs hd;exact ac8 hg (h Z) () trivial ρ G w vs hz hs hd
theorem ajp{Z:aP}{F:vw}:(anP F).Ok P Z:=aQ.Ok.cons ((aex (by kernel_rfl)).sum mC) aQ.Ok.nil
theorem ajq{Z:aP}{F:vw}:(anQ F).Ok P Z:=aQ.Ok.cons ((aex (by kernel_rfl)).sum mC) aQ.Ok.nil
def NoC(cs:Ss):Prop:=cs=[]
abbrev ajr(g:FuncId)(F:vw):AL [bh,te,y7]->List Prop:=λ(ps,cs,(nm,k,()),())=>[NoC cs,ib g ps nm k (F ps nm k)]
theorem vz{Z:aP}{f:FuncId}{U:Type}{S:Spec U}{T T':Value->Ending->Prop}(h:FnT P Z f S T)(k:∀v e,T v e->T' v e):FnT P Z f S T':=
 λx hp ρ G w vs hz hs hd=>(h x hp ρ G w vs hz hs hd).mono λe w' ⟨v,h1,h2⟩=>⟨v,k v e h1,h2⟩
theorem ajs{Z:aP}(F:vw):cf P Z 29 [bh,te,y7] [bx] (ajr 48 F) (λ(ps,_,(nm,k,()),())=>(F ps nm k,())):=by
 refine a6 func29 (by kernel_rfl) (by kernel_rfl) ?_;rintro⟨(ps:Ps),(cs:Ss),⟨(nm:ByteArray),(k:Int),⟨⟩⟩,⟨⟩⟩ _ ⟨(hc:NoC cs),(q7:ib 48 ps nm k (F ps nm k)),_⟩ X hX hz;have hc:cs=[]:=hc;subst hc;show Safe P 29 X (Ends [bx] (F ps nm k,())) _;refine go hz hX ajp func29 (amk F ps [] nm k) ⟨rfl,rfl,q7, ?_⟩;exact aL _ rfl (by kernel_rfl)
theorem ajt{Z:aP}(F:vw):cf P Z 30 [bh,te,y7] [bx] (ajr 50 F) (λ(ps,_,(nm,k,()),())=>(F ps nm k,())):=by
 refine a6 func30 (by kernel_rfl) (by kernel_rfl) ?_;rintro⟨(ps:Ps),(cs:Ss),⟨(nm:ByteArray),(k:Int),⟨⟩⟩,⟨⟩⟩ _ ⟨(hc:NoC cs),(q7:ib 50 ps nm k (F ps nm k)),_⟩ X hX hz;have hc:cs=[]:=hc;subst hc;show Safe P 30 X (Ends [bx] (F ps nm k,())) _;refine go hz hX ajq func30 (aml F ps [] nm k) ⟨rfl,rfl,q7, ?_⟩;exact aL _ rfl (by kernel_rfl)
theorem ze:ib 48 qi bB 1 2001:=λZ=>vz (ac6.t λ_=>rfl) λv e h=>.inl h.2
theorem zf:ib 50 qi bB 1 2001:=λZ=>vz (ac7.t λ_=>rfl) λv e h=>.inl h.2
theorem aey{g:FuncId}{ps:Ps}{nm:ByteArray}{k m:Int}(h:∀Z,ed P Z g (sDg [] ps nm k m)):ib g ps nm k m:=λZ=>vz (h Z).t λv e h=>.inr ⟨v,h⟩
abbrev xY(ps:Ps)(cs:Ss)(nm:ByteArray)(k n m:Int):Spec Unit:=⟨λ_=>[.ptr 0 0,om cs,.agg [.s (.str nm),aT k]],λ_=>[eY ps n],λ_=>[],λ_=>[eY ps m],λ_=>.bO []⟩
def arX(ps:Ps)(cs:Ss)(nm:ByteArray)(k n m:Int):aQ:=[(51,fm (xY ps cs nm k n m) mX)]
def arY(ps:Ps)(cs:Ss)(nm:ByteArray)(k n m:Int):aQ:=[(16,aeo),(70,ajc),(49,fm (xY ps cs nm k n m) mX)]
def arZ(ps:Ps)(cs:Ss)(nm:ByteArray)(k n:Int):aR:=⟨sl 168 [(164,.ptr 0 0),(165,om cs),(166,.agg [.s (.str nm),aT k])],[eY ps n],fI f49 25 3,⟨none,false,0,[],25⟩⟩
def aju:List (Nat×Norm):=[(3,⟨[],[0,1,5,6,23,24,25],1,[]⟩)]
def cA3(ps:Ps)(cs:List (ByteArray×Int×Unit))(nm:ByteArray)(k:Int)(l:List Int)(i n:Int):aR:=⟨sl 42 [(0,.ptr 0 0),(1,om cs),(5,.ptr 1 0),(6,.ptr 2 0),(23,.vec 3),(24,aT (l.length:Int)),(25,aT i)],[eY ps n,ji nm k,jc (pN (ag ps nm)) (pV (ag ps nm)) (pO (ag ps nm)) (pF (ag ps nm)),.vec (.ay .i64 l) 3],hd f51 3,⟨none,false,0,[],0⟩⟩
inductive ajv (Z:aP) (ps:Ps) (cs:Ss) (nm:ByteArray):List Int->Int->Int->Prop
 |nil {n:Int}:ajv Z ps cs nm [] n n|cons {f:Int} {l:List Int} {n n' m:Int} (h:ed P Z 49 (xY ps cs nm (fB (el (pF (ag ps nm)) f)) n n')) (k:ajv Z ps cs nm l n' m):ajv Z ps cs nm (f::l) n m
theorem ar0(ps:Ps)(cs:Ss)(nm:ByteArray)(k n m:Int):run P (arX ps cs nm k n m).sum f49 [] (arZ ps cs nm k n)=
 Tree.aa (bN (some [AV.ptr 0 0,.s (.ro (.ab bZ cs)),.agg [.s (.str nm),.s (.int .i64 k)]])) (.aa (bN (some [au.ad [.s (.ro (.ab cP ps)),.s (.int .i64 n)] 97])) (.ret [.ad [.s (.ro (.ab cP ps)),.s (.int .i64 m)] 97] (.bO []))):=by kernel_rfl
theorem auk(ps:Ps)(cs:List (ByteArray×Int×Unit))(nm:ByteArray)(k n:Int):run P aeu.sum f51 aju (start f51 [.ptr 0 0,om cs,.agg [.s (.str nm),aT k]] [eY ps n])=
 Tree.aa ((pF (ag ps nm)).length<=1000000) (.at (cA3 ps cs nm k (cZ (pF (ag ps nm)) k) 0 n)):=by kernel_rfl
theorem aul(ps:Ps)(cs:List (ByteArray×Int×Unit))(nm:ByteArray)(k:Int)(l:List Int)(i n k' m:Int):run P (arY ps cs nm k' n m).sum f51 aju (cA3 ps cs nm k l i n)=
 Tree.ite (decide (i<l.length)) (.aa ((0:Int)<=i) (.aa (i<l.length) (.aa ((0:Int)<=l.getD i.toNat 0) (.aa (l.getD i.toNat (0:Int)<(↑(pF (ag ps nm)).length:Int)) (.aa (some [AV.ptr 0 0,.s (.ro (.ab bZ cs)),.agg [.s (.str nm),.s (.int .i64 (fB (el (pF (ag ps nm)) (l.getD i.toNat 0))))]]=some [AV.ptr 0 0,.s (.ro (.ab bZ cs)),.agg [.s (.str nm),.s (.int .i64 k')]]) (.aa (bN (some [au.ad [.s (.ro (.ab cP ps)),.s (.int .i64 n)] 97])) (.aa (aD (i+1)) (.at (cA3 ps cs nm k l (i+1) m))))))))) (.ret [.ad [.s (.ro (.ab cP ps)),.s (.int .i64 n)] 97,.ad [.s (.str nm),.s (.int .i64 k)] 33,.ad [.s (.str (pN (ag ps nm))),.s (.ro (.ab cV (pV (ag ps nm)))),.s (.ro (.ab cN (pO (ag ps nm)))),.s (.ro (.ab cF (pF (ag ps nm))))] 30,.vec (.ay .i64 l) 3] (.bO [])):=by kernel_rfl
theorem aum(ps:Ps)(cs:List (ByteArray×Int×Unit))(nm:ByteArray)(k:Int)(l:List Int)(i n:Int):run P aeu.sum f51 aju (cA3 ps cs nm k l i n)=
 Tree.ite (decide (i<l.length)) (.aa ((0:Int)<=i) (.aa (i<l.length) (.aa ((0:Int)<=l.getD i.toNat 0) (.aa (l.getD i.toNat (0:Int)<(↑(pF (ag ps nm)).length:Int)) (.stuck ("graph.go:274" ++ " " ++ "no summary")))))) (.ret [.ad [.s (.ro (.ab cP ps)),.s (.int .i64 n)] 97,.ad [.s (.str nm),.s (.int .i64 k)] 33,.ad [.s (.str (pN (ag ps nm))),.s (.ro (.ab cV (pV (ag ps nm)))),.s (.ro (.ab cN (pO (ag ps nm)))),.s (.ro (.ab cF (pF (ag ps nm))))] 30,.vec (.ay .i64 l) 3] (.bO [])):=by kernel_rfl
theorem nU{Z:aP}{ps:Ps}{cs:Ss}{nm:ByteArray}{k n m:Int}(hl:(pF (ag ps nm)).length<=1000000)(h:ajv Z ps cs nm (cZ (pF (ag ps nm)) k) n m):ed P Z 51 (xY ps cs nm k n m):=by
 refine cz func51 (by kernel_rfl) (λx=>le_of_ble_eq_true (by kernel_rfl)) ?_;rintro⟨⟩ _ X hX hz;have jL:∀x∈aju,((xY ps cs nm k n m).heap ()).length<=x.2.m:=by intro y hy;simp[aju]at hy;rcases hy with rfl;exact le_refl _
 have hfl:(cZ (pF (ag ps nm)) k).length<=(pF (ag ps nm)).length:=gq _ _;have c9:∀x∈cZ (pF (ag ps nm)) k,0<=x/\x<0+((pF (ag ps nm)).length:Int):=λx hx=>aeq (p:=pFr k) (l:=pF (ag ps nm)) (i:=0) x hx;refine eC hz hX jL vr func51 (auk ps cs nm k n) ⟨by omega, ?_⟩
 have loop:∀(j i:Nat) (n1:Int),i+j=(cZ (pF (ag ps nm)) k).length->ajv Z ps cs nm ((cZ (pF (ag ps nm)) k).drop i) n1 m->Safe P 51 X (ki (xY ps cs nm k n m) ()) (cA3 ps cs nm k (cZ (pF (ag ps nm)) k) (i:Int) n1):=by
  intro j
  induction j with
  |zero=>
   intro i n1 hi hr;rw[List.drop_eq_nil_of_le (by omega)]at hr;cases hr;refine eC hz hX jL vr func51 (aum ps cs nm k _ i m) (ak (decide_eq_false (by omega)) ?_);exact ma 1 rfl (le_refl _) rfl rfl
  |succ j ih=>
   intro i n1 hi hr;have a8:i<(cZ (pF (ag ps nm)) k).length:=by omega
   rw[List.drop_eq_getElem_cons a8,<-cK (d:=0) a8]at hr;cases hr with
   |cons hp hr=>
    rename_i n2;have hm:=c9 _ (abj a8);refine eC hz hX jL (aQ.Ok.cons y9.dY (aQ.Ok.cons ai9.dY (aQ.Ok.cons (hp.sum mX) aQ.Ok.nil))) func51 (aul ps cs nm k _ i n1 _ n2) (af (decide_eq_true (by omega)) ⟨by omega,by omega, ?_, ?_, ?_,rfl,⟨by omega,by omega⟩, ?_⟩);rw[Int.toNat_natCast];omega;rw[Int.toNat_natCast];omega;rw[Int.toNat_natCast];exact ih (i+1) n2 (by omega) hr
 exact loop _ 0 n (zero_add _) h
theorem abq{Z:aP}{X:Ctx}{ps:Ps}{cs:Ss}{nm:ByteArray}{k n0 n m:Int}(hX:X.H=lk [eY ps n0])(hz:cE Z X)(h:ed P Z 51 (xY ps cs nm k n m)):Safe P 49 X (ki (xY ps cs nm k n0 m) ()) (arZ ps cs nm k n):=by
 refine eC hz hX (λx hx=>by cases hx) (aQ.Ok.cons (h.sum mX) aQ.Ok.nil) func49 (ar0 ps cs nm k n m) ⟨rfl,rfl, ?_⟩;exact ma 1 rfl (le_refl _) rfl rfl
section
variable{Z:aP}{ps:Ps}{cs:Ss}{nm:ByteArray}{k n m:Int}
theorem aez:∀x∈ajo,((xY ps cs nm k n m).heap ()).length<=x.2.m:=by intro y hy;simp[ajo]at hy;rcases hy with rfl|rfl|rfl|rfl|rfl<;>exact le_refl _
theorem abr(h0:0<=n)(h1:n<2000)(c9:dC (pO (ag ps nm)) k=true)(hw:pc (aM (pO (ag ps nm)) k)=true):ed P Z 49 (xY ps cs nm k n (n+1)):=by
 refine cz func49 (by kernel_rfl) (λx=>le_of_ble_eq_true (by kernel_rfl)) ?_;rintro⟨⟩ _ X hX hz;refine eC hz hX (aez (n:=n) (m:=n+1)) vt func49 (api ps n cs nm k) ⟨rfl,rfl,⟨h0,h1⟩,ak (by rw[c9];rfl) (af hw ?_)⟩;exact ma 1 rfl (le_refl _) rfl rfl
theorem sB(h0:0<=n)(h1:n<2000)(c9:dC (pO (ag ps nm)) k=true)(hw:pc (aM (pO (ag ps nm)) k)=false)(hk:[11,12,8,9,14,5].contains (nK (aM (pO (ag ps nm)) k))=false)(he:[5,4].contains (nE (aM (pO (ag ps nm)) k))=false)
 (h:ed P Z 51 (xY ps cs nm k (n+1) m)):ed P Z 49 (xY ps cs nm k n m):=by
 refine cz func49 (by kernel_rfl) (λx=>le_of_ble_eq_true (by kernel_rfl)) ?_;rintro⟨⟩ _ X hX hz;simp only[List.contains_cons,List.contains_nil,Bool.or_eq_false_iff,and_true]at hk he;have⟨k1,k2,k3,k4,k5,k6⟩:=hk;have⟨e1,e2⟩:=he;refine eC hz hX (aez (n:=n) (m:=m)) vt func49 (api ps n cs nm k) ⟨rfl,rfl,⟨h0,h1⟩,ak (by rw[c9];rfl) (ak hw (ak k1 (ak k2 (ak k3 (ak k4 (ak k5 (ak k6 (ak e1 (ak e2 ?_)))))))))⟩;exact abq (k:=k) (n0:=n) hX hz h
end
def ar1(ps:Ps)(nm:ByteArray)(k m:Int):aQ:=[(49,fm (xY ps [] nm k 0 m) mX)]
def ar2(ps:Ps)(nm:ByteArray)(k m:Int):aQ:=[(51,fm (xY ps [] nm k 0 m) mX)]
abbrev bA:ByteArray:=⟨#[97]⟩
def psA:Ps:=[(bA,[],[nOf 1,nOf 3,nOf 2],[fOf 0 1,fOf 1 2],())]
theorem ar3(ps:Ps)(nm:ByteArray)(k m:Int):run P (ar1 ps nm k m).sum f48 [] (start f48 [.ptr 2 0,.ptr 0 0,.ptr 1 0] [zb,ji nm k,eY ps 0])=
 Tree.aa (bN (some [AV.ptr 0 0,.s (.ro (.ab bZ [])),.agg [.s (.str nm),.s (.int .i64 k)]])) (.aa (bN (some [au.ad [.s (.ro (.ab cP ps)),.s (.int .i64 0)] 97])) (.ret [.ad [.s (.ro (.ab bZ []))] 34,.ad [.s (.str nm),.s (.int .i64 k)] 33,.ad [.s (.ro (.ab cP ps)),.s (.int .i64 m)] 97] (.bO []))):=by kernel_rfl
theorem ar4(ps:Ps)(nm:ByteArray)(k m:Int):run P (ar2 ps nm k m).sum f50 [] (start f50 [.ptr 2 0,.ptr 0 0,.ptr 1 0] [zb,ji nm k,eY ps 0])=
 Tree.aa (bN (some [AV.ptr 0 0,.s (.ro (.ab bZ [])),.agg [.s (.str nm),.s (.int .i64 k)]])) (.aa (bN (some [au.ad [.s (.ro (.ab cP ps)),.s (.int .i64 0)] 97])) (.ret [.ad [.s (.ro (.ab bZ []))] 34,.ad [.s (.str nm),.s (.int .i64 k)] 33,.ad [.s (.ro (.ab cP ps)),.s (.int .i64 m)] 97] (.bO []))):=by kernel_rfl
theorem vA{ps:Ps}{nm:ByteArray}{k m:Int}(h:∀Z,ed P Z 49 (xY ps [] nm k 0 m)):ib 48 ps nm k m:=aey λZ=>by
 refine cz func48 (by kernel_rfl) (λx=>le_of_ble_eq_true (by kernel_rfl)) ?_;rintro⟨⟩ _ X hX hz;refine eC hz hX (λx hx=>by cases hx) (aQ.Ok.cons ((h Z).sum mX) aQ.Ok.nil) func48 (ar3 ps nm k m) ⟨rfl,rfl, ?_⟩;exact ma 3 rfl (le_refl _) rfl rfl
theorem vB{ps:Ps}{nm:ByteArray}{k m:Int}(h:∀Z,ed P Z 51 (xY ps [] nm k 0 m)):ib 50 ps nm k m:=aey λZ=>by
 refine cz func50 (by kernel_rfl) (λx=>le_of_ble_eq_true (by kernel_rfl)) ?_;rintro⟨⟩ _ X hX hz;refine eC hz hX (λx hx=>by cases hx) (aQ.Ok.cons ((h Z).sum mX) aQ.Ok.nil) func50 (ar4 ps nm k m) ⟨rfl,rfl, ?_⟩;exact ma 3 rfl (le_refl _) rfl rfl
theorem anR:cZ (pF (ag psA bA)) 0=[0]:=by kernel_rfl
theorem ar5:cZ (pF (ag psA bA)) 1=[1]:=by kernel_rfl
theorem ar6:cZ (pF (ag psA bA)) 2=[]:=by kernel_rfl
theorem aeA:(pF (ag psA bA)).length<=1000000:=le_of_ble_eq_true (by kernel_rfl)
theorem vC{Z:aP}{n:Int}(h0:0<=n)(h1:n<2000):ed P Z 49 (xY psA [] bA 1 n (n+1)):=abr h0 h1 (by kernel_rfl) (by kernel_rfl)
theorem ajw{Z:aP}{n:Int}(h0:0<=n)(h1:n<2000):ed P Z 49 (xY psA [] bA 2 n (n+1)):=
 sB h0 h1 (by kernel_rfl) (by kernel_rfl) (by kernel_rfl) (by kernel_rfl) (nU aeA (by rw[ar6];exact .nil))
theorem fb(ps:Ps)(nm:ByteArray)(i k:Int)(h:fB (el (pF (ag ps nm)) i)=k){Z:aP}{n m:Int}(hp:ed P Z 49 (xY ps [] nm k n m)):ed P Z 49 (xY ps [] nm (fB (el (pF (ag ps nm)) i)) n m):=by rw[h];exact hp
theorem aun:ib 48 psA bA 0 2:=vA λZ=>sB (by omega) (by omega) (by kernel_rfl) (by kernel_rfl) (by kernel_rfl) (by kernel_rfl) (nU aeA (by rw[anR];exact .cons (fb psA bA 0 1 (by kernel_rfl) (vC (n:=1) (by omega) (by omega))) .nil))
theorem auo:ib 50 psA bA 0 1:=vB λZ=>nU aeA (by rw[anR];exact .cons (fb psA bA 0 1 (by kernel_rfl) (vC (n:=0) (by omega) (by omega))) .nil)
theorem aup:ib 48 psA bA 1 1:=vA λZ=>vC (n:=0) (by omega) (by omega)
theorem auq:ib 50 psA bA 1 1:=vB λZ=>nU aeA (by rw[ar5];exact .cons (fb psA bA 1 2 (by kernel_rfl) (ajw (n:=0) (by omega) (by omega))) .nil)
abbrev anS(g:FuncId)(F:vw):=sumOf [bh,te,y7] [bx] (ajr g F) (λ(ps,_,(nm,k,()),())=>(F ps nm k,()))
def anU(C1 C2:vw):aQ:=[(29,anS 48 C1),(30,anS 50 C2)]
theorem aur(C1 C2:vw)(a:ByteArray)(vs:Vs)(ns:Ns)(fs:Fs)(n want al:Int):run P (anU C1 C2).sum f12 [] (start f12 [jy a vs ns fs,aT n,aT want,aT al] [])=
 Tree.aa (NoC []) (.aa (ib (48:FuncId) [(a,vs,ns,fs,())] a n (C1 [(a,vs,ns,fs,())] a n)) (.ite (C1 [(a,vs,ns,fs,())] a n==want) (.aa (NoC []) (.aa (ib (50:FuncId) [(a,vs,ns,fs,())] a n (C2 [(a,vs,ns,fs,())] a n)) (.ret [.ad [.s (.str a),.s (.ro (.ab cV vs)),.s (.ro (.ab cN ns)),.s (.ro (.ab cF fs))] 30,.vec (.ab cP [(a,vs,ns,fs,())]) 30,.ad [.s (.str a),aT n] 33] (.s (.bool (C2 [(a,vs,ns,fs,())] a n==al)))))) (.ret [.ad [.s (.str a),.s (.ro (.ab cV vs)),.s (.ro (.ab cN ns)),.s (.ro (.ab cF fs))] 30,.vec (.ab cP [(a,vs,ns,fs,())]) 30,.ad [.s (.str a),aT n] 33] (.s (.ao false))))):=by kernel_rfl
theorem ajx{Z:aP}{C1 C2:vw}:(anU C1 C2).Ok P Z:=aQ.Ok.cons (ajs C1).sum (aQ.Ok.cons (ajt C2).sum aQ.Ok.nil)
theorem amm{Z:aP}(C1 C2:vw):cf P Z 12 [dF,bx,bx,bx] [aZ] (λ((a,vs,ns,fs,()),n,_,_,())=>[ib 48 [(a,vs,ns,fs,())] a n (C1 [(a,vs,ns,fs,())] a n),ib 50 [(a,vs,ns,fs,())] a n (C2 [(a,vs,ns,fs,())] a n)])
 (λ((a,vs,ns,fs,()),n,want,al,())=>((C1 [(a,vs,ns,fs,())] a n==want)&&(C2 [(a,vs,ns,fs,())] a n==al),())):=by
 refine a6 func12 (by kernel_rfl) (by kernel_rfl) ?_;rintro⟨⟨(a:ByteArray),(vs:Vs),(ns:Ns),(fs:Fs),⟨⟩⟩,(n:Int),(want:Int),(al:Int),⟨⟩⟩ _ ⟨h1,h2,_⟩ X hX hz;show Safe P 12 X (Ends [aZ] ((C1 [(a,vs,ns,fs,())] a n==want)&&(C2 [(a,vs,ns,fs,())] a n==al),())) _;refine go hz hX ajx func12 (aur C1 C2 a vs ns fs n want al) ⟨rfl,h1, ?_⟩;cases e:C1 [(a,vs,ns,fs,())] a n==want with
 |true=>exact af rfl ⟨rfl,h2,aL _ rfl (by kernel_rfl)⟩
 |false=>exact ak rfl (aL _ rfl (by kernel_rfl))
def ar7:List (Nat×Norm):=[(3,⟨[],[1,3,4],0,[]⟩)]
def cLg(a:ByteArray)(vs:Vs)(ns:Ns)(fs:Fs)(s i:Int):aR:=⟨sl 46 [(1,.ptr 0 0),(3,aT s),(4,aT i)],[jc a vs ns fs],hd f14 3,{}⟩
def okP(vs:Vs)(ns:Ns)(fs:Fs):Prop:=vs.length*48<=140737488351232/\ns.length*152<=140737488351232/\fs.length*40<=140737488351232/\∀x∈ns,(nV x).length*48<=140737488351232/\(nZ x).length*16<=140737488351232
def lgF:List (CL cN)->Int->Bool
 |[],s=>decide (s>=300)|x::l,s=>if s<300 then lgF l (s+((nV x).length:Int)+((nZ x).length:Int))else true
def kR(vs:Vs)(ns:Ns)(fs:Fs):Bool:=lgF ns ((ns.length:Int)+(fs.length:Int)+(vs.length:Int))
abbrev ar8:=sumOf [dF] [aZ] (λ((_,vs,ns,fs,()),())=>[okP vs ns fs]) (λ((_,vs,ns,fs,()),())=>(kR vs ns fs,()))
theorem aus(a:ByteArray)(vs:Vs)(ns:Ns)(fs:Fs):run P bE.sum f14 ar7 (start f14 [jy a vs ns fs] [])=
 Tree.aa (aD ((↑(List.length ns):Int)+(↑(List.length fs):Int))) (.aa (aD ((↑(List.length ns):Int)+(↑(List.length fs):Int)+(↑(List.length vs):Int))) (.at (cLg a vs ns fs ((↑(List.length ns):Int)+(↑(List.length fs):Int)+(↑(List.length vs):Int)) 0))):=by kernel_rfl
theorem ar9(a:ByteArray)(vs:Vs)(ns:Ns)(fs:Fs)(s i:Int):run P bE.sum f14 ar7 (cLg a vs ns fs s i)=
 Tree.ite (decide (i<(↑(List.length ns):Int))) (.ite (decide (s<300)) (.aa ((0:Int)<=i) (.aa (i<(↑(List.length ns):Int)) (.aa (aD (s+(↑(nV (el ns i)).length:Int))) (.aa ((0:Int)<=i) (.aa (i<(↑(List.length ns):Int)) (.aa (aD (s+(↑(nV (el ns i)).length:Int)+(↑(nZ (el ns i)).length:Int))) (.aa (aD (i+1)) (.at (cLg a vs ns fs (s+(↑(nV (el ns i)).length:Int)+(↑(nZ (el ns i)).length:Int)) (i+1)))))))))) (.ret [.ad [.s (.str a),.s (.ro (.ab cV vs)),.s (.ro (.ab cN ns)),.s (.ro (.ab cF fs))] 30] (.s (.bool (decide (s>=300)))))) (.ret [.ad [.s (.str a),.s (.ro (.ab cV vs)),.s (.ro (.ab cN ns)),.s (.ro (.ab cF fs))] 30] (.s (.bool (decide (s>=300))))):=by kernel_rfl
theorem vD(x:CL cN)(l:Ns)(s:Int):lgF (x::l) s=if s<300 then lgF l (s+((nV x).length:Int)+((nZ x).length:Int))else true:=rfl
theorem ajy{Z:aP}:cf P Z 14 [dF] [aZ] (λ((_,vs,ns,fs,()),())=>[okP vs ns fs]) (λ((_,vs,ns,fs,()),())=>(kR vs ns fs,())):=by
 refine a6 func14 (by kernel_rfl) (by kernel_rfl) ?_;rintro⟨⟨(a:ByteArray),(vs:Vs),(ns:Ns),(fs:Fs),⟨⟩⟩,⟨⟩⟩ _ ⟨hok,_⟩ X hX hz;obtain⟨b1,b2,b3,b4⟩:okP vs ns fs:=hok;show Safe P 14 X (Ends [aZ] (kR vs ns fs,())) _
 have loop:∀(j k:Nat) (s:Int),k+j=ns.length->0<=s->s<=100000000000000->lgF (ns.drop k) s=kR vs ns fs->Safe P 14 X (Ends [aZ] (kR vs ns fs,())) (cLg a vs ns fs s (k:Int)):=by
  intro j
  induction j with
  |zero=>
   intro k s hk h0 h1 he;rw[List.drop_eq_nil_of_le (by omega)]at he;refine go hz hX aQ.Ok.nil func14 (ar9 a vs ns fs s k) (ak (decide_eq_false (by omega)) ?_);rw[<-he];exact aL _ rfl (by kernel_rfl)
  |succ j ih=>
   intro k s hk h0 h1 he;have a8:k<ns.length:=by omega
   rw[List.drop_eq_getElem_cons a8]at he;have hx:=b4 _ (getElem_mem a8);refine go hz hX aQ.Ok.nil func14 (ar9 a vs ns fs s k) (af (decide_eq_true (by omega)) ?_);rw[j5 a8];have next:=ih (k+1)
   generalize ns[k]=x at *;by_cases hs:s<300;refine af (decide_eq_true hs) ⟨by omega,by omega,⟨by omega,by omega⟩,by omega,by omega,⟨by omega,by omega⟩,⟨by omega,by omega⟩, ?_⟩;refine next _ (by omega) (by omega) (by omega) ?_
   rw[<-he,vD,if_pos hs];refine ak (decide_eq_false hs) ?_;have e:kR vs ns fs=true:=by rw[<-he,vD,if_neg hs]
   have e2:decide (s>=(300:Int))=true:=decide_eq_true (by omega);rw[e,e2];exact aL _ rfl (by kernel_rfl)
 refine go hz hX aQ.Ok.nil func14 (aus a vs ns fs) ⟨⟨by omega,by omega⟩,⟨by omega,by omega⟩, ?_⟩;exact loop ns.length 0 _ (zero_add _) (by omega) (by omega) rfl
theorem af6:∀{ns:Ns} {s:Int},lgF ns s=false->s<300
 |[],s,h=>by have:=of_decide_eq_false h;omega
 |x::l,s,h=>by
  unfold lgF at h;split at h;assumption;cases h
abbrev fKo(a b:Int)(s:ByteArray)(e:Bool):CL cF:=(a,b,s,e,())
def lnF(n:Nat):Fs:=(List.range n).map λ(i:Nat)=>fOf (i:Int) ((i:Int)+1)
abbrev sLn:Spec (ByteArray×Ns):=⟨λ(nm,_)=>[.s (.str nm),.vec 0],λ(_,ns)=>[.vec (.ab cN ns) eN],λ(_,ns)=>[1<=ns.length/\ns.length<=1000],λ(_,ns)=>[.vec (.ab cN ns) eN,.vec (.ab cF (lnF (ns.length - 1))) eF],λ(nm,_)=>.agg [.s (.str nm),.emp,.vec 0,.vec 1]⟩
def amn:List (Nat×Norm):=[(3,⟨[],[1,4,5,6],1,[(2,3,false,.ab cF [],eF)]⟩)]
def cL2(nm:ByteArray)(ns:Ns)(fs:Fs)(i:Int):aR:=⟨sl 26 [(1,.vec 0),(4,.ptr 1 0),(5,.ptr 2 0),(6,aT i)],[.vec (.ab cN ns) eN,.ad [.s (.str empty),.emp,.emp,.emp] eP,.ad [.s (.str nm),.emp,.vec 0,.vec 3] eP,.vec (.ab cF fs) eF],hd f9 3,{}⟩
theorem aut(k:Int):run P bE.sum f10 [] (start f10 [jb k] [])=
 Tree.ret [.ad [.s (.str empty),.s (.int .u8 k),.s (.aq .i64 (-1)),.s (.aq .i64 (-1)),.s (.aq .u8 0),.s (.str empty),.s (.str empty),.s (.str empty),.s (.ao false),.emp,.emp] 40] (.agg [.s (.str empty),.s (.int .u8 k),.s (.aq .i64 (-1)),.s (.aq .i64 (-1)),.s (.aq .u8 0),.s (.str empty),.s (.str empty),.s (.str empty),.s (.ao false),.emp,.emp]):=by kernel_rfl
theorem auu(nm:ByteArray)(ns:Ns):run P bE.sum f9 amn (start f9 [.s (.str nm),.vec 0] [.vec (.ab cN ns) eN])=
 Tree.at (cL2 nm ns [] 1):=by kernel_rfl
theorem asa(nm:ByteArray)(ns:Ns)(fs:Fs)(i:Int):run P bE.sum f9 amn (cL2 nm ns fs i)=
 Tree.ite (decide (i<(↑(List.length ns):Int))) (.aa (aD (i - (1:Int))) (.aa ((List.length fs+1)*(40:Nat)<=140737488355328) (.aa (aD (i+1)) (.at (cL2 nm ns (fs++[fKo (i - (1:Int)) i empty false]) (i+1)))))) (.ret [.vec (.ab cN ns) 40,.ad [.s (.str nm),.emp,.vec 0,.vec 3] 30,.ad [.s (.str nm),.emp,.vec 0,.vec 3] 30,.vec (.ab cF fs) 47] (.agg [.s (.str nm),.emp,.vec 0,.vec 3])):=by kernel_rfl
theorem ajz(n:Nat):lnF (n+1)=List.append (lnF n) [fOf (n:Int) ((n:Int)+1)]:=by unfold lnF;rw[List.range_succ,map_append];rfl
theorem amo(n:Nat):(lnF n).length=n:=by unfold lnF;rw[length_map,List.length_range]
theorem anV{Z:aP}:cf P Z 10 [gC] [y8] (λ_=>[]) (λ(k,())=>(nOf k,())):=by
 refine a6 func10 (by kernel_rfl) (by kernel_rfl) ?_;rintro⟨(k:Int),⟨⟩⟩ _ _ X hX hz;show Safe P 10 X (Ends [y8] (nOf k,())) _;exact go hz hX aQ.Ok.nil func10 (aut k) (aL _ rfl (by kernel_rfl))
theorem anW{Z:aP}:ed P Z 9 sLn:=by
 refine cz func9 (by kernel_rfl) (λx=>le_of_ble_eq_true (by kernel_rfl)) ?_;rintro⟨(nm:ByteArray),(ns:Ns)⟩ ⟨⟨h0,h1⟩,_⟩ X hX hz;have jL:∀x∈amn,(sLn.heap (nm,ns)).length<=x.2.m:=by intro y hy;simp[amn]at hy;rcases hy with rfl;exact le_refl _
 have loop:∀(j i:Nat),i+1+j=ns.length->Safe P 9 X (ki sLn (nm,ns)) (cL2 nm ns (lnF i) ((i:Int)+1)):=by
  intro j
  induction j with
  |zero=>
   intro i hi;refine eC hz hX jL aQ.Ok.nil func9 (asa nm ns (lnF i) _) (ak (decide_eq_false (by omega)) ?_);obtain rfl:i=ns.length - 1:=by omega
   exact ma 1 rfl (le_refl _) rfl rfl
  |succ j ih=>
   intro i hi;have:=amo i;refine eC hz hX jL aQ.Ok.nil func9 (asa nm ns (lnF i) _) (af (decide_eq_true (by omega)) ?_);have next:=ih (i+1) (by omega)
   rw[ajz]at next
   have e:(((i+1:Nat):Int))+1=(i:Int)+1+1:=by omega
   rw[e]at next
   refine⟨⟨by omega,by omega⟩,by omega,⟨by omega,by omega⟩, ?_⟩;rw[show(i:Int)+1 - 1=(i:Int)from by omega];exact next
 exact eC hz hX jL aQ.Ok.nil func9 (auu nm ns) (loop (ns.length - 1) 0 (by omega))
abbrev fIx:FuncId:=43
def vE:aQ:=[(17,abi),(8,ajd)]
abbrev apo:List FuncId:=[fIx,44,21]
abbrev apq:List FuncId:=[fIx,44,25]
def xn:List (Nat×Norm):=[(2,⟨[],[1,7,9,16,17,18],1,[]⟩),((fIx+1)*100000+2,⟨[],[0,1,7,8,20,26,28,35,36,37],1,[]⟩)]
def cPk(g:FuncId)(a:ByteArray)(vs:Vs)(ns:Ns)(fs:Fs)(l:List Int)(ev:Int)(ky:ByteArray)(i:Int):aR:=⟨sl 32 [(1,avL l),(7,.ptr 1 0),(9,.ptr 2 0),(16,.vec 3),(17,aT 2),(18,aT i)],[jc a vs ns fs,.ad [jb ev] 5,.ad [.fn g [.ptr 0 0]] 59,.vec (.strs [ky,empty]) 9],hd f19 2,{}⟩
def cIx(g:FuncId)(a:ByteArray)(vs:Vs)(ns:Ns)(fs:Fs)(l:List Int)(ev:Int)(ky kk:ByteArray)(i k:Int):aR:=⟨sl 51 [(0,avL l),(1,.fn 44 [.ptr 1 0,.ptr 2 0,.ptr 3 0]),(7,aT (l.length:Int)),(8,aT k),(20,avL l),(26,.ptr 2 0),(28,.ptr 1 0),(35,.vec 4),(36,aT 2),(37,aT i)],[jc a vs ns fs,.ad [.fn g [.ptr 0 0]] 59,.ad [jb ev] 5,.ad [.s (.str kk)] 9,.vec (.strs [ky,empty]) 9],hd f43 2,⟨some fIx,false,0,[cw f19 none 4 2 false 0],0⟩⟩
def lU(ns:Ns)(ev:Int)(ky:ByteArray)(n:Int):Bool:=dC ns n&&(nE (aM ns n)==ev)&&decide (nY (aM ns n)=ky)
def lI(ns:Ns)(ev:Int)(ky:ByteArray)(n:Int):Bool:=j6 ns n&&(nE (aM ns (bk ns n))==ev)&&decide (nY (aM ns (bk ns n))=ky)
def b5(q:ByteArray->Int->Bool)(l:List Int)(ky:ByteArray):Int×Bool:=match l.find? (q ky)with
 |some n=>(n,true)|none=>match l.find? (q empty)with
  |some n=>(n,true)|none=>(0,false)
abbrev PkX:Type:=ByteArray×Vs×Ns×Fs×List Int×Int×ByteArray
abbrev xZ(g:FuncId)(q:Ns->Int->ByteArray->Int->Bool):Spec PkX:=⟨λ(a,vs,ns,fs,l,ev,ky)=>[jy a vs ns fs,avL l,jb ev,.s (.str ky),.fn g [.ptr 0 0]],λ(a,vs,ns,fs,_)=>[jc a vs ns fs],λ(_,_,ns,_,l,_)=>[ns.length<=1000000,l.length<=1000000],λ(a,vs,ns,fs,_)=>[jc a vs ns fs],λ(_,_,ns,_,l,ev,ky)=>.bO [aT (b5 (q ns ev) l ky).1,.s (.bool (b5 (q ns ev) l ky).2)]⟩
theorem auv(a:ByteArray)(vs:Vs)(ns:Ns)(fs:Fs)(l:List Int)(ev:Int)(ky:ByteArray):run P vE.sum f19 xn (start f19 [jy a vs ns fs,avL l,jb ev,.s (.str ky),.fn 21 [.ptr 0 0]] [jc a vs ns fs]) apo=
 Tree.at (cPk 21 a vs ns fs l ev ky 0):=by kernel_rfl
theorem auw(a:ByteArray)(vs:Vs)(ns:Ns)(fs:Fs)(l:List Int)(ev:Int)(ky:ByteArray):run P vE.sum f19 xn (start f19 [jy a vs ns fs,avL l,jb ev,.s (.str ky),.fn 25 [.ptr 0 0]] [jc a vs ns fs]) apq=
 Tree.at (cPk 25 a vs ns fs l ev ky 0):=by kernel_rfl
theorem apr(a:ByteArray)(vs:Vs)(ns:Ns)(fs:Fs)(l:List Int)(ev:Int)(ky:ByteArray)(i:Int):run P vE.sum f19 xn (cPk 21 a vs ns fs l ev ky i) apo=
 Tree.ite (decide (i<2)) (.aa ((0:Int)<=i) (.aa (i<(↑(2:Nat):Int)) (.at (cIx 21 a vs ns fs l ev ky ([ky,empty].getD i.toNat empty) i 0)))) (.ret [.ad [.s (.str a),.s (.ro (.ab cV vs)),.s (.ro (.ab cN ns)),.s (.ro (.ab cF fs))] 30,.ad [.s (.int .u8 ev)] 5,.ad [.fn 21 [.ptr 0 0]] 59,.vec (.strs [ky,empty]) 9] (.bO [.s (.aq .i64 0),.s (.ao false)])):=by kernel_rfl
theorem aps(a:ByteArray)(vs:Vs)(ns:Ns)(fs:Fs)(l:List Int)(ev:Int)(ky:ByteArray)(i:Int):run P vE.sum f19 xn (cPk 25 a vs ns fs l ev ky i) apq=
 Tree.ite (decide (i<2)) (.aa ((0:Int)<=i) (.aa (i<(↑(2:Nat):Int)) (.at (cIx 25 a vs ns fs l ev ky ([ky,empty].getD i.toNat empty) i 0)))) (.ret [.ad [.s (.str a),.s (.ro (.ab cV vs)),.s (.ro (.ab cN ns)),.s (.ro (.ab cF fs))] 30,.ad [.s (.int .u8 ev)] 5,.ad [.fn 25 [.ptr 0 0]] 59,.vec (.strs [ky,empty]) 9] (.bO [.s (.aq .i64 0),.s (.ao false)])):=by kernel_rfl
theorem asb(a:ByteArray)(vs:Vs)(ns:Ns)(fs:Fs)(l:List Int)(ev:Int)(ky kk:ByteArray)(i k:Int):run P vE.sum f19 xn (cIx 21 a vs ns fs l ev ky kk i k) apo=
 Tree.ite (decide (k<l.length)) (.aa ((0:Int)<=k) (.aa (k<l.length) (.ite (dC ns (l.getD k.toNat 0)) (.ite (nE (aM ns (l.getD k.toNat 0))==ev) (.ite (decide (nY (aM ns (l.getD k.toNat 0))=kk)) (.ite (decide (k>=0)) (.aa ((0:Int)<=k) (.aa (k<l.length) (.ret [.ad [.s (.str a),.s (.ro (.ab cV vs)),.s (.ro (.ab cN ns)),.s (.ro (.ab cF fs))] 30,.ad [.fn 21 [.ptr 0 0]] 59,.ad [.s (.int .u8 ev)] 5,.ad [.s (.str kk)] 9,.vec (.strs [ky,empty]) 9,.ad [.s (.str (nN (aM ns (l.getD k.toNat 0)))),.s (.int .u8 (nK (aM ns (l.getD k.toNat 0)))),.s (.int .i64 (nI (aM ns (l.getD k.toNat 0)))),.s (.int .i64 (nO (aM ns (l.getD k.toNat 0)))),.s (.int .u8 (nE (aM ns (l.getD k.toNat 0)))),.s (.str (nY (aM ns (l.getD k.toNat 0)))),.s (.str (nT (aM ns (l.getD k.toNat 0)))),.s (.str (nS (aM ns (l.getD k.toNat 0)))),.s (.bool (nB (aM ns (l.getD k.toNat 0)))),.s (.ro (.ab cV (nV (aM ns (l.getD k.toNat 0))))),.s (.ro (.strs (nZ (aM ns (l.getD k.toNat 0)))))] 40,.ad [.s (.str (nN (aM ns (l.getD k.toNat 0)))),.s (.int .u8 (nK (aM ns (l.getD k.toNat 0)))),.s (.int .i64 (nI (aM ns (l.getD k.toNat 0)))),.s (.int .i64 (nO (aM ns (l.getD k.toNat 0)))),.s (.int .u8 (nE (aM ns (l.getD k.toNat 0)))),.s (.str (nY (aM ns (l.getD k.toNat 0)))),.s (.str (nT (aM ns (l.getD k.toNat 0)))),.s (.str (nS (aM ns (l.getD k.toNat 0)))),.s (.bool (nB (aM ns (l.getD k.toNat 0)))),.s (.ro (.ab cV (nV (aM ns (l.getD k.toNat 0))))),.s (.ro (.strs (nZ (aM ns (l.getD k.toNat 0)))))] 40] (.bO [.s (.int .i64 (l.getD k.toNat 0)),.s (.ao true)])))) (.aa (aD (i+1)) (.at (cPk 21 a vs ns fs l ev ky (i+1))))) (.aa (aD (k+1)) (.at (cIx 21 a vs ns fs l ev ky kk i (k+1))))) (.aa (aD (k+1)) (.at (cIx 21 a vs ns fs l ev ky kk i (k+1))))) (.aa (aD (k+1)) (.at (cIx 21 a vs ns fs l ev ky kk i (k+1))))))) (.aa (aD (i+1)) (.at (cPk 21 a vs ns fs l ev ky (i+1)))):=by kernel_rfl
theorem asc(a:ByteArray)(vs:Vs)(ns:Ns)(fs:Fs)(l:List Int)(ev:Int)(ky kk:ByteArray)(i k:Int):run P vE.sum f19 xn (cIx 25 a vs ns fs l ev ky kk i k) apq=
 Tree.ite (decide (k<l.length)) (.aa ((0:Int)<=k) (.aa (k<l.length) (.aa (List.length ns<=1000000) (.ite (j6 ns (l.getD k.toNat 0)) (.ite (nE (aM ns (bk ns (l.getD k.toNat 0)))==ev) (.ite (decide (nY (aM ns (bk ns (l.getD k.toNat 0)))=kk)) (.ite (decide (k>=0)) (.aa ((0:Int)<=k) (.aa (k<l.length) (.ret [.ad [.s (.str a),.s (.ro (.ab cV vs)),.s (.ro (.ab cN ns)),.s (.ro (.ab cF fs))] 30,.ad [.fn 25 [.ptr 0 0]] 59,.ad [.s (.int .u8 ev)] 5,.ad [.s (.str kk)] 9,.vec (.strs [ky,empty]) 9,.ad [.s (.str (nN (aM ns (bk ns (l.getD k.toNat 0))))),.s (.int .u8 (nK (aM ns (bk ns (l.getD k.toNat 0))))),.s (.int .i64 (nI (aM ns (bk ns (l.getD k.toNat 0))))),.s (.int .i64 (nO (aM ns (bk ns (l.getD k.toNat 0))))),.s (.int .u8 (nE (aM ns (bk ns (l.getD k.toNat 0))))),.s (.str (nY (aM ns (bk ns (l.getD k.toNat 0))))),.s (.str (nT (aM ns (bk ns (l.getD k.toNat 0))))),.s (.str (nS (aM ns (bk ns (l.getD k.toNat 0))))),.s (.bool (nB (aM ns (bk ns (l.getD k.toNat 0))))),.s (.ro (.ab cV (nV (aM ns (bk ns (l.getD k.toNat 0)))))),.s (.ro (.strs (nZ (aM ns (bk ns (l.getD k.toNat 0))))))] 40,.ad [.s (.str (nN (aM ns (bk ns (l.getD k.toNat 0))))),.s (.int .u8 (nK (aM ns (bk ns (l.getD k.toNat 0))))),.s (.int .i64 (nI (aM ns (bk ns (l.getD k.toNat 0))))),.s (.int .i64 (nO (aM ns (bk ns (l.getD k.toNat 0))))),.s (.int .u8 (nE (aM ns (bk ns (l.getD k.toNat 0))))),.s (.str (nY (aM ns (bk ns (l.getD k.toNat 0))))),.s (.str (nT (aM ns (bk ns (l.getD k.toNat 0))))),.s (.str (nS (aM ns (bk ns (l.getD k.toNat 0))))),.s (.bool (nB (aM ns (bk ns (l.getD k.toNat 0))))),.s (.ro (.ab cV (nV (aM ns (bk ns (l.getD k.toNat 0)))))),.s (.ro (.strs (nZ (aM ns (bk ns (l.getD k.toNat 0))))))] 40,.ad [.s (.str (nN (aM ns (bk ns (l.getD k.toNat 0))))),.s (.int .u8 (nK (aM ns (bk ns (l.getD k.toNat 0))))),.s (.int .i64 (nI (aM ns (bk ns (l.getD k.toNat 0))))),.s (.int .i64 (nO (aM ns (bk ns (l.getD k.toNat 0))))),.s (.int .u8 (nE (aM ns (bk ns (l.getD k.toNat 0))))),.s (.str (nY (aM ns (bk ns (l.getD k.toNat 0))))),.s (.str (nT (aM ns (bk ns (l.getD k.toNat 0))))),.s (.str (nS (aM ns (bk ns (l.getD k.toNat 0))))),.s (.bool (nB (aM ns (bk ns (l.getD k.toNat 0))))),.s (.ro (.ab cV (nV (aM ns (bk ns (l.getD k.toNat 0)))))),.s (.ro (.strs (nZ (aM ns (bk ns (l.getD k.toNat 0))))))] 40] (.bO [.s (.int .i64 (l.getD k.toNat 0)),.s (.ao true)])))) (.aa (aD (i+1)) (.at (cPk 25 a vs ns fs l ev ky (i+1))))) (.aa (aD (k+1)) (.at (cIx 25 a vs ns fs l ev ky kk i (k+1))))) (.aa (aD (k+1)) (.at (cIx 25 a vs ns fs l ev ky kk i (k+1))))) (.aa (aD (k+1)) (.at (cIx 25 a vs ns fs l ev ky kk i (k+1)))))))) (.aa (aD (i+1)) (.at (cPk 25 a vs ns fs l ev ky (i+1)))):=by kernel_rfl
theorem eS{Z:aP}:vE.Ok P Z:=aQ.Ok.cons ve.dY (aQ.Ok.cons aja.sum aQ.Ok.nil)
theorem aeB{q:Int->Bool}{l:List Int}{k:Nat}(hk:k<l.length)(hl:∀j (h:j<k),q (l.getD j 0)=false)(h:q (l.getD k 0)=true):l.find? q=some (l.getD k 0):=by
 rw[List.find?_eq_some_iff_getElem];refine⟨h,k,hk,(cK hk).symm,λj hj=> ?_⟩;have:=hl j hj;rw[cK (show j<l.length by omega)]at this;simp[this]
theorem aeC{q:Int->Bool}{l:List Int}(hl:∀j (h:j<l.length),q (l.getD j 0)=false):l.find? q=none:=by
 rw[List.find?_eq_none];intro x hx;obtain⟨j,hj,rfl⟩:=List.getElem_of_mem hx;have:=hl j hj;rw[cK hj]at this;simp[this]
theorem ajA{Z:aP}:ed P Z 19 (xZ 21 lU):=by
 refine cz func19 (by kernel_rfl) (λx=>le_of_ble_eq_true (by kernel_rfl)) ?_;rintro⟨(a:ByteArray),(vs:Vs),(ns:Ns),(fs:Fs),(l:List Int),(ev:Int),(ky:ByteArray)⟩ ⟨(hn:ns.length<=1000000),(hl:l.length<=1000000),_⟩ X hX hz;have jL:∀x∈xn,((xZ 21 lU).heap (a,vs,ns,fs,l,ev,ky)).length<=x.2.m:=by intro y hy;simp[xn]at hy;rcases hy with rfl|rfl<;>exact le_refl _
 have ix:∀(i:Int) (kk:ByteArray),0<=i->i<=1->(∀n,l.find? (lU ns ev kk)=some n->b5 (lU ns ev) l ky=(n,true))->(l.find? (lU ns ev kk)=none->Safe P 19 X (ki (xZ 21 lU) (a,vs,ns,fs,l,ev,ky)) (cPk 21 a vs ns fs l ev ky (i+1)))->
  ∀(j k:Nat),k+j=l.length->(∀i (h:i<k),lU ns ev kk (l.getD i 0)=false)->Safe P 19 X (ki (xZ 21 lU) (a,vs,ns,fs,l,ev,ky)) (cIx 21 a vs ns fs l ev ky kk i (k:Int)):=by
  intro i kk hi0 wY ah6 uw j
  induction j with
  |zero=>
   intro k hk pn;exact eC hz hX jL eS func19 (asb a vs ns fs l ev ky kk i k) (ak (decide_eq_false (by omega)) ⟨⟨by omega,by omega⟩,uw (aeC λj hj=>pn j (by omega))⟩)
  |succ j ih=>
   intro k hk pn;have a8:k<l.length:=by omega
   have next:=λh:lU ns ev kk (l.getD k 0)=false=>ih (k+1) (by omega) λi h1=>by
    by_cases e:i=k;subst e;exact h;exact pn i (by omega)
   have wY:aD ((k:Int)+1):=⟨by omega,by omega⟩;refine eC hz hX jL eS func19 (asb a vs ns fs l ev ky kk i k) (af (decide_eq_true (by omega)) ⟨by omega,by omega, ?_⟩);rw[Int.toNat_natCast];have fin:=λh:lU ns ev kk (l.getD k 0)=true=>ah6 _ (aeB a8 pn h);generalize l.getD k 0=x at next fin
   unfold lU at next fin
   cases h1:dC ns x with
   |false=>exact ak rfl ⟨wY,next (by rw[h1];rfl)⟩
   |true=>
    refine af rfl ?_;cases h2:nE (aM ns x)==ev with
    |false=>exact ak rfl ⟨wY,next (by rw[h1,h2];rfl)⟩
    |true=>
     refine af rfl ?_;cases h3:decide (nY (aM ns x)=kk)with
     |false=>exact ak rfl ⟨wY,next (by rw[h1,h2,h3];rfl)⟩
     |true=>
      refine af rfl (af (decide_eq_true (by omega)) ⟨by omega,by omega, ?_⟩);have e:=fin (by rw[h1,h2,h3];rfl)
      have e2:(xZ 21 lU).out (a,vs,ns,fs,l,ev,ky)=.bO [aT x,.s (.bool true)]:=by
       show AV.bO [aT (b5 (lU ns ev) l ky).1,.s (.bool (b5 (lU ns ev) l ky).2)]=_;unfold lU;rw[e]
      exact ma 1 rfl (le_refl _) e2 rfl
 have p2:l.find? (lU ns ev ky)=none->l.find? (lU ns ev empty)=none->Safe P 19 X (ki (xZ 21 lU) (a,vs,ns,fs,l,ev,ky)) (cPk 21 a vs ns fs l ev ky 2):=λh1 h2=>by
  refine eC hz hX jL eS func19 (apr a vs ns fs l ev ky 2) (ak rfl ?_)
  have e2:(xZ 21 lU).out (a,vs,ns,fs,l,ev,ky)=.bO [aT 0,.s (.bool false)]:=by
   show AV.bO [aT (b5 (lU ns ev) l ky).1,.s (.bool (b5 (lU ns ev) l ky).2)]=_;unfold b5;rw[h1,h2]
  exact ma 1 rfl (le_refl _) e2 rfl
 have p1:l.find? (lU ns ev ky)=none->Safe P 19 X (ki (xZ 21 lU) (a,vs,ns,fs,l,ev,ky)) (cPk 21 a vs ns fs l ev ky 1):=λh1=>
  eC hz hX jL eS func19 (apr a vs ns fs l ev ky 1) (af rfl ⟨by omega,by omega,ix 1 empty (by omega) (by omega) (λn hn=>by unfold b5;rw[h1,hn]) (p2 h1) l.length 0 (zero_add _) λi hi=>absurd hi (Nat.not_lt_zero _)⟩)
 have p0:=eC hz hX jL eS func19 (apr a vs ns fs l ev ky 0) (K:=ki (xZ 21 lU) (a,vs,ns,fs,l,ev,ky)) (af rfl ⟨by omega,by omega,ix 0 ky (by omega) (by omega) (λn hn=>by unfold b5;rw[hn]) p1 l.length 0 (zero_add _) λi hi=>absurd hi (Nat.not_lt_zero _)⟩);exact eC hz hX jL eS func19 (auv a vs ns fs l ev ky) p0
theorem ajB{Z:aP}:ed P Z 19 (xZ 25 lI):=by
 refine cz func19 (by kernel_rfl) (λx=>le_of_ble_eq_true (by kernel_rfl)) ?_;rintro⟨(a:ByteArray),(vs:Vs),(ns:Ns),(fs:Fs),(l:List Int),(ev:Int),(ky:ByteArray)⟩ ⟨(hn:ns.length<=1000000),(hl:l.length<=1000000),_⟩ X hX hz;have jL:∀x∈xn,((xZ 25 lI).heap (a,vs,ns,fs,l,ev,ky)).length<=x.2.m:=by intro y hy;simp[xn]at hy;rcases hy with rfl|rfl<;>exact le_refl _
 have ix:∀(i:Int) (kk:ByteArray),0<=i->i<=1->(∀n,l.find? (lI ns ev kk)=some n->b5 (lI ns ev) l ky=(n,true))->(l.find? (lI ns ev kk)=none->Safe P 19 X (ki (xZ 25 lI) (a,vs,ns,fs,l,ev,ky)) (cPk 25 a vs ns fs l ev ky (i+1)))->
  ∀(j k:Nat),k+j=l.length->(∀i (h:i<k),lI ns ev kk (l.getD i 0)=false)->Safe P 19 X (ki (xZ 25 lI) (a,vs,ns,fs,l,ev,ky)) (cIx 25 a vs ns fs l ev ky kk i (k:Int)):=by
  intro i kk hi0 wY ah6 uw j
  induction j with
  |zero=>
   intro k hk pn;exact eC hz hX jL eS func19 (asc a vs ns fs l ev ky kk i k) (ak (decide_eq_false (by omega)) ⟨⟨by omega,by omega⟩,uw (aeC λj hj=>pn j (by omega))⟩)
  |succ j ih=>
   intro k hk pn;have a8:k<l.length:=by omega
   have next:=λh:lI ns ev kk (l.getD k 0)=false=>ih (k+1) (by omega) λi h1=>by
    by_cases e:i=k;subst e;exact h;exact pn i (by omega)
   have wY:aD ((k:Int)+1):=⟨by omega,by omega⟩;refine eC hz hX jL eS func19 (asc a vs ns fs l ev ky kk i k) (af (decide_eq_true (by omega)) ⟨by omega,by omega,hn, ?_⟩);rw[Int.toNat_natCast];have fin:=λh:lI ns ev kk (l.getD k 0)=true=>ah6 _ (aeB a8 pn h);generalize l.getD k 0=x at next fin
   unfold lI at next fin
   cases h1:j6 ns x with
   |false=>exact ak rfl ⟨wY,next (by rw[h1];rfl)⟩
   |true=>
    refine af rfl ?_;cases h2:nE (aM ns (bk ns x))==ev with
    |false=>exact ak rfl ⟨wY,next (by rw[h1,h2];rfl)⟩
    |true=>
     refine af rfl ?_;cases h3:decide (nY (aM ns (bk ns x))=kk)with
     |false=>exact ak rfl ⟨wY,next (by rw[h1,h2,h3];rfl)⟩
     |true=>
      refine af rfl (af (decide_eq_true (by omega)) ⟨by omega,by omega, ?_⟩);have e:=fin (by rw[h1,h2,h3];rfl)
      have e2:(xZ 25 lI).out (a,vs,ns,fs,l,ev,ky)=.bO [aT x,.s (.bool true)]:=by
       show AV.bO [aT (b5 (lI ns ev) l ky).1,.s (.bool (b5 (lI ns ev) l ky).2)]=_;unfold lI;rw[e]
      exact ma 1 rfl (le_refl _) e2 rfl
 have p2:l.find? (lI ns ev ky)=none->l.find? (lI ns ev empty)=none->Safe P 19 X (ki (xZ 25 lI) (a,vs,ns,fs,l,ev,ky)) (cPk 25 a vs ns fs l ev ky 2):=λh1 h2=>by
  refine eC hz hX jL eS func19 (aps a vs ns fs l ev ky 2) (ak rfl ?_)
  have e2:(xZ 25 lI).out (a,vs,ns,fs,l,ev,ky)=.bO [aT 0,.s (.bool false)]:=by
   show AV.bO [aT (b5 (lI ns ev) l ky).1,.s (.bool (b5 (lI ns ev) l ky).2)]=_;unfold b5;rw[h1,h2]
  exact ma 1 rfl (le_refl _) e2 rfl
 have p1:l.find? (lI ns ev ky)=none->Safe P 19 X (ki (xZ 25 lI) (a,vs,ns,fs,l,ev,ky)) (cPk 25 a vs ns fs l ev ky 1):=λh1=>
  eC hz hX jL eS func19 (aps a vs ns fs l ev ky 1) (af rfl ⟨by omega,by omega,ix 1 empty (by omega) (by omega) (λn hn=>by unfold b5;rw[h1,hn]) (p2 h1) l.length 0 (zero_add _) λi hi=>absurd hi (Nat.not_lt_zero _)⟩)
 have p0:=eC hz hX jL eS func19 (aps a vs ns fs l ev ky 0) (K:=ki (xZ 25 lI) (a,vs,ns,fs,l,ev,ky)) (af rfl ⟨by omega,by omega,ix 0 ky (by omega) (by omega) (λn hn=>by unfold b5;rw[hn]) p1 l.length 0 (zero_add _) λi hi=>absurd hi (Nat.not_lt_zero _)⟩);exact eC hz hX jL eS func19 (auw a vs ns fs l ev ky) p0
end Ds
namespace Go.Sx
open Go
def qk(s:Nat->List AV->RM bK):Nat->List AV->RM bK:=λbase args=>(s base args).bind λq=>qd (q.up.map (·.1)) λos=>.ret ⟨(some os=some (q.up.map (·.2)))::q.aa,[],q.new,q.r⟩
section
variable{ρ:Nat->Value}{H:aJ}{G:Nat->Prop}{w:World}{P:Program}{Z:aP}
theorem vF:∀{up:List (Nat×au)} {j:Nat} {o:au},cD up j=some o->∃k:Nat,up[k]? =some (j,o)
 |[],j,o,h=>by simp[cD]at h
 |(i,x)::r,j,o,h=>by
  unfold cD at h;split at h;rename_i y hy;cases h;have⟨k,hk⟩:=vF hy;exact⟨k+1,by simpa using hk⟩;split at h;rename_i e;cases h;exact⟨0,by rw[e];rfl⟩;cases h
theorem sC{f:FuncId}{s:Nat->List AV->RM bK}(h:xj P Z f s):xj P Z f (qk s):=by
 intro base args H q hq hn ρ G w vs hY hz hs hd;unfold qk at hq;have⟨q0,h1,h2⟩:=RM.nP hq;have⟨os,h3,h4,h5⟩:=jv h2;simp only[RM.eval,Option.some.injEq]at h3;subst h3;have⟨hos,hn0⟩:=hn
 have same:cL H q0.up base q0.new=cL H [] base q0.new:=by
  funext j;unfold cL;cases hu:cD q0.up j with
  |none=>rfl|some o=>
   have⟨k,hk⟩:=vF hu;have⟨g1,g2⟩:=h5 k j (by rw[getElem?_map,hk];rfl);have g3:H j=some o:=by rw[g1,hos,getElem?_map,hk];rfl
   have g4:¬(base<=j/\j<base+q0.new.length):=λhr=>by
    have:=hY (j - base) (by show j - base<q0.new.length;omega);rw[show base+(j - base)=j by omega,g3]at this;cases this
   show some o=if base<=j/\j<base+q0.new.length then _ else H j
   rw[if_neg g4,g3]
 have:=h base args H q0 h1 hn0 ρ G w vs hY hz hs hd;rw[same]at this;exact this
end
end Go.Sx
namespace Ds
open Go Go.Sx Go.Proofs Lf
abbrev tNr:Ty:=.b (.gR (.ay .i64) 3)
abbrev asd:=dY [dF,bx] [tNr] acZ (λ((_,_,ns,_,()),n,())=>(bu ns n,()))
abbrev ase:=dY [dF,bx] [tNr] acZ (λ((_,_,ns,_,()),n,())=>(cQ ns n,()))
theorem ajC{ρ:Nat->Value}{G:Nat->Prop}{w w1:World}{v:Value}{c:aS}{e:TypeId}(h:Good ρ (lk []) G w (lk [.vec c e]) (.vec 0) v w1):Good ρ (lk []) G w (lk []) (.s (.ro c)) v w1:=by
 have⟨gB,g1,g2,g3,g4⟩:=h
 have r0:b8 ⟨ρ,lk [],G,w,[],λ_ _=>False⟩ gB ⟨[.vec 0],[.vec c e]⟩ {tmps:= #[v],defers:=[]} w1:=by
  refine⟨g1,rfl,λt=> ?_,rfl,g3,g4,λx hx=>by cases hx⟩;cases t with
  |zero=>exact g2|succ t=>simp only[List.getD,Array.getD];simp;unfold ae;trivial
 have r1:b8 ⟨ρ,lk [],G,w,[],λ_ _=>False⟩ gB ⟨[.s (.ro c)],[.aW]⟩ {tmps:= #[v],defers:=[]} w1:=r0.aaR 0;have h1:Good ρ (lk []) G w (lk [.aW]) (.s (.ro c)) v w1:=⟨gB,r1.sat,(by have h:=r1.den 0;exact h),r1.cu,r1.iH⟩;exact xX h1 ⟨[],[0],0,[]⟩ (le_refl _) rfl
theorem ql{Z:aP}{f:FuncId}{ts:List Ty}{r:RK}{e:TypeId}{pre:AL ts->List Prop}{F:AL ts->AL [.b (.row r e)]}(h:cf P Z f ts [.b (.row r e)] pre F):cf P Z f ts [.b (.gR r e)] pre λx=>((F x).1,()):=
 λx h1 h2 G w vs h3 h4 h5=>(h x h1 h2 G w vs h3 h4 h5).mono λe' w' ⟨v,h6,h7⟩=>⟨v,h6,ajC h7⟩
theorem asf(l:Ss):run P bE.sum f23 [] (start f23 [.s (.ro (.ab bZ l))] [])=
 Tree.both (List.length l=0) True (.ret [] .emp) (.aa (((0:Nat)+List.length l)*(24:Nat)<=140737488355328) (.ret [.aW,.vec (.ab bZ ([]++l)) 33] (.vec 1))):=by kernel_rfl
abbrev ash:=dY [te] [te] (λ(l,())=>[(l:Ss).length<=1000000]) (λ(l,())=>(l,()))
def mPk:List AV->RM (PkX×List Nat)
 |[.agg [.s (.str a),.s (.ro (.ab [.str,.int .u8,.int .i64,.str] vs)),.s (.ro (.ab [.str,.int .u8,.int .i64,.int .i64,.int .u8,.str,.str,.str,.bool,.rows [.str,.int .u8,.int .i64,.str],.strs] ns)),.s (.ro (.ab [.int .i64,.int .i64,.str,.bool] fs))],.s (.ro (.ay .i64 l)),.s (.int .u8 ev),.s (.str ky),.fn _ [.ptr id 0]]=>.ret ((a,vs,ns,fs,l,ev,ky),[id])|_=>.fail ""
def isB(l:List AV):Bool:=match l[4]? with
 |some (AV.fn g _)=>Nat.beq g 21|_=>false
abbrev asi:=aiY isB (qk (fm (xZ 21 lU) mPk)) (qk (fm (xZ 25 lI) mPk))
def x6:aQ:=[(16,aeo),(17,abi),(22,anK),(20,asd),(24,ase),(23,ash),(19,asi)]
abbrev ajD:List FuncId:=[18]
def ajE:List (Nat×Norm):=[(11,⟨[],[0,1,8,9,10,13,17,20,21,79,80],0,[]⟩),(eb+5000,⟨[],[0,1,7,8,9,10,13,15],0,[]⟩),(eb+16000,⟨[],[0,1,8,9,10,13,17,20,79,80],0,[]⟩),(eb+23000,⟨[],[0,1,8,9,10,13,17,20,24,79,80],0,[]⟩)]
theorem auy(ps:Ps)(cs:Ss)(nm:ByteArray)(k ev:Int)(ky:ByteArray):run P x6.sum f7 ajE (start f7 [.s (.ro (.ab cP ps)),.s (.ro (.ab bZ cs)),.agg [.s (.str nm),aT k],jb ev,.s (.str ky)] []) ajD=
 Tree.ite (!dC (pO (ag ps nm)) k) (.ret [.ad [.s (.str nm),aT k] 33,.ad [.s (.int .u8 ev)] 5,.ad [.s (.str ky)] 9,.ad [.s (.str empty),.s (.aq .i64 0)] 33,.ad [.s (.str (pN (ag ps nm))),.s (.ro (.ab cV (pV (ag ps nm)))),.s (.ro (.ab cN (pO (ag ps nm)))),.s (.ro (.ab cF (pF (ag ps nm))))] 30,.ad [.s (.str (nN (aM (pO (ag ps nm)) k))),.s (.int .u8 (nK (aM (pO (ag ps nm)) k))),aT (nI (aM (pO (ag ps nm)) k)),aT (nO (aM (pO (ag ps nm)) k)),.s (.int .u8 (nE (aM (pO (ag ps nm)) k))),.s (.str (nY (aM (pO (ag ps nm)) k))),.s (.str (nT (aM (pO (ag ps nm)) k))),.s (.str (nS (aM (pO (ag ps nm)) k))),.s (.bool (nB (aM (pO (ag ps nm)) k))),.s (.ro (.ab cV (nV (aM (pO (ag ps nm)) k)))),.s (.ro (.strs (nZ (aM (pO (ag ps nm)) k))))] 40] (.bO [.agg [.s (.str empty),.s (.aq .i64 0)],.emp,.s (.ao false)]))
 (.ite (ev !=4) (.ite (ev !=5) (.ret [.ad [.s (.str nm),aT k] 33,.ad [.s (.int .u8 ev)] 5,.ad [.s (.str ky)] 9,.ad [.s (.str empty),.s (.aq .i64 0)] 33,.ad [.s (.str (pN (ag ps nm))),.s (.ro (.ab cV (pV (ag ps nm)))),.s (.ro (.ab cN (pO (ag ps nm)))),.s (.ro (.ab cF (pF (ag ps nm))))] 30,.ad [.s (.str (nN (aM (pO (ag ps nm)) k))),.s (.int .u8 (nK (aM (pO (ag ps nm)) k))),aT (nI (aM (pO (ag ps nm)) k)),aT (nO (aM (pO (ag ps nm)) k)),.s (.int .u8 (nE (aM (pO (ag ps nm)) k))),.s (.str (nY (aM (pO (ag ps nm)) k))),.s (.str (nT (aM (pO (ag ps nm)) k))),.s (.str (nS (aM (pO (ag ps nm)) k))),.s (.bool (nB (aM (pO (ag ps nm)) k))),.s (.ro (.ab cV (nV (aM (pO (ag ps nm)) k)))),.s (.ro (.strs (nZ (aM (pO (ag ps nm)) k))))] 40] (.bO [.agg [.s (.str empty),.s (.aq .i64 0)],.emp,.s (.ao false)])) (.at (.mk (sl 158 [(0,.s (.ro (.ab cP ps))),(1,.s (.ro (.ab bZ cs))),(7,.ptr 0 0),(8,.ptr 1 0),(9,.ptr 2 0),(10,.ptr 3 0),(13,.ptr 4 0),(15,.ptr 5 0)]) [.ad [.s (.str nm),aT k] 33,.ad [.s (.int .u8 ev)] 5,.ad [.s (.str ky)] 9,.ad [.s (.str empty),aT 0] 33,.ad [.s (.str (pN (ag ps nm))),.s (.ro (.ab cV (pV (ag ps nm)))),.s (.ro (.ab cN (pO (ag ps nm)))),.s (.ro (.ab cF (pF (ag ps nm))))] 30,.ad [.s (.str (nN (aM (pO (ag ps nm)) k))),.s (.int .u8 (nK (aM (pO (ag ps nm)) k))),aT (nI (aM (pO (ag ps nm)) k)),aT (nO (aM (pO (ag ps nm)) k)),.s (.int .u8 (nE (aM (pO (ag ps nm)) k))),.s (.str (nY (aM (pO (ag ps nm)) k))),.s (.str (nT (aM (pO (ag ps nm)) k))),.s (.str (nS (aM (pO (ag ps nm)) k))),.s (.bool (nB (aM (pO (ag ps nm)) k))),.s (.ro (.ab cV (nV (aM (pO (ag ps nm)) k)))),.s (.ro (.strs (nZ (aM (pO (ag ps nm)) k))))] 40] (fI f7 5 0) (.mk none false 0 [] 5))))
   (.at (.mk (sl 158 [(0,.s (.ro (.ab cP ps))),(1,.s (.ro (.ab bZ cs))),(7,.ptr 0 0),(8,.ptr 1 0),(9,.ptr 2 0),(10,.ptr 3 0),(13,.ptr 4 0),(15,.ptr 5 0)]) [.ad [.s (.str nm),aT k] 33,.ad [.s (.int .u8 ev)] 5,.ad [.s (.str ky)] 9,.ad [.s (.str empty),aT 0] 33,.ad [.s (.str (pN (ag ps nm))),.s (.ro (.ab cV (pV (ag ps nm)))),.s (.ro (.ab cN (pO (ag ps nm)))),.s (.ro (.ab cF (pF (ag ps nm))))] 30,.ad [.s (.str (nN (aM (pO (ag ps nm)) k))),.s (.int .u8 (nK (aM (pO (ag ps nm)) k))),aT (nI (aM (pO (ag ps nm)) k)),aT (nO (aM (pO (ag ps nm)) k)),.s (.int .u8 (nE (aM (pO (ag ps nm)) k))),.s (.str (nY (aM (pO (ag ps nm)) k))),.s (.str (nT (aM (pO (ag ps nm)) k))),.s (.str (nS (aM (pO (ag ps nm)) k))),.s (.bool (nB (aM (pO (ag ps nm)) k))),.s (.ro (.ab cV (nV (aM (pO (ag ps nm)) k)))),.s (.ro (.strs (nZ (aM (pO (ag ps nm)) k))))] 40] (fI f7 5 0) (.mk none false 0 [] 5)))):=by kernel_rfl
def cHa(ps:Ps)(cs:Ss)(ev:Int)(ky:ByteArray)(a:ByteArray)(vs:Vs)(ns:Ns)(fs:Fs)(ip:Int)(asked:Bool)(n i:Int):aR:=⟨sl 158 [(0,.s (.ro (.ab cP ps))),(1,.s (.ro (.ab bZ cs))),(8,.ptr 0 0),(9,.ptr 1 0),(10,.ptr 2 0),(13,.ptr 3 0),(17,.fn 18 [.ptr 3 0,.ptr 0 0,.ptr 1 0]),(20,aT ip),(21,.s (.bool asked)),(79,aT n),(80,aT i)],[.ad [jb ev] 5,.ad [.s (.str ky)] 9,.ad [.s (.str empty),aT 0] sR,jc a vs ns fs],hd f7 11,{}⟩
theorem asj(ps:Ps)(cs:Ss)(ev:Int)(ky:ByteArray)(a:ByteArray)(vs:Vs)(ns:Ns)(fs:Fs)(ip:Int)(asked:Bool)(n i:Int):run P x6.sum f7 ajE (cHa ps cs ev ky a vs ns fs ip asked n i) ajD=
 Tree.ite (decide (i<n)) (.ite asked (.aa (List.length ns<=1000000) (.aa (bN (some [au.ad [.s (.str a),.s (.ro (.ab cV vs)),.s (.ro (.ab cN ns)),.s (.ro (.ab cF fs))] 30])) (.aa (bN (some [AV.agg [.s (.str a),.s (.ro (.ab cV vs)),.s (.ro (.ab cN ns)),.s (.ro (.ab cF fs))],.s (.ro (.ay .i64 (cQ ns ip))),.s (.int .u8 ev),.s (.str ky),.fn 25 [.ptr 0 0]])) (.aa (bN (some [au.ad [.s (.str a),.s (.ro (.ab cV vs)),.s (.ro (.ab cN ns)),.s (.ro (.ab cF fs))] 30])) (.aa (List.length ns<=1000000) (.aa ((cQ ns ip).length<=1000000) (.ite (b5 (lI ns ev) (cQ ns ip) ky).snd (.aa (List.length cs<=1000000) (.ret [.ad [.s (.int .u8 ev)] 5,.ad [.s (.str ky)] 9,.ad [.s (.str a),.s (.int .i64 (b5 (lI ns ev) (cQ ns ip) ky).fst)] 33,.ad [.s (.str a),.s (.ro (.ab cV vs)),.s (.ro (.ab cN ns)),.s (.ro (.ab cF fs))] 30,.vec (.ab bZ cs) 33] (.bO [.agg [.s (.str a),.s (.int .i64 (b5 (lI ns ev) (cQ ns ip) ky).fst)],.vec 4,.s (.ao true)]))) (.at (.mk (sl 158 [(0,.s (.ro (.ab cP ps))),(1,.s (.ro (.ab bZ cs))),(8,.ptr 0 0),(9,.ptr 1 0),(10,.ptr 2 0),(13,.ptr 3 0),(17,.fn 18 [.ptr 3 0,.ptr 0 0,.ptr 1 0]),(20,.s (.int .i64 ip)),(79,.s (.int .i64 n)),(80,.s (.int .i64 i))]) [.ad [.s (.int .u8 ev)] 5,.ad [.s (.str ky)] 9,.ad [.s (.str empty),.s (.int .i64 0)] 33,.ad [.s (.str a),.s (.ro (.ab cV vs)),.s (.ro (.ab cN ns)),.s (.ro (.ab cF fs))] 30] (fI f7 16 0) (.mk none false 0 [] 16)))))))))) (.at (.mk (sl 158 [(0,.s (.ro (.ab cP ps))),(1,.s (.ro (.ab bZ cs))),(8,.ptr 0 0),(9,.ptr 1 0),(10,.ptr 2 0),(13,.ptr 3 0),(17,.fn 18 [.ptr 3 0,.ptr 0 0,.ptr 1 0]),(20,.s (.int .i64 ip)),(79,.s (.int .i64 n)),(80,.s (.int .i64 i))]) [.ad [.s (.int .u8 ev)] 5,.ad [.s (.str ky)] 9,.ad [.s (.str empty),.s (.int .i64 0)] 33,.ad [.s (.str a),.s (.ro (.ab cV vs)),.s (.ro (.ab cN ns)),.s (.ro (.ab cF fs))] 30] (fI f7 16 0) (.mk none false 0 [] 16)))) (.ret [.ad [.s (.int .u8 ev)] 5,.ad [.s (.str ky)] 9,.ad [.s (.str empty),.s (.aq .i64 0)] 33,.ad [.s (.str a),.s (.ro (.ab cV vs)),.s (.ro (.ab cN ns)),.s (.ro (.ab cF fs))] 30] (.bO [.agg [.s (.str empty),.s (.aq .i64 0)],.emp,.s (.ao false)])):=by kernel_rfl
def cH5(ps:Ps)(cs:Ss)(nm:ByteArray)(k ev:Int)(ky:ByteArray)(a:ByteArray)(vs:Vs)(ns:Ns)(fs:Fs)(x:CL cN):aR:=⟨sl 158 [(0,.s (.ro (.ab cP ps))),(1,.s (.ro (.ab bZ cs))),(7,.ptr 0 0),(8,.ptr 1 0),(9,.ptr 2 0),(10,.ptr 3 0),(13,.ptr 4 0),(15,.ptr 5 0)],[.ad [.s (.str nm),aT k] sR,.ad [jb ev] 5,.ad [.s (.str ky)] 9,.ad [.s (.str empty),aT 0] sR,jc a vs ns fs,ama x],fI f7 5 0,⟨none,false,0,[],5⟩⟩
def apt(ps:Ps)(cs:Ss)(ev:Int)(ky:ByteArray)(a:ByteArray)(vs:Vs)(ns:Ns)(fs:Fs)(ip:Int)(n i:Int):aR:=⟨sl 158 [(0,.s (.ro (.ab cP ps))),(1,.s (.ro (.ab bZ cs))),(8,.ptr 0 0),(9,.ptr 1 0),(10,.ptr 2 0),(13,.ptr 3 0),(17,.fn 18 [.ptr 3 0,.ptr 0 0,.ptr 1 0]),(20,aT ip),(79,aT n),(80,aT i)],[.ad [jb ev] 5,.ad [.s (.str ky)] 9,.ad [.s (.str empty),aT 0] sR,jc a vs ns fs],fI f7 16 0,⟨none,false,0,[],16⟩⟩
def amp(ps:Ps)(cs:Ss)(ev:Int)(ky:ByteArray)(a:ByteArray)(vs:Vs)(ns:Ns)(fs:Fs)(ip:Int)(x:CL cN)(n i:Int):aR:=⟨sl 158 [(0,.s (.ro (.ab cP ps))),(1,.s (.ro (.ab bZ cs))),(8,.ptr 0 0),(9,.ptr 1 0),(10,.ptr 2 0),(13,.ptr 3 0),(17,.fn 18 [.ptr 3 0,.ptr 0 0,.ptr 1 0]),(20,aT ip),(24,.ptr 4 0),(79,aT n),(80,aT i)],[.ad [jb ev] 5,.ad [.s (.str ky)] 9,.ad [.s (.str empty),aT 0] sR,jc a vs ns fs,ama x],fI f7 23 0,⟨none,false,0,[],23⟩⟩
theorem auz(ps:Ps)(cs:Ss)(nm:ByteArray)(k ev:Int)(ky:ByteArray)(a:ByteArray)(vs:Vs)(ns:Ns)(fs:Fs)(x:CL cN):run P x6.sum f7 ajE (cH5 ps cs nm k ev ky a vs ns fs x) ajD=
 Tree.aa (List.length ns<=1000000) (.aa (bN (some [au.ad [.s (.str a),.s (.ro (.ab cV vs)),.s (.ro (.ab cN ns)),.s (.ro (.ab cF fs))] 30])) (.aa (bN (some [AV.agg [.s (.str a),.s (.ro (.ab cV vs)),.s (.ro (.ab cN ns)),.s (.ro (.ab cF fs))],.s (.ro (.ay .i64 (bu ns k))),.s (.int .u8 ev),.s (.str ky),.fn 21 [.ptr 0 0]])) (.aa (bN (some [au.ad [.s (.str a),.s (.ro (.ab cV vs)),.s (.ro (.ab cN ns)),.s (.ro (.ab cF fs))] 30])) (.aa (List.length ns<=1000000) (.aa ((bu ns k).length<=1000000) (.ite (b5 (lU ns ev) (bu ns k) ky).snd (.ite (oh (nK x)) (.aa (List.length cs<=1000000) (.ret [.ad [.s (.str nm),.s (.int .i64 k)] 33,.ad [.s (.int .u8 ev)] 5,.ad [.s (.str ky)] 9,.ad [.s (.str a),.s (.int .i64 (b5 (lU ns ev) (bu ns k) ky).fst)] 33,.ad [.s (.str a),.s (.ro (.ab cV vs)),.s (.ro (.ab cN ns)),.s (.ro (.ab cF fs))] 30,.ad [.s (.str (nN x)),.s (.int .u8 (nK x)),.s (.int .i64 (nI x)),.s (.int .i64 (nO x)),.s (.int .u8 (nE x)),.s (.str (nY x)),.s (.str (nT x)),.s (.str (nS x)),.s (.bool (nB x)),.s (.ro (.ab cV (nV x))),.s (.ro (.strs (nZ x)))] 40,.vec (.ab bZ cs) 33] (.bO [.agg [.s (.str a),.s (.int .i64 (b5 (lU ns ev) (bu ns k) ky).fst)],.vec 6,.s (.ao true)]))) (.aa (aD ((1:Int)+(↑(List.length cs):Int))) (.aa (aD ((41:Int)*((1:Int)+(↑(List.length cs):Int)))) (.aa (aD ((2:Int)+41*((1:Int)+(↑(List.length cs):Int)))) (.at (cHa ps cs ev ky a vs ns fs (nI x) true ((2:Int)+41*((1:Int)+(↑(List.length cs):Int))) 0)))))) (.aa (aD ((1:Int)+(↑(List.length cs):Int))) (.aa (aD ((41:Int)*((1:Int)+(↑(List.length cs):Int)))) (.aa (aD ((2:Int)+41*((1:Int)+(↑(List.length cs):Int)))) (.at (cHa ps cs ev ky a vs ns fs (nI x) true ((2:Int)+41*((1:Int)+(↑(List.length cs):Int))) 0))))))))))):=by kernel_rfl
theorem anX(ps:Ps)(cs:Ss)(ev:Int)(ky:ByteArray)(a:ByteArray)(vs:Vs)(ns:Ns)(fs:Fs)(ip:Int)(n i:Int):run P x6.sum f7 ajE (apt ps cs ev ky a vs ns fs ip n i) ajD=
 Tree.ite (!dC ns ip) (.ite ((↑(List.length cs):Int)==0) (.ret [.ad [.s (.int .u8 ev)] 5,.ad [.s (.str ky)] 9,.ad [.s (.str empty),.s (.aq .i64 0)] 33,.ad [.s (.str a),.s (.ro (.ab cV vs)),.s (.ro (.ab cN ns)),.s (.ro (.ab cF fs))] 30,.ad [.s (.str (nN (aM ns ip))),.s (.int .u8 (nK (aM ns ip))),.s (.int .i64 (nI (aM ns ip))),.s (.int .i64 (nO (aM ns ip))),.s (.int .u8 (nE (aM ns ip))),.s (.str (nY (aM ns ip))),.s (.str (nT (aM ns ip))),.s (.str (nS (aM ns ip))),.s (.bool (nB (aM ns ip))),.s (.ro (.ab cV (nV (aM ns ip)))),.s (.ro (.strs (nZ (aM ns ip))))] 40] (.bO [.agg [.s (.str empty),.s (.aq .i64 0)],.emp,.s (.ao false)])) (.aa ((0:Int)<=0) (.aa ((0:Int)<(↑(List.length cs):Int)) (.aa ((0:Int)<=0) (.aa ((0:Int)<(↑(List.length cs):Int)) (.aa ((0:Int)<=1) (.aa ((1:Int)<=(↑(List.length cs):Int)) (.aa ((↑(List.length cs):Int)<=(↑(List.length cs):Int)) (.ite (!dC (pO (ag ps (sP (List.getD cs 0 (CL.d bZ))))) (sN (List.getD cs 0 (CL.d bZ)))) (.ret [.ad [.s (.int .u8 ev)] 5,.ad [.s (.str ky)] 9,.ad [.s (.str empty),.s (.aq .i64 0)] 33,.ad [.s (.str (pN (ag ps (sP (List.getD cs 0 (CL.d bZ)))))),.s (.ro (.ab cV (pV (ag ps (sP (List.getD cs 0 (CL.d bZ))))))),.s (.ro (.ab cN (pO (ag ps (sP (List.getD cs 0 (CL.d bZ))))))),.s (.ro (.ab cF (pF (ag ps (sP (List.getD cs 0 (CL.d bZ)))))))] 30,.ad [.s (.str (nN (aM (pO (ag ps (sP (List.getD cs 0 (CL.d bZ))))) (sN (List.getD cs 0 (CL.d bZ)))))),.s (.int .u8 (nK (aM (pO (ag ps (sP (List.getD cs 0 (CL.d bZ))))) (sN (List.getD cs 0 (CL.d bZ)))))),.s (.int .i64 (nI (aM (pO (ag ps (sP (List.getD cs 0 (CL.d bZ))))) (sN (List.getD cs 0 (CL.d bZ)))))),.s (.int .i64 (nO (aM (pO (ag ps (sP (List.getD cs 0 (CL.d bZ))))) (sN (List.getD cs 0 (CL.d bZ)))))),.s (.int .u8 (nE (aM (pO (ag ps (sP (List.getD cs 0 (CL.d bZ))))) (sN (List.getD cs 0 (CL.d bZ)))))),.s (.str (nY (aM (pO (ag ps (sP (List.getD cs 0 (CL.d bZ))))) (sN (List.getD cs 0 (CL.d bZ)))))),.s (.str (nT (aM (pO (ag ps (sP (List.getD cs 0 (CL.d bZ))))) (sN (List.getD cs 0 (CL.d bZ)))))),.s (.str (nS (aM (pO (ag ps (sP (List.getD cs 0 (CL.d bZ))))) (sN (List.getD cs 0 (CL.d bZ)))))),.s (.bool (nB (aM (pO (ag ps (sP (List.getD cs 0 (CL.d bZ))))) (sN (List.getD cs 0 (CL.d bZ)))))),.s (.ro (.ab cV (nV (aM (pO (ag ps (sP (List.getD cs 0 (CL.d bZ))))) (sN (List.getD cs 0 (CL.d bZ))))))),.s (.ro (.strs (nZ (aM (pO (ag ps (sP (List.getD cs 0 (CL.d bZ))))) (sN (List.getD cs 0 (CL.d bZ)))))))] 40] (.bO [.agg [.s (.str empty),.s (.aq .i64 0)],.emp,.s (.ao false)])) (.at (amp ps (List.drop (Int.toNat 1) (List.take (↑(List.length cs):Int).toNat cs)) ev ky (pN (ag ps (sP (List.getD cs 0 (CL.d bZ))))) (pV (ag ps (sP (List.getD cs 0 (CL.d bZ))))) (pO (ag ps (sP (List.getD cs 0 (CL.d bZ))))) (pF (ag ps (sP (List.getD cs 0 (CL.d bZ))))) (sN (List.getD cs 0 (CL.d bZ))) (aM (pO (ag ps (sP (List.getD cs 0 (CL.d bZ))))) (sN (List.getD cs 0 (CL.d bZ)))) n i)))))))))))
 (.at (amp ps cs ev ky a vs ns fs ip (aM ns ip) n i)):=by kernel_rfl
theorem asl(ps:Ps)(cs:Ss)(ev:Int)(ky:ByteArray)(a:ByteArray)(vs:Vs)(ns:Ns)(fs:Fs)(ip:Int)(x:CL cN)(n i:Int):run P x6.sum f7 ajE (amp ps cs ev ky a vs ns fs ip x n i) ajD=
 Tree.aa (List.length ns<=1000000) (.aa (bN (some [au.ad [.s (.str a),.s (.ro (.ab cV vs)),.s (.ro (.ab cN ns)),.s (.ro (.ab cF fs))] 30])) (.aa (bN (some [AV.agg [.s (.str a),.s (.ro (.ab cV vs)),.s (.ro (.ab cN ns)),.s (.ro (.ab cF fs))],.s (.ro (.ay .i64 (bu ns ip))),.s (.int .u8 ev),.s (.str ky),.fn 21 [.ptr 0 0]])) (.aa (bN (some [au.ad [.s (.str a),.s (.ro (.ab cV vs)),.s (.ro (.ab cN ns)),.s (.ro (.ab cF fs))] 30])) (.aa (List.length ns<=1000000) (.aa ((bu ns ip).length<=1000000) (.ite (nK x !=13) (.ite (b5 (lU ns ev) (bu ns ip) ky).snd (.aa (List.length cs<=1000000) (.ret [.ad [.s (.int .u8 ev)] 5,.ad [.s (.str ky)] 9,.ad [.s (.str a),.s (.int .i64 (b5 (lU ns ev) (bu ns ip) ky).fst)] 33,.ad [.s (.str a),.s (.ro (.ab cV vs)),.s (.ro (.ab cN ns)),.s (.ro (.ab cF fs))] 30,.ad [.s (.str (nN x)),.s (.int .u8 (nK x)),.s (.int .i64 (nI x)),.s (.int .i64 (nO x)),.s (.int .u8 (nE x)),.s (.str (nY x)),.s (.str (nT x)),.s (.str (nS x)),.s (.bool (nB x)),.s (.ro (.ab cV (nV x))),.s (.ro (.strs (nZ x)))] 40,.vec (.ab bZ cs) 33] (.bO [.agg [.s (.str a),.s (.int .i64 (b5 (lU ns ev) (bu ns ip) ky).fst)],.vec 5,.s (.ao true)]))) (.aa (aD (i+1)) (.at (cHa ps cs ev ky a vs ns fs (nI x) (nK x !=13) n (i+1))))) (.aa (aD (i+1)) (.at (cHa ps cs ev ky a vs ns fs (nI x) (nK x !=13) n (i+1)))))))))):=by kernel_rfl
abbrev prK(a:ByteArray)(vs:Vs)(ns:Ns)(fs:Fs):CL cP:=(a,vs,ns,fs,())
abbrev HR:Type:=CL bZ×Ss×Bool
abbrev siO(a:ByteArray)(k:Int):CL bZ:=(a,k,())
def noH:HR:=(siO empty 0,[],false)
def lJ(ev:Int)(ky:ByteArray)(cs:Ss)(p:CL cP)(ip:Int)(k:Int->Bool->HR):HR:=
 if(nK (aM (pO p) ip) !=13)&&(b5 (lU (pO p) ev) (bu (pO p) ip) ky).2 then(siO (pN p) (b5 (lU (pO p) ev) (bu (pO p) ip) ky).1,cs,true)
 else k (nI (aM (pO p) ip)) (nK (aM (pO p) ip) !=13)
def x7(ps:Ps)(ev:Int)(ky:ByteArray)(k:Ss->CL cP->Int->Bool->HR):Ss->HR
 |[]=>noH|c::e9=>if dC (pO (ag ps (sP c))) (sN c)then lJ ev ky e9 (ag ps (sP c)) (sN c) (k e9 (ag ps (sP c)))else noH
def ga(ps:Ps)(ev:Int)(ky:ByteArray):Nat->Ss->CL cP->Int->Bool->HR
 |0,_,_,_,_=>noH|d+1,cs,p,ip,asked=>
  if asked&&(b5 (lI (pO p) ev) (cQ (pO p) ip) ky).2 then(siO (pN p) (b5 (lI (pO p) ev) (cQ (pO p) ip) ky).1,cs,true)
  else if dC (pO p) ip then lJ ev ky cs p ip (ga ps ev ky d cs p)
  else x7 ps ev ky (ga ps ev ky d) cs
def lK(ps:Ps)(cs:Ss)(p:CL cP)(k ev:Int)(ky:ByteArray):HR:=
 if(b5 (lU (pO p) ev) (bu (pO p) k) ky).2&&oh (nK (aM (pO p) k))then(siO (pN p) (b5 (lU (pO p) ev) (bu (pO p) k) ky).1,cs,true)
 else ga ps ev ky (2+41*(1+cs.length)) cs p (nI (aM (pO p) k)) true
def gb(ps:Ps)(cs:Ss)(nm:ByteArray)(k ev:Int)(ky:ByteArray):HR:=
 if !dC (pO (ag ps nm)) k then noH else if ev !=4&&ev !=5 then noH else lK ps cs (ag ps nm) k ev ky
abbrev anY(r:HR):AL [y7,te,aZ]:=(r.1,r.2.1,r.2.2,())
def cq(ps:Ps):Prop:=∀p∈ps,(pO p).length<=1000000/\(pF p).length<=1000000
abbrev aeD:AL [bh,te,y7,gC,bg]->List Prop:=λ(ps,cs,_,_,_,())=>[cq ps,(cs:Ss).length<=1000000]
abbrev FHa:AL [bh,te,y7,gC,bg]->AL [y7,te,aZ]:=λ(ps,cs,(nm,k,()),ev,ky,())=>anY (gb ps cs nm k ev ky)
abbrev asm:=dY [bh,te,y7,gC,bg] [y7,te,aZ] aeD FHa
theorem cq.el{ps:Ps}(h:cq ps)(i:Int):(pO (el ps i)).length<=1000000/\(pF (el ps i)).length<=1000000:=by
 show(pO (ps.getD i.toNat (CL.d cP))).length<=1000000/\(pF (ps.getD i.toNat (CL.d cP))).length<=1000000;by_cases hi:i.toNat<ps.length;rw[cK hi];exact h _ (getElem_mem hi);rw[List.getD_eq_getElem?_getD,getElem?_eq_none (by omega)];exact⟨zero_le _,zero_le _⟩
theorem cq.get{ps:Ps}(h:cq ps)(nm:ByteArray):(pO (ag ps nm)).length<=1000000/\(pF (ag ps nm)).length<=1000000:=h.el _
theorem asn{Z:aP}:cf P Z 20 [dF,bx] [tNr] acZ (λ((_,_,ns,_,()),n,())=>(bu ns n,())):=ql anA
theorem aso{Z:aP}:cf P Z 24 [dF,bx] [tNr] acZ (λ((_,_,ns,_,()),n,())=>(cQ ns n,())):=ql arB
theorem asp{Z:aP}:cf P Z 23 [te] [te] (λ(l,())=>[(l:Ss).length<=1000000]) (λ(l,())=>(l,())):=by
 refine a6 func23 (by kernel_rfl) (by kernel_rfl) ?_;rintro⟨(l:Ss),⟨⟩⟩ _ ⟨(hl:l.length<=1000000),_⟩ X hX hz;show Safe P 23 X (Ends [te] (l,())) _;refine go hz hX aQ.Ok.nil func23 (asf l) ⟨λh=> ?_,λ_=>⟨by omega, ?_⟩⟩;obtain rfl:=List.eq_nil_of_length_eq_zero h;exact aL _ rfl (by kernel_rfl);exact aL _ rfl (by kernel_rfl)
theorem j7{Z:aP}:x6.Ok P Z:=aQ.Ok.cons y9.dY (aQ.Ok.cons ve.dY (aQ.Ok.cons anE.sum (aQ.Ok.cons asn.dY (aQ.Ok.cons aso.dY (aQ.Ok.cons asp.dY (aQ.Ok.cons (aiZ (sC (ajA.sum mPk)) (sC (ajB.sum mPk))) aQ.Ok.nil))))))
section
variable{Z:aP}{X:Ctx}{ps:Ps}{cs:Ss}{ev:Int}{ky:ByteArray}{a:ByteArray}{vs:Vs}{ns:Ns}{fs:Fs}
abbrev mh(X:Ctx)(r:HR)(c:aR):Prop:=Safe P 7 X (Ends [y7,te,aZ] (anY r)) c
theorem x8{d:Nat}{ip n i:Int}{p:CL cP}(hX:∀id,X.H id=none)(hz:cE Z X)(hp:p=(prK a vs ns fs))(hn:ns.length<=1000000)(hc:cs.length<=1000000)(hi:aD (i+1))
 (k:∀ip asked,mh X (ga ps ev ky d cs p ip asked) (cHa ps cs ev ky a vs ns fs ip asked n (i+1))):mh X (lJ ev ky cs p ip (ga ps ev ky d cs p)) (amp ps cs ev ky a vs ns fs ip (aM ns ip) n i):=by
 subst hp;have hb:(bu ns ip).length<=1000000:=le_trans (gq _ _) hn;refine go hz hX j7 func7 (asl ps cs ev ky a vs ns fs ip (aM ns ip) n i) ⟨hn,rfl,rfl,rfl,hn,hb, ?_⟩;unfold lJ;simp only[pO,pN];generalize aM ns ip=x;cases h1:nK x !=13 with
 |false=>exact ak rfl ⟨hi,by have k':=k (nI x) (nK x !=13);rw[h1]at k';exact k'⟩
 |true=>
  refine af rfl ?_;generalize b5 (lU ns ev) (bu ns ip) ky=q;cases h2:q.2 with
  |true=>exact af rfl ⟨hc,aL _ rfl (by kernel_rfl)⟩
  |false=>exact ak rfl ⟨hi,by have k':=k (nI x) (nK x !=13);rw[h1]at k';exact k'⟩
theorem pd(ps:Ps)(ev:Int)(ky:ByteArray)(d:Nat)(cs:Ss)(p:CL cP)(ip:Int)(asked:Bool):ga ps ev ky (d+1) cs p ip asked=if asked&&(b5 (lI (pO p) ev) (cQ (pO p) ip) ky).2 then(siO (pN p) (b5 (lI (pO p) ev) (cQ (pO p) ip) ky).1,cs,true)
 else if dC (pO p) ip then lJ ev ky cs p ip (ga ps ev ky d cs p)
 else x7 ps ev ky (ga ps ev ky d) cs:=rfl
theorem amq(ps:Ps)(nm:ByteArray):ag ps nm=prK (pN (ag ps nm)) (pV (ag ps nm)) (pO (ag ps nm)) (pF (ag ps nm)):=rfl
theorem abt{k:Ss->CL cP->Int->Bool->HR}{c:CL bZ}{e9:Ss}(h:dC (pO (ag ps (sP c))) (sN c)=false):x7 ps ev ky k (c::e9)=noH:=by
 show(if dC (pO (ag ps (sP c))) (sN c)=true then _ else _)=_;rw[h];rfl
theorem x9{k:Ss->CL cP->Int->Bool->HR}{c:CL bZ}{e9:Ss}(h:dC (pO (ag ps (sP c))) (sN c)=true):x7 ps ev ky k (c::e9)=lJ ev ky e9 (ag ps (sP c)) (sN c) (k e9 (ag ps (sP c))):=by
 show(if dC (pO (ag ps (sP c))) (sN c)=true then _ else _)=_;rw[h];rfl
theorem ac9{d:Nat}{ip n i:Int}(hX:∀id,X.H id=none)(hz:cE Z X)(hs:cq ps)(c9:dC ns ip=false)(hc:cs.length<=1000000)(hi:aD (i+1))
 (k:∀(cs:Ss) (a:ByteArray) (vs:Vs) (ns:Ns) (fs:Fs) (ip:Int) (asked:Bool),cs.length<=1000000->ns.length<=1000000->mh X (ga ps ev ky d cs (prK a vs ns fs) ip asked) (cHa ps cs ev ky a vs ns fs ip asked n (i+1))):
 mh X (x7 ps ev ky (ga ps ev ky d) cs) (apt ps cs ev ky a vs ns fs ip n i):=by
 refine go hz hX j7 func7 (anX ps cs ev ky a vs ns fs ip n i) (af (by rw[c9];rfl) ?_);cases cs with
 |nil=>exact af rfl (aL _ rfl (by kernel_rfl))
 |cons c e9=>
  have hl:((c::e9).length:Int)=(e9.length:Int)+1:=by simp
  refine ak (by rw[hl];simp;omega) ⟨by omega,by omega,by omega,by omega,by omega,by omega,by omega, ?_⟩;have e1:List.drop (Int.toNat 1) (List.take (((c::e9).length:Nat):Int).toNat (c::e9))=e9:=by rw[Int.toNat_natCast,List.take_length];rfl
  have hq:=hs.get (sP c);show((!dC (pO (ag ps (sP c))) (sN c))=true->_)/\((!dC (pO (ag ps (sP c))) (sN c))=false->_);cases asq:dC (pO (ag ps (sP c))) (sN c)with
  |false=>
   refine af rfl ?_;rw[abt asq];exact aL _ rfl (by kernel_rfl)
  |true=>
   refine ak rfl ?_;rw[x9 asq,e1];exact x8 hX hz (amq ps (sP c)) hq.1 (by simp at hc;omega) hi λip asked=>k e9 _ _ _ _ ip asked (by simp at hc;omega) hq.1
theorem af7(hX:∀id,X.H id=none)(hz:cE Z X)(hs:cq ps)(n:Int)(hn0:0<=n/\n<=100000000):∀(d:Nat) (cs:Ss) (a:ByteArray) (vs:Vs) (ns:Ns) (fs:Fs) (ip:Int) (asked:Bool) (i:Int),0<=i->i+d=n->cs.length<=1000000->ns.length<=1000000->
 mh X (ga ps ev ky d cs (prK a vs ns fs) ip asked) (cHa ps cs ev ky a vs ns fs ip asked n i):=by
 intro d
 induction d with
 |zero=>
  intro cs a vs ns fs ip asked i h0 hi hc hn;exact go hz hX j7 func7 (asj ps cs ev ky a vs ns fs ip asked n i) (ak (decide_eq_false (by omega)) (aL _ rfl (by kernel_rfl)))
 |succ d ih=>
  intro cs a vs ns fs ip asked i h0 hi hc hn;have wY:aD (i+1):=⟨by omega,by omega⟩;have hb:(cQ ns ip).length<=1000000:=le_trans (gq _ _) hn
  have mid:(asked&&(b5 (lI ns ev) (cQ ns ip) ky).2)=false->mh X (ga ps ev ky (d+1) cs (prK a vs ns fs) ip asked) (apt ps cs ev ky a vs ns fs ip n i):=λuw=>by
   have e:ga ps ev ky (d+1) cs (prK a vs ns fs) ip asked=if dC ns ip then lJ ev ky cs (prK a vs ns fs) ip (ga ps ev ky d cs (prK a vs ns fs))else x7 ps ev ky (ga ps ev ky d) cs:=by
    refine(pd ps ev ky d cs (prK a vs ns fs) ip asked).trans ?_;show(if(asked&&(b5 (lI ns ev) (cQ ns ip) ky).2)=true then _ else _)=_;rw[uw];rfl
   rw[e];cases c9:dC ns ip with
   |true=>
    refine go hz hX j7 func7 (anX ps cs ev ky a vs ns fs ip n i) (ak (by rw[c9];rfl) ?_);exact x8 hX hz rfl hn hc wY λip asked=>ih cs a vs ns fs ip asked (i+1) (by omega) (by omega) hc hn
   |false=>exact ac9 hX hz hs c9 hc wY λe9 a vs ns fs ip asked hc' hn'=>ih e9 a vs ns fs ip asked (i+1) (by omega) (by omega) hc' hn'
  refine go hz hX j7 func7 (asj ps cs ev ky a vs ns fs ip asked n i) (af (decide_eq_true (by omega)) ?_);cases hk:asked with
  |false=>exact ak rfl (by rw[hk]at mid;exact mid rfl)
  |true=>
   rw[hk]at mid;refine af rfl ⟨hn,rfl,rfl,rfl,hn,hb, ?_⟩;cases hq:(b5 (lI ns ev) (cQ ns ip) ky).2 with
   |false=>exact ak rfl (mid (by rw[hq];rfl))
   |true=>
    refine af rfl ⟨hc, ?_⟩
    have e:ga ps ev ky (d+1) cs (prK a vs ns fs) ip true=(siO a (b5 (lI ns ev) (cQ ns ip) ky).1,cs,true):=by
     refine(pd ps ev ky d cs (prK a vs ns fs) ip true).trans ?_;show(if(true&&(b5 (lI ns ev) (cQ ns ip) ky).2)=true then _ else _)=_;rw[hq];rfl
    rw[e];generalize (b5 (lI ns ev) (cQ ns ip) ky).1=z;exact aL _ rfl (by kernel_rfl)
end
theorem aeE{Z:aP}:cf P Z 7 [bh,te,y7,gC,bg] [y7,te,aZ] aeD FHa:=by
 refine a6 func7 (by kernel_rfl) (by kernel_rfl) ?_;rintro⟨(ps:Ps),(cs:Ss),⟨(nm:ByteArray),(k:Int),⟨⟩⟩,(ev:Int),(ky:ByteArray),⟨⟩⟩ _ ⟨(hs:cq ps),(hc:cs.length<=1000000),_⟩ X hX hz;show mh X (gb ps cs nm k ev ky) _;have hq:=hs.get nm;refine go hz hX j7 func7 (auy ps cs nm k ev ky) ?_;unfold gb;cases c9:dC (pO (ag ps nm)) k with
 |false=>
  refine af rfl ?_;generalize ag ps nm=q;exact aL _ rfl (by kernel_rfl)
 |true=>
  refine ak rfl ?_
  have mid:mh X (lK ps cs (ag ps nm) k ev ky) (cH5 ps cs nm k ev ky (pN (ag ps nm)) (pV (ag ps nm)) (pO (ag ps nm)) (pF (ag ps nm)) (aM (pO (ag ps nm)) k)):=by
   have hb:(bu (pO (ag ps nm)) k).length<=1000000:=le_trans (gq _ _) hq.1;have lp:=af7 (ev:=ev) (ky:=ky) hX hz hs (2+41*(1+(cs.length:Int))) ⟨by omega,by omega⟩ (2+41*(1+cs.length)) cs (pN (ag ps nm)) (pV (ag ps nm)) (pO (ag ps nm)) (pF (ag ps nm)) (nI (aM (pO (ag ps nm)) k)) true 0 (by omega) (by omega) hc hq.1;change mh X (ga ps ev ky (2+41*(1+cs.length)) cs (ag ps nm) (nI (aM (pO (ag ps nm)) k)) true) _ at lp;refine go hz hX j7 func7 (auz ps cs nm k ev ky _ _ _ _ _) ⟨hq.1,rfl,rfl,rfl,hq.1,hb, ?_⟩;unfold lK;generalize aM (pO (ag ps nm)) k=x at lp;generalize b5 (lU (pO (ag ps nm)) ev) (bu (pO (ag ps nm)) k) ky=z;cases h1:z.2 with
   |false=>exact ak rfl ⟨⟨by omega,by omega⟩,⟨by omega,by omega⟩,⟨by omega,by omega⟩,lp⟩
   |true=>
    refine af rfl ?_;cases h2:oh (nK x)with
    |false=>exact ak rfl ⟨⟨by omega,by omega⟩,⟨by omega,by omega⟩,⟨by omega,by omega⟩,lp⟩
    |true=>
     refine af rfl ⟨hc, ?_⟩;generalize ag ps nm=q;exact aL _ rfl (by kernel_rfl)
  generalize aM (pO (ag ps nm)) k=x at mid ⊢;cases h4:ev !=4 with
  |false=>exact ak rfl mid|true=>
   refine af rfl ?_;cases h5:ev !=5 with
   |false=>exact ak rfl mid|true=>
    refine af rfl ?_;generalize ag ps nm=q;exact aL _ rfl (by kernel_rfl)
abbrev iB(a:ByteArray)(k i o e:Int)(y t s:ByteArray)(b:Bool)(v:List (CL cV))(z:List ByteArray):CL cN:=(a,k,i,o,e,y,t,s,b,v,z,())
abbrev anZ:=dY [gC] [y8] (λ_=>[]) (λ(k,())=>(nOf k,()))
def mLn:List AV->RM ((ByteArray×Ns)×List Nat)
 |[.s (.str nm),.vec id]=>.look id λo=>match o with
  |some (.vec (.ab [.str,.int .u8,.int .i64,.int .i64,.int .u8,.str,.str,.str,.bool,.rows [.str,.int .u8,.int .i64,.str],.strs] ns) _)=>.ret ((nm,ns),[id])|_=>.fail ""
 |_=>.fail ""
abbrev an0:=fm sLn mLn
def an1:aQ:=[(10,anZ),(9,an0)]
def auA:List (Nat×Norm):=[]
theorem auB(ky bo:ByteArray):run P an1.sum f11 auA (start f11 [.s (.str ky),.s (.str bo)] [])=
 Tree.aa (bN (some [AV.s (.str (ByteArray.mk #[(112:UInt8)])),.vec 0]))
 (.aa (bN (some [au.vec (.ab cN [iB empty 1 (-1) (-1) 0 empty empty empty false [] [],iB empty 11 (-1) (-1) 0 empty empty empty false [] [],iB empty 2 (-1) (-1) 0 empty empty empty false [] []]) 40]))
   (.aa ((1:Nat)<=[iB empty 1 (-1) (-1) 0 empty empty empty false [] [],iB empty 11 (-1) (-1) 0 empty empty empty false [] [],iB empty 2 (-1) (-1) 0 empty empty empty false [] []].length/\[iB empty 1 (-1) (-1) 0 empty empty empty false [] [],iB empty 11 (-1) (-1) 0 empty empty empty false [] [],iB empty 2 (-1) (-1) 0 empty empty empty false [] []].length<=1000)
     (.aa (((3:Nat)+3)*(152:Nat)<=140737488355328) (.aa (((2:Nat)+2)*(40:Nat)<=140737488355328) (.ret [.ad [.s (.str (ByteArray.mk #[(112:UInt8)])),.emp,.vec 8,.vec 10] 30,.aW,.aW,.ad [.s (.str (ByteArray.mk #[(112:UInt8)])),.emp,.vec 8,.vec 10] 30,.ad [.s (.str empty),.s (.int .u8 1),.s (.aq .i64 1),.s (.int .i64 (-1)),.s (.int .u8 0),.s (.str empty),.s (.str empty),.s (.str empty),.s (.bool false),.s (.ro (.ab cV [])),.s (.ro (.strs []))] 40,.ad [.s (.str empty),.s (.int .u8 2),.s (.aq .i64 1),.s (.int .i64 (-1)),.s (.aq .u8 4),.s (.str ky),.s (.str empty),.s (.str empty),.s (.bool false),.s (.ro (.ab cV [])),.s (.ro (.strs []))] 40,.ad [.s (.str empty),.s (.int .u8 15),.s (.int .i64 (-1)),.s (.aq .i64 1),.s (.aq .u8 4),.s (.str bo),.s (.str empty),.s (.str empty),.s (.ao true),.s (.ro (.ab cV [])),.s (.ro (.strs []))] 40,.vec (.ab cN [iB empty 1 1 (-1) 0 empty empty empty false [] [],iB empty 2 1 (-1) 4 ky empty empty false [] [],iB empty 15 (-1) 1 4 bo empty empty true [] []]) 40,.vec (.ab cN ([iB empty 1 (-1) (-1) 0 empty empty empty false [] [],iB empty 11 (-1) (-1) 0 empty empty empty false [] [],iB empty 2 (-1) (-1) 0 empty empty empty false [] []]++[iB empty 1 1 (-1) 0 empty empty empty false [] [],iB empty 2 1 (-1) 4 ky empty empty false [] [],iB empty 15 (-1) 1 4 bo empty empty true [] []])) 40,.vec (.ab cF [fKo 3 4 empty false,fKo 5 2 empty false]) 47,.vec (.ab cF (lnF ([iB empty 1 (-1) (-1) 0 empty empty empty false [] [],iB empty 11 (-1) (-1) 0 empty empty empty false [] [],iB empty 2 (-1) (-1) 0 empty empty empty false [] []].length - 1)++[fKo 3 4 empty false,fKo 5 2 empty false])) 47] (.agg [.s (.str (ByteArray.mk #[(112:UInt8)])),.emp,.vec 8,.vec 10])))))):=by kernel_rfl
abbrev bPp:ByteArray:=⟨#[112]⟩
def abu(ky bo:ByteArray):Ns:=[iB empty 1 (-1) (-1) 0 empty empty empty false [] [],iB empty 11 (-1) (-1) 0 empty empty empty false [] [],iB empty 2 (-1) (-1) 0 empty empty empty false [] [],
 iB empty 1 1 (-1) 0 empty empty empty false [] [],iB empty 2 1 (-1) 4 ky empty empty false [] [],iB empty 15 (-1) 1 4 bo empty empty true [] []]
def vG:Fs:=[fOf 0 1,fOf 1 2,fOf 3 4,fOf 5 2]
abbrev FFa:AL [bg,bg]->AL [abe]:=λ(ky,bo,())=>((bPp,[],abu ky bo,vG,()),())
abbrev asr:=dY [bg,bg] [abe] (λ_=>[]) FFa
theorem ajF{Z:aP}:an1.Ok P Z:=aQ.Ok.cons anV.dY (aQ.Ok.cons (anW.sum mLn) aQ.Ok.nil)
theorem amr{Z:aP}:cf P Z 11 [bg,bg] [abe] (λ_=>[]) FFa:=by
 refine a6 func11 (by kernel_rfl) (by kernel_rfl) ?_;rintro⟨(ky:ByteArray),(bo:ByteArray),⟨⟩⟩ _ _ X hX hz;show Safe P 11 X (Ends [abe] ((bPp,[],abu ky bo,vG,()),())) _;exact go hz hX ajF func11 (auB ky bo) ⟨rfl,rfl,⟨le_of_ble_eq_true rfl,le_of_ble_eq_true rfl⟩,le_of_ble_eq_true rfl,le_of_ble_eq_true rfl,aL _ rfl (by kernel_rfl)⟩
abbrev ass:=sumOf [dF] [aZ] arQ (λ((_,_,ns,fs,()),())=>(gO ns fs,()))
def apu(C1 C2:vw):aQ:=[(10,anZ),(9,an0),(11,asr),(7,asm),(12,sumOf [dF,bx,bx,bx] [aZ] (λ((a,vs,ns,fs,()),n,_,_,())=>[ib 48 [(a,vs,ns,fs,())] a n (C1 [(a,vs,ns,fs,())] a n),ib 50 [(a,vs,ns,fs,())] a n (C2 [(a,vs,ns,fs,())] a n)])
 (λ((a,vs,ns,fs,()),n,want,al,())=>((C1 [(a,vs,ns,fs,())] a n==want)&&(C2 [(a,vs,ns,fs,())] a n==al),()))),(13,ass)]
def nsW:List (Nat×Norm):=[(eb+5000,⟨[],[1,2,3,4,5],0,[(0,1,true,.ab cV [],eV),(0,2,true,.ab cN [],eN),(0,3,true,.ab cF [],eF),(1,1,true,.ab cV [],eV),(1,2,true,.ab cN [],eN),(1,3,true,.ab cF [],eF)]⟩)]
theorem trW(C1 C2:vw):run P (apu C1 C2).sum f4 nsW (start f4 [] [])=
 Tree.aa (bN (some [AV.s (.str (ByteArray.mk #[(97:UInt8)])),.vec 0]))
 (.aa (bN (some [au.vec (.ab cN [iB empty 1 (-1) (-1) 0 empty empty empty false [] [],iB empty 3 (-1) (-1) 0 empty empty empty false [] [],iB empty 2 (-1) (-1) 0 empty empty empty false [] []]) 40]))
   (.aa ((1:Nat)<=[iB empty 1 (-1) (-1) 0 empty empty empty false [] [],iB empty 3 (-1) (-1) 0 empty empty empty false [] [],iB empty 2 (-1) (-1) 0 empty empty empty false [] []].length/\[iB empty 1 (-1) (-1) 0 empty empty empty false [] [],iB empty 3 (-1) (-1) 0 empty empty empty false [] [],iB empty 2 (-1) (-1) 0 empty empty empty false [] []].length<=1000)
     (.aa (bN (some [AV.s (.str (ByteArray.mk #[(98:UInt8)])),.vec 0]))
       (.aa (bN (some [au.vec (.ab cN [iB empty 1 (-1) (-1) 0 empty empty empty false [] [],iB empty 4 (-1) (-1) 0 empty empty empty false [] [],iB empty 4 (-1) (-1) 0 empty empty empty false [] []]) 40]))
         (.aa ((1:Nat)<=[iB empty 1 (-1) (-1) 0 empty empty empty false [] [],iB empty 4 (-1) (-1) 0 empty empty empty false [] [],iB empty 4 (-1) (-1) 0 empty empty empty false [] []].length/\[iB empty 1 (-1) (-1) 0 empty empty empty false [] [],iB empty 4 (-1) (-1) 0 empty empty empty false [] [],iB empty 4 (-1) (-1) 0 empty empty empty false [] []].length<=1000) (.aa (((2:Nat)+1)*(40:Nat)<=140737488355328) (.aa (cq [(bPp,[],abu (ByteArray.mk #[(101:UInt8)]) (ByteArray.mk #[(101:UInt8)]),vG,())]) (.aa ((0:Nat)<=1000000) (.at (.mk (sl 62 [(1,.ptr 0 0),(2,.ptr 1 0),(3,.ptr 2 0),(4,.vec 3),(5,.s (.bool true))]) [.ad [.s (.str (ByteArray.mk #[(97:UInt8)])),.s (.ro (.ab cV [])),.s (.ro (.ab cN [iB empty 1 (-1) (-1) 0 empty empty empty false [] [],iB empty 3 (-1) (-1) 0 empty empty empty false [] [],iB empty 2 (-1) (-1) 0 empty empty empty false [] []])),.s (.ro (.ab cF (lnF ([iB empty 1 (-1) (-1) 0 empty empty empty false [] [],iB empty 3 (-1) (-1) 0 empty empty empty false [] [],iB empty 2 (-1) (-1) 0 empty empty empty false [] []].length - 1))))] 30,.ad [.s (.str (ByteArray.mk #[(98:UInt8)])),.s (.ro (.ab cV [])),.s (.ro (.ab cN [iB empty 1 (-1) (-1) 0 empty empty empty false [] [],iB empty 4 (-1) (-1) 0 empty empty empty false [] [],iB empty 4 (-1) (-1) 0 empty empty empty false [] []])),.s (.ro (.ab cF (lnF ([iB empty 1 (-1) (-1) 0 empty empty empty false [] [],iB empty 4 (-1) (-1) 0 empty empty empty false [] [],iB empty 4 (-1) (-1) 0 empty empty empty false [] []].length - 1)++[fKo 2 1 empty false])))] 30,.ad [.s (.str (pN (ag [(bPp,[],abu (ByteArray.mk #[(101:UInt8)]) (ByteArray.mk #[(101:UInt8)]),vG,())] (ByteArray.mk #[(112:UInt8)])))),.s (.int .i64 5)] 33,.vec (.ab bZ (gb [(bPp,[],abu (ByteArray.mk #[(101:UInt8)]) (ByteArray.mk #[(101:UInt8)]),vG,())] [] (ByteArray.mk #[(112:UInt8)]) 4 4 (ByteArray.mk #[(101:UInt8)])).snd.fst) 33] (fI f4 5 0) (.mk none false 0 [] 5))))))))))):=by kernel_rfl
def cW(nA nB:Ns)(sT zg:Fs)(h:ByteArray)(l:Ss):aR:=⟨sl 62 [(1,.ptr 0 0),(2,.ptr 1 0),(3,.ptr 2 0),(4,.vec 3),(5,.s (.bool true))],[jc bA [] nA sT,jc bB [] nB zg,.ad [.s (.str h),aT 5] sR,.vec (.ab bZ l) sR],fI f4 5 0,⟨none,false,0,[],5⟩⟩
theorem auC(C1 C2:vw)(nA nB:Ns)(sT zg:Fs)(h:ByteArray)(l:Ss):run P (apu C1 C2).sum f4 nsW (cW nA nB sT zg h l)=
 Tree.aa (ib (48:FuncId) [(bA,[],nA,sT,())] bA 0 (C1 [(bA,[],nA,sT,())] bA 0))
 (.aa (ib (50:FuncId) [(bA,[],nA,sT,())] bA 0 (C2 [(bA,[],nA,sT,())] bA 0))
   (.ite (C1 [(bA,[],nA,sT,())] bA (0:Int)==2&&C2 [(bA,[],nA,sT,())] bA (0:Int)==1)
     (.aa (ib (48:FuncId) [(bA,[],nA,sT,())] bA 1 (C1 [(bA,[],nA,sT,())] bA 1)) (.aa (ib (50:FuncId) [(bA,[],nA,sT,())] bA 1 (C2 [(bA,[],nA,sT,())] bA 1)) (.ite (C1 [(bA,[],nA,sT,())] bA (1:Int)==1&&C2 [(bA,[],nA,sT,())] bA (1:Int)==1) (.aa (ib (48:FuncId) [(bB,[],nB,zg,())] bB 1 (C1 [(bB,[],nB,zg,())] bB 1)) (.aa (ib (50:FuncId) [(bB,[],nB,zg,())] bB 1 (C2 [(bB,[],nB,zg,())] bB 1)) (.ite (C1 [(bB,[],nB,zg,())] bB (1:Int)==2001&&C2 [(bB,[],nB,zg,())] bB (1:Int)==2001) (.aa (List.length nB<=400000) (.aa (List.length zg<=400000) (.ite (gO nB zg) (.aa (List.length nA<=400000) (.aa (List.length sT<=400000) (.ite (!gO nA sT) (.ite true (.ite (decide (h=ByteArray.mk #[(112:UInt8)])&&((5:Int)==5&&true)) (.ret [.ad [.s (.str bA),.s (.ro (.ab cV [])),.s (.ro (.ab cN nA)),.s (.ro (.ab cF sT))] 30,.ad [.s (.str bB),.s (.ro (.ab cV [])),.s (.ro (.ab cN nB)),.s (.ro (.ab cF zg))] 30,.ad [.s (.str h),.s (.int .i64 5)] 33,.vec (.ab bZ l) 33] (.s (.bool ((↑(List.length l):Int)==0)))) (.ret [.ad [.s (.str bA),.s (.ro (.ab cV [])),.s (.ro (.ab cN nA)),.s (.ro (.ab cF sT))] 30,.ad [.s (.str bB),.s (.ro (.ab cV [])),.s (.ro (.ab cN nB)),.s (.ro (.ab cF zg))] 30,.ad [.s (.str h),.s (.int .i64 5)] 33,.vec (.ab bZ l) 33] (.s (.ao false)))) (.ret [.ad [.s (.str bA),.s (.ro (.ab cV [])),.s (.ro (.ab cN nA)),.s (.ro (.ab cF sT))] 30,.ad [.s (.str bB),.s (.ro (.ab cV [])),.s (.ro (.ab cN nB)),.s (.ro (.ab cF zg))] 30,.ad [.s (.str h),.s (.int .i64 5)] 33,.vec (.ab bZ l) 33] (.s (.ao false)))) (.ret [.ad [.s (.str bA),.s (.ro (.ab cV [])),.s (.ro (.ab cN nA)),.s (.ro (.ab cF sT))] 30,.ad [.s (.str bB),.s (.ro (.ab cV [])),.s (.ro (.ab cN nB)),.s (.ro (.ab cF zg))] 30,.ad [.s (.str h),.s (.int .i64 5)] 33,.vec (.ab bZ l) 33] (.s (.ao false)))))) (.ret [.ad [.s (.str bA),.s (.ro (.ab cV [])),.s (.ro (.ab cN nA)),.s (.ro (.ab cF sT))] 30,.ad [.s (.str bB),.s (.ro (.ab cV [])),.s (.ro (.ab cN nB)),.s (.ro (.ab cF zg))] 30,.ad [.s (.str h),.s (.int .i64 5)] 33,.vec (.ab bZ l) 33] (.s (.ao false)))))) (.ret [.ad [.s (.str bA),.s (.ro (.ab cV [])),.s (.ro (.ab cN nA)),.s (.ro (.ab cF sT))] 30,.ad [.s (.str bB),.s (.ro (.ab cV [])),.s (.ro (.ab cN nB)),.s (.ro (.ab cF zg))] 30,.ad [.s (.str h),.s (.int .i64 5)] 33,.vec (.ab bZ l) 33] (.s (.ao false)))))) (.ret [.ad [.s (.str bA),.s (.ro (.ab cV [])),.s (.ro (.ab cN nA)),.s (.ro (.ab cF sT))] 30,.ad [.s (.str bB),.s (.ro (.ab cV [])),.s (.ro (.ab cN nB)),.s (.ro (.ab cF zg))] 30,.ad [.s (.str h),.s (.int .i64 5)] 33,.vec (.ab bZ l) 33] (.s (.ao false))))))
     (.ret [.ad [.s (.str bA),.s (.ro (.ab cV [])),.s (.ro (.ab cN nA)),.s (.ro (.ab cF sT))] 30,.ad [.s (.str bB),.s (.ro (.ab cV [])),.s (.ro (.ab cN nB)),.s (.ro (.ab cF zg))] 30,.ad [.s (.str h),.s (.int .i64 5)] 33,.vec (.ab bZ l) 33] (.s (.ao false))))):=by kernel_rfl
def nsA:Ns:=[nOf 1,nOf 3,nOf 2]
def fsA:Fs:=[fOf 0 1,fOf 1 2]
def nsB:Ns:=[nOf 1,nOf 4,nOf 4]
def fsB:Fs:=[fOf 0 1,fOf 1 2,fOf 2 1]
abbrev bF:ByteArray:=⟨#[102]⟩
abbrev bQ:ByteArray:=⟨#[113]⟩
def c1F:vw:=λps nm k=>if nm=bA then(if k==0 then 2 else 1)else if nm=bB then 2001 else if nm=bQ then 5 else if k==0 then 7 else if k==1 then 6 else if k==4 then(if nY (el (pO (ag ps nm)) 5)=bF then 1 else 2)else 1
def c2F:vw:=λ_ nm k=>if nm=bA then 1 else if nm=bB then 2001 else if nm=bQ then 0 else if k==0 then 6 else if k==1 then 1 else 0
def zh(lT:CL cN->Bool)(ns:Ns)(fs:Fs)(x:Int)(S:List Int):Bool:=(eA ns fs x).all (λz=>S.contains z)&&S.all λw=> !dC ns w|| !lT (nodeAt ns w)||(eA ns fs w).all λz=>S.contains z
theorem nW{ns:Ns}{fs:Fs}{n z:Int}:z∈b6 ns fs n↔dC ns n=true/\z∈eA ns fs n:=by
 unfold b6;cases h:dC ns n with
 |true=>simp[aiW,(afY _).mem_iff]|false=>simp
theorem af8{lT:CL cN->Bool}{ns:Ns}{fs:Fs}{x y:Int}(S:List Int)(h:zh lT ns fs x S=true)(hy:S.contains y=false):kQ lT ns fs x y=false:=by
 unfold zh at h;rw[and_eq_true,all_eq_true,all_eq_true]at h;have⟨h1,h2⟩:=h
 have key:∀z,Fr lT ns fs x z->z∈S:=by
  intro z hz
  induction hz with
  |a hz=>exact List.contains_iff_mem.1 (h1 _ (nW.1 hz).2)|b hw hi ht hz ih=>
   have:=h2 _ ih;rw[hi,ht]at this;simp only[Bool.not_true,Bool.false_or,all_eq_true]at this;exact List.contains_iff_mem.1 (this _ (nW.1 hz).2)
 cases e:kQ lT ns fs x y with
 |false=>rfl|true=>
  have:=List.contains_iff_mem.2 (key y (mf.1 e).1);rw[hy]at this;cases this
theorem ams{ns:Ns}{fs:Fs}(S:Nat->List Int)(h:((List.range ns.length).all λi=> !za (el ns (i:Int))||(zh za ns fs (i:Int) (S i)&& !(S i).contains (i:Int)))=true):gO ns fs=false:=by
 unfold gO;rw[List.any_eq_false];intro i hi;have:=(all_eq_true.1 h) i hi;unfold pCi;cases hn:za (el ns (i:Int))with
 |false=>simp|true=>
  rw[hn]at this;simp only[Bool.not_true,Bool.false_or,and_eq_true,Bool.not_eq_true']at this;rw[af8 (S i) this.1 this.2];simp
theorem ajG{ns:Ns}{fs:Fs}{i:Nat}(hi:i<ns.length)(hn:za (el ns (i:Int))=true)(h:Fr za ns fs (i:Int) (i:Int)):gO ns fs=true:=by
 unfold gO;refine List.any_eq_true.2 ⟨i,mem_range.2 hi, ?_⟩;unfold pCi;rw[hn,mf.2 ⟨h,decide_eq_true ⟨by omega,by omega⟩⟩];rfl
theorem auD{lT:CL cN->Bool}{ns:Ns}{fs:Fs}{x z:Int}(h1:dC ns x=true)(h:(eA ns fs x).contains z=true):Fr lT ns fs x z:=.a (nW.2 ⟨h1,List.contains_iff_mem.1 h⟩)
theorem auE{lT:CL cN->Bool}{ns:Ns}{fs:Fs}{x w z:Int}(k:Fr lT ns fs x w)(h1:dC ns w=true)(ht:lT (nodeAt ns w)=true)(h:(eA ns fs w).contains z=true):Fr lT ns fs x z:=.b k h1 ht (nW.2 ⟨h1,List.contains_iff_mem.1 h⟩)
theorem apv:gO nsA fsA=false:=ams (λi=>if i==0 then [1]else []) (by kernel_rfl)
theorem apw:gO nsB fsB=true:=ajG (i:=1) (le_of_ble_eq_true rfl) (by kernel_rfl) (auE (w:=2) (auD (by kernel_rfl) (by kernel_rfl)) (by kernel_rfl) (by kernel_rfl) (by kernel_rfl))
theorem aeF{Z:aP}{C1 C2:vw}:(apu C1 C2).Ok P Z:=aQ.Ok.cons anV.dY (aQ.Ok.cons (anW.sum mLn) (aQ.Ok.cons amr.dY (aQ.Ok.cons aeE.dY (aQ.Ok.cons (cf.sum (Ds.amm C1 C2)) (aQ.Ok.cons af2.sum aQ.Ok.nil)))))
theorem rT{g:FuncId}{C:vw}{ps:Ps}{nm:ByteArray}{k:Int}(m:Int)(e:C ps nm k=m)(h:ib g ps nm k m):ib g ps nm k (C ps nm k):=by rw[e];exact h
theorem ajH{Z:aP}:cf P Z 4 [] [aZ] (λ_=>[]) (λ()=>(true,())):=by
 refine a6 func4 (by kernel_rfl) (by kernel_rfl) ?_;rintro⟨⟩ _ _ X hX hz;show Safe P 4 X (Ends [aZ] (true,())) _;refine go hz hX (aeF (C1:=c1F) (C2:=c2F)) func4 (trW c1F c2F) ⟨rfl,rfl,⟨le_of_ble_eq_true rfl,le_of_ble_eq_true rfl⟩,rfl,rfl,⟨le_of_ble_eq_true rfl,le_of_ble_eq_true rfl⟩,le_of_ble_eq_true rfl, ?_,zero_le _, ?_⟩;intro p hp;rcases List.mem_singleton.1 hp with rfl;exact⟨le_of_ble_eq_true rfl,le_of_ble_eq_true rfl⟩;show Safe P 4 X (Ends [aZ] (true,())) (cW nsA nsB fsA fsB bPp []);refine go hz hX (aeF (C1:=c1F) (C2:=c2F)) func4 (auC c1F c2F nsA nsB fsA fsB bPp []) ?_;have f2:∀{l:Fs},l=fsA\/l=fsB->l.length<=400000:=λh=>by rcases h with rfl|rfl<;>exact le_of_ble_eq_true rfl
 refine⟨rT 2 (by kernel_rfl) aun,rT 1 (by kernel_rfl) auo,af (by kernel_rfl) ⟨rT 1 (by kernel_rfl) aup,rT 1 (by kernel_rfl) auq,af (by kernel_rfl) ⟨rT 2001 (by kernel_rfl) ze,rT 2001 (by kernel_rfl) zf,af (by kernel_rfl) ⟨le_of_ble_eq_true rfl,f2 (.inr rfl),af apw ⟨le_of_ble_eq_true rfl,f2 (.inl rfl),af (by rw[apv];rfl) (af rfl (af (by kernel_rfl) (aL _ rfl (by kernel_rfl))))⟩⟩⟩⟩⟩
abbrev pe:AV:=.s (.c7 0 true)
abbrev gS(k:IntKind):AV:=.s (.ax k)
abbrev dZ(ts:List Ty)(pre:AL ts->List Prop)(out:AV):Spec (AL ts):=⟨λx=>AL.av ts x,λ_=>[],pre,λ_=>[],λ_=>out⟩
abbrev oG(ts:List Ty)(pre:AL ts->List Prop)(out:AL ts->AV):Spec (AL ts):=⟨λx=>AL.av ts x,λ_=>[],pre,λ_=>[],out⟩
def fo(ts:List Ty):List AV->RM (AL ts×List Nat):=λargs=>match AL.rd ts args with
 |some x=>.ret (x,[])|none=>.fail ""
abbrev eZ(ts:List Ty)(pre:AL ts->List Prop)(out:AV):=fm (dZ ts pre out) (fo ts)
abbrev bI{ts:List Ty}:AL ts->List Prop:=λ_=>[]
theorem bX{Z:aP}{f:FuncId}{fn:Func}{ts:List Ty}{pre:AL ts->List Prop}{out:AV}(hf:P.funcs[f]? =some fn)(hb:fn.body.isSome=true)(hn:ts.length.ble fn.ntmps=true)
 (h:∀x,AL.ok ts x->bd (pre x)->∀X:Ctx,(∀id,X.H id=none)->cE Z X->Safe P f X (dc (dZ ts pre out) x) (start fn (AL.av ts x) [])):ed P Z f (dZ ts pre out):=by
 intro x gz ρ G w vs hz hs hd;have hok:AL.ok ts x:=AL.okL hd
 have key:ed P Z f (⟨λx=>AL.av ts x,λ_=>[],λx=>AL.ok ts x::pre x,λ_=>[],λ_=>out⟩:Spec (AL ts)):=
  cC hf hb (λx=>by show(AL.av ts x).length<=_;rw[AL.nJ];exact le_of_ble_eq_true hn) λx hp X hX hz=>h x hp.1 hp.2 X (λid=>by rw[hX];rfl) hz
 exact key x ⟨hok,gz⟩ ρ G w vs hz hs hd
theorem qm{Z:aP}{f:FuncId}{fn:Func}{ts:List Ty}{pre:AL ts->List Prop}{out:AL ts->AV}(hf:P.funcs[f]? =some fn)(hb:fn.body.isSome=true)(hn:ts.length.ble fn.ntmps=true)
 (h:∀x,AL.ok ts x->bd (pre x)->∀X:Ctx,(∀id,X.H id=none)->cE Z X->Safe P f X (dc (oG ts pre out) x) (start fn (AL.av ts x) [])):ed P Z f (oG ts pre out):=by
 intro x gz ρ G w vs hz hs hd;have hok:AL.ok ts x:=AL.okL hd
 have key:ed P Z f (⟨λx=>AL.av ts x,λ_=>[],λx=>AL.ok ts x::pre x,λ_=>[],out⟩:Spec (AL ts)):=
  cC hf hb (λx=>by show(AL.av ts x).length<=_;rw[AL.nJ];exact le_of_ble_eq_true hn) λx hp X hX hz=>h x hp.1 hp.2 X (λid=>by rw[hX];rfl) hz
 exact key x ⟨hok,gz⟩ ρ G w vs hz hs hd
section
variable{ts:List Ty}{pre:AL ts->List Prop}{x:AL ts}{L:List au}
theorem fK{b:Bool}(e:Norm.run ⟨[],[0],0,[]⟩ ⟨[(.s (.bool b))],L,[],{}⟩=some ⟨[(.s (.bool b))],[],[],{}⟩):dc (dZ ts pre pe) x L (.s (.bool b)):=
 ⟨_,_,le_refl _,e,λρ H O w v hd=>by
   have:=aw (by simp) hd;cases this;exact aC (.c7 _ _ _ (λ_=>rfl))⟩
theorem fL{b:Bool}(e:Norm.run ⟨[],[0],0,[]⟩ ⟨[(.s (.ao b))],L,[],{}⟩=some ⟨[(.s (.bool b))],[],[],{}⟩):dc (dZ ts pre pe) x L (.s (.ao b)):=
 ⟨_,_,le_refl _,e,λρ H O w v hd=>by
   have:=aw (by simp) hd;cases this;exact aC (.c7 _ _ _ (λ_=>rfl))⟩
theorem fM{n:Nat}{q:Bool}(e:Norm.run ⟨[],[0],0,[]⟩ ⟨[(.s (.c7 n q))],L,[],{}⟩=some ⟨[(.s (.c7 n q))],[],[],{}⟩):dc (dZ ts pre pe) x L (.s (.c7 n q)):=
 ⟨_,_,le_refl _,e,λρ H O w v hd=>by
   have:=aw (by simp) hd;cases this;exact aC (.c7 _ _ _ (λ_=>rfl))⟩
theorem fN{k:IntKind}{n:Int}(e:Norm.run ⟨[],[0],0,[]⟩ ⟨[(.s (.int k n))],L,[],{}⟩=some ⟨[(.s (.int k n))],[],[],{}⟩):dc (dZ ts pre (gS k)) x L (.s (.int k n)):=
 ⟨_,_,le_refl _,e,λρ H O w v hd=>by
   have:=aw (by simp) hd;cases this;exact aC (.ax _ _)⟩
theorem fO{k:IntKind}{n:Int}(e:Norm.run ⟨[],[0],0,[]⟩ ⟨[(.s (.aq k n))],L,[],{}⟩=some ⟨[(.s (.int k n))],[],[],{}⟩):dc (dZ ts pre (gS k)) x L (.s (.aq k n)):=
 ⟨_,_,le_refl _,e,λρ H O w v hd=>by
   have:=aw (by simp) hd;cases this;exact aC (.ax _ _)⟩
theorem fp{k:IntKind}(e:Norm.run ⟨[],[0],0,[]⟩ ⟨[(.s (.ax k))],L,[],{}⟩=some ⟨[(.s (.ax k))],[],[],{}⟩):dc (dZ ts pre (gS k)) x L (.s (.ax k)):=
 ⟨_,_,le_refl _,e,λρ H O w v hd=>hd⟩
theorem aeG{out:AL ts->AV}{n:Nat}(ho:out x=.s (.c7 n true))(hn:n=0)(e:Norm.run ⟨[],[0],0,[]⟩ ⟨[.s (.ao true)],L,[],{}⟩=some ⟨[.s (.bool true)],[],[],{}⟩):dc (oG ts pre out) x L (.s (.ao true)):=
 ⟨_,_,le_refl _,e,λρ H O w v hd=>by
   have:=aw (by simp) hd;cases this;show ae ρ H O w (out x) _;rw[ho];exact aC (.c7 _ _ _ (λ_=>hn))⟩
theorem abv{out:AL ts->AV}{n:Nat}(ho:out x=.s (.c7 n true))(e:Norm.run ⟨[],[0],0,[]⟩ ⟨[.s (.ao false)],L,[],{}⟩=some ⟨[.s (.bool false)],[],[],{}⟩):dc (oG ts pre out) x L (.s (.ao false)):=
 ⟨_,_,le_refl _,e,λρ H O w v hd=>by
   have:=aw (by simp) hd;cases this;show ae ρ H O w (out x) _;rw[ho];exact aC (.c7 _ _ _ (λh=>by cases h))⟩
end
def abw:List (Nat×Norm):=[(3,⟨[],[0],0,[]⟩),(4,⟨[],[0,3],0,[]⟩),(5,⟨[],[0,3],0,[]⟩),(9,⟨[],[],0,[]⟩)]
def ajI(s1:ByteArray):aR:=⟨sl 65 [(0,(.s (.str s1)))],[],(hr f53 3),(bt.mk none false 0 [] 0)⟩
def aeH(s1:ByteArray)(i1:Int):aR:=⟨sl 65 [(0,(.s (.str s1))),(3,(.s (.int .i64 i1)))],[],(hd f53 4),(bt.mk none false 0 [] 0)⟩
def vH(s1:ByteArray)(i1:Int):aR:=⟨sl 65 [(0,(.s (.str s1))),(3,(.s (.int .i64 i1)))],[],(hr f53 5),(bt.mk none false 0 [] 0)⟩
def ajJ:aR:=⟨sl 65 [],[],(hr f53 9),(bt.mk none false 0 [] 0)⟩
theorem auF(s:ByteArray):run P bE.sum f53 abw (start f53 [.s (.str s)] [])=
 Tree.ite (decide ((↑s.size:Int)<1)) (.ret [] (.s (.ao false))) (.ite (decide ((↑s.size:Int)>12)) (.ret [] (.s (.ao false))) (.ite (decide (s=ByteArray.mk #[(121:UInt8),(101:UInt8),(115:UInt8)])) (.ret [] (.s (.ao false))) (.ite (decide (s=ByteArray.mk #[(110:UInt8),(111:UInt8)])) (.ret [] (.s (.ao false))) (.ite (decide (s=ByteArray.mk #[(108:UInt8),(101:UInt8),(110:UInt8)])) (.ret [] (.s (.ao false))) (.at (ajI s)))))):=by kernel_rfl
theorem apx(s1:ByteArray):run P bE.sum f53 abw (ajI s1)=
 Tree.at (aeH s1 0):=by kernel_rfl
theorem apy(s1:ByteArray)(i1:Int):run P bE.sum f53 abw (aeH s1 i1)=
 Tree.ite (decide (i1<(↑s1.size:Int))) (.aa ((0:Int)<=i1) (.aa (i1<(↑s1.size:Int)) (.ite (decide (b9 s1 i1.toNat>=97)) (.aa ((0:Int)<=i1) (.aa (i1<(↑s1.size:Int)) (.ite (!decide (b9 s1 i1.toNat<=122)) (.ite (i1==0) (.ret [] (.s (.ao false))) (.aa ((0:Int)<=i1) (.aa (i1<(↑s1.size:Int)) (.ite (b9 s1 i1.toNat !=95) (.aa ((0:Int)<=i1) (.aa (i1<(↑s1.size:Int)) (.ite (decide (b9 s1 i1.toNat<48)) (.ret [] (.s (.ao false))) (.aa ((0:Int)<=i1) (.aa (i1<(↑s1.size:Int)) (.ite (decide (b9 s1 i1.toNat>57)) (.ret [] (.s (.ao false))) (.at (vH s1 i1)))))))) (.at (vH s1 i1)))))) (.at (vH s1 i1))))) (.ite (i1==0) (.ret [] (.s (.ao false))) (.aa ((0:Int)<=i1) (.aa (i1<(↑s1.size:Int)) (.ite (b9 s1 i1.toNat !=95) (.aa ((0:Int)<=i1) (.aa (i1<(↑s1.size:Int)) (.ite (decide (b9 s1 i1.toNat<48)) (.ret [] (.s (.ao false))) (.aa ((0:Int)<=i1) (.aa (i1<(↑s1.size:Int)) (.ite (decide (b9 s1 i1.toNat>57)) (.ret [] (.s (.ao false))) (.at (vH s1 i1)))))))) (.at (vH s1 i1))))))))) (.at ajJ):=by kernel_rfl
theorem apz(s1:ByteArray)(i1:Int):run P bE.sum f53 abw (vH s1 i1)=
 Tree.aa (aD (i1+1)) (.at (aeH s1 (i1+1))):=by kernel_rfl
theorem apA:run P bE.sum f53 abw (ajJ)=
 Tree.ret [] (.s (.ao true)):=by kernel_rfl
abbrev abx(X:Ctx)(x:AL [bg])(c:aR):Prop:=Safe P 53 X (dc (dZ [bg] bI pe) x) c
def ada(X:Ctx)(x:AL [bg])(N:Nat):Prop:=(∀(s1:ByteArray),200<N->(s1.size<=12)->abx X x (ajI s1))/\(∀(s1:ByteArray) (i1:Int),(100 - 2*i1).toNat+10<N->(s1.size<=12/\0<=i1)->abx X x (aeH s1 i1))/\(∀(s1:ByteArray) (i1:Int),(99 - 2*i1).toNat+10<N->(s1.size<=12/\0<=i1/\i1<s1.size)->abx X x (vH s1 i1))/\(0<N->(True)->abx X x (ajJ))
set_option maxHeartbeats 16000000 in
theorem apB{Z:aP}{X:Ctx}{x:AL [bg]}(hX:∀id,X.H id=none)(hz:cE Z X):∀N,ada X x N:=by
 intro N
 induction N with
 |zero=>
  unfold ada
  and_intros<;>(intros;omega)
 |succ N ih=>
  have⟨h0,h1,h2,h3⟩:=ih;unfold ada;refine⟨λ_ hm hi=>go hz hX aQ.Ok.nil func53 (apx ..) ?_,λ_ _ hm hi=>go hz hX aQ.Ok.nil func53 (apy ..) ?_,λ_ _ hm hi=>go hz hX aQ.Ok.nil func53 (apz ..) ?_,λhm hi=>go hz hX aQ.Ok.nil func53 (apA ..) ?_⟩
  all_goals repeat' (with_reducible (first|refine dj ?_|refine bn ?_ ?_|refine bR (λ_=> ?_) (λ_=> ?_)|refine bS (λ_=> ?_) (λ_=> ?_)|refine bT (λ_=> ?_) (λ_=> ?_)|refine dk ?_|refine dm ?_|refine bU ?_|refine bV (λ_=> ?_) (λ_=> ?_)|refine bp (λ_=> ?_) (λ_=> ?_)|refine bW ?_|refine dn ?_))
  all_goals first|omega|exact⟨by omega,by omega⟩|assumption|with_reducible exact fK (by kernel_rfl)|with_reducible exact fL (by kernel_rfl)|with_reducible exact fN (by kernel_rfl)|with_reducible exact fO (by kernel_rfl)|with_reducible exact fM (by kernel_rfl)|with_reducible exact fp (by kernel_rfl)|exact trivial|rfl|((with_reducible first|apply h0|apply h1|apply h2|apply h3)<;>first|omega|trivial|omega|(refine⟨?_, ?_⟩<;>omega))
theorem ic{Z:aP}:ed P Z 53 (dZ [bg] bI pe):=by
 refine bX func53 (by kernel_rfl) (by kernel_rfl) ?_;rintro⟨(s:ByteArray),⟨⟩⟩ _ _ X hX hz;skip;have⟨h0,h1,h2,h3⟩:=apB (x:=(s,())) hX hz 100000000;show abx X (s,()) _;refine go hz hX aQ.Ok.nil func53 (auF s) ?_
 repeat' (with_reducible (first|refine dj ?_|refine bn ?_ ?_|refine bR (λ_=> ?_) (λ_=> ?_)|refine bS (λ_=> ?_) (λ_=> ?_)|refine bT (λ_=> ?_) (λ_=> ?_)|refine dk ?_|refine dm ?_|refine bU ?_|refine bV (λ_=> ?_) (λ_=> ?_)|refine bp (λ_=> ?_) (λ_=> ?_)|refine bW ?_|refine dn ?_))
 all_goals first|omega|exact⟨by omega,by omega⟩|assumption|with_reducible exact fK (by kernel_rfl)|with_reducible exact fL (by kernel_rfl)|with_reducible exact fN (by kernel_rfl)|with_reducible exact fO (by kernel_rfl)|with_reducible exact fM (by kernel_rfl)|with_reducible exact fp (by kernel_rfl)|exact trivial|rfl|((with_reducible first|apply h0|apply h1|apply h2|apply h3)<;>first|omega|trivial|omega|(refine⟨?_, ?_⟩<;>omega))
def apC:aQ:=[(53,eZ [bg] bI pe)]
abbrev pf:Ty:=.st [.int .u8,.int .i64,.str]
abbrev tFl:Ty:=.st [.int .i64,.int .i64,.str,.bool]
abbrev ajK:AL [pf]->List Prop:=λ((_,_,t,()),())=>[t.size<=9223372036854775807]
def aby:aQ:=[(53,eZ [bg] bI pe),(74,eZ [pf] ajK pe)]
def j8(l:Vs):Prop:=∀v∈l,(vT v).size<=9223372036854775807
def an2:List (Nat×Norm):=[(12,⟨[],[0,1],0,[]⟩)]
def adb(i1:Int)(i2:Int):aR:=⟨sl 80 [(0,(.s (.int .u8 i1))),(1,(.s (.int .u8 i2)))],[],(hr f75 12),(bt.mk none false 0 [] 0)⟩
def ast:List (Nat×Norm):=[]
def asu:List (Nat×Norm):=[]
def an3:List (Nat×Norm):=[(8,⟨[],[1],0,[]⟩)]
def aeI(s1:ByteArray)(i1:Int)(i2:Int)(i3:Int)(i4:Int)(s2:ByteArray)(s3:ByteArray)(s4:ByteArray)(b1:Bool)(r1:Vs)(r2:List ByteArray):aR:=⟨sl 48 [(1,(.ptr 0 0))],[(.ad [(.s (.str s1)),(.s (.int .u8 i1)),(.s (.int .i64 i2)),(.s (.int .i64 i3)),(.s (.int .u8 i4)),(.s (.str s2)),(.s (.str s3)),(.s (.str s4)),(.s (.bool b1)),(.s (.ro (.ab cV r1))),(.s (.ro (.strs r2)))] 40)],(hr f76 8),(bt.mk none false 0 [] 0)⟩
def abz:List (Nat×Norm):=[(10,⟨[],[1,3],0,[]⟩),(11,⟨[],[1,3],0,[]⟩),(14,⟨[],[1],0,[]⟩),(15,⟨[],[],0,[]⟩)]
def zi(i1:Int)(i2:Int)(i3:Int)(s1:ByteArray):aR:=⟨sl 73 [(1,(.ptr 0 0)),(3,(.s (.int .i64 i1)))],[(.ad [(.s (.int .u8 i2)),(.s (.int .i64 i3)),(.s (.str s1))] 88)],(hd f74 10),(bt.mk none false 0 [] 0)⟩
def ade:aR:=⟨sl 73 [],[],(hr f74 15),(bt.mk none false 0 [] 0)⟩
def adf(i1:Int)(i2:Int)(i3:Int)(s1:ByteArray):aR:=⟨sl 73 [(1,(.ptr 0 0)),(3,(.s (.int .i64 i1)))],[(.ad [(.s (.int .u8 i2)),(.s (.int .i64 i3)),(.s (.str s1))] 88)],(hr f74 11),(bt.mk none false 0 [] 0)⟩
def adg(i1:Int)(i2:Int)(s1:ByteArray):aR:=⟨sl 73 [(1,(.ptr 0 0))],[(.ad [(.s (.int .u8 i1)),(.s (.int .i64 i2)),(.s (.str s1))] 88)],(hr f74 14),(bt.mk none false 0 [] 0)⟩
def sE:List (Nat×Norm):=[(3,⟨[],[0],0,[]⟩),(4,⟨[],[0,3],0,[]⟩),(5,⟨[],[0,3],0,[]⟩),(8,⟨[],[0,3],0,[]⟩),(9,⟨[],[0,3,4],0,[]⟩),(10,⟨[],[0,3,4],0,[]⟩),(13,⟨[],[],0,[]⟩)]
def ajL(r1:Vs):aR:=⟨sl 55 [(0,(.s (.ro (.ab cV r1))))],[],(hr f54 3),(bt.mk none false 0 [] 0)⟩
def aeJ(r1:Vs)(i1:Int):aR:=⟨sl 55 [(0,(.s (.ro (.ab cV r1)))),(3,(.s (.int .i64 i1)))],[],(hd f54 4),(bt.mk none false 0 [] 0)⟩
def ajM(r1:Vs)(i1:Int):aR:=⟨sl 55 [(0,(.s (.ro (.ab cV r1)))),(3,(.s (.int .i64 i1)))],[],(hr f54 8),(bt.mk none false 0 [] 0)⟩
def adh:aR:=⟨sl 55 [],[],(hr f54 13),(bt.mk none false 0 [] 0)⟩
def aeK(r1:Vs)(i1:Int)(i2:Int):aR:=⟨sl 55 [(0,(.s (.ro (.ab cV r1)))),(3,(.s (.int .i64 i1))),(4,(.s (.int .i64 i2)))],[],(hd f54 9),(bt.mk none false 0 [] 0)⟩
def adi(r1:Vs)(i1:Int)(i2:Int):aR:=⟨sl 55 [(0,(.s (.ro (.ab cV r1)))),(3,(.s (.int .i64 i1))),(4,(.s (.int .i64 i2)))],[],(hr f54 10),(bt.mk none false 0 [] 0)⟩
def ajN(r1:Vs)(i1:Int):aR:=⟨sl 55 [(0,(.s (.ro (.ab cV r1)))),(3,(.s (.int .i64 i1)))],[],(hr f54 5),(bt.mk none false 0 [] 0)⟩
def ajO:List (Nat×Norm):=[(3,⟨[],[1],0,[]⟩),(5,⟨[],[],0,[]⟩)]
def ajP(i1:Int)(i2:Int)(s1:ByteArray)(b1:Bool):aR:=⟨sl 24 [(1,(.ptr 0 0))],[(.ad [(.s (.int .i64 i1)),(.s (.int .i64 i2)),(.s (.str s1)),(.s (.bool b1))] 47)],(hr f56 3),(bt.mk none false 0 [] 0)⟩
def aeL:aR:=⟨sl 24 [],[],(hr f56 5),(bt.mk none false 0 [] 0)⟩
theorem auG(a b:Int):run P bE.sum f75 an2 (start f75 [jb a,jb b] [])=
 Tree.ite (a==1) (.ret [] (.s (.bool (decide (b<=5))))) (.ite (a==2) (.ite (b==0) (.ret [] (.s (.ao true))) (.ite (b==1) (.ret [] (.s (.ao true))) (.ite (b==4) (.ret [] (.s (.ao true))) (.ite (b==5) (.ret [] (.s (.ao true))) (.ret [] (.s (.bool (b==7)))))))) (.ite (a==5) (.ite (b==0) (.ret [] (.s (.ao true))) (.ite (b==1) (.ret [] (.s (.ao true))) (.ite (b==5) (.ret [] (.s (.ao true))) (.ret [] (.s (.bool (b==6))))))) (.ite (a==6) (.ite (b==1) (.ret [] (.s (.ao true))) (.ite (b==2) (.ret [] (.s (.ao true))) (.ite (b==3) (.ret [] (.s (.ao true))) (.ret [] (.s (.bool (b==6))))))) (.ite (a==15) (.ite (decide (b>=1)) (.ret [] (.s (.bool (decide (b<=5))))) (.ret [] (.s (.ao false)))) (.at (adb a b)))))):=by kernel_rfl
theorem amt(i1:Int)(i2:Int):run P bE.sum f75 an2 (adb i1 i2)=
 Tree.ite (decide (i1>=3)) (.ite (decide (i1<=14)) (.ret [] (.s (.bool (i2==0)))) (.ret [] (.s (.ao false)))) (.ret [] (.s (.ao false))):=by kernel_rfl
theorem asv(a:Int):run P bE.sum f57 ast (start f57 [jb a] [])=
 Tree.ite (a==11) (.ret [] (.s (.ao true))) (.ite (a==12) (.ret [] (.s (.ao true))) (.ret [] (.s (.bool (a==13))))):=by kernel_rfl
theorem auH(a:Int):run P bE.sum f59 asu (start f59 [jb a] [])=
 Tree.ite (a==3) (.ret [] (.s (.ao true))) (.ite (a==11) (.ret [] (.s (.ao true))) (.ite (a==12) (.ret [] (.s (.ao true))) (.ret [] (.s (.bool (a==14)))))):=by kernel_rfl
theorem auI(x:CL cN):run P apC.sum f76 an3 (start f76 [ao5 x] [])=
 Tree.ite (nK x==1) (.ite (nK x==14) (.aa (bN (some [AV.s (.str (nY x))])) (.aa ba (.ret [.ad [.s (.str (nN x)),.s (.int .u8 (nK x)),.s (.int .i64 (nI x)),.s (.int .i64 (nO x)),.s (.int .u8 (nE x)),.s (.str (nY x)),.s (.str (nT x)),.s (.str (nS x)),.s (.bool (nB x)),.s (.ro (.ab cV (nV x))),.s (.ro (.strs (nZ x)))] 40] (.s (.c7 0 true))))) (.ite (nE x==1) (.aa (bN (some [AV.s (.str (nY x))])) (.aa ba (.ret [.ad [.s (.str (nN x)),.s (.int .u8 (nK x)),.s (.int .i64 (nI x)),.s (.int .i64 (nO x)),.s (.int .u8 (nE x)),.s (.str (nY x)),.s (.str (nT x)),.s (.str (nS x)),.s (.bool (nB x)),.s (.ro (.ab cV (nV x))),.s (.ro (.strs (nZ x)))] 40] (.s (.c7 0 true))))) (.ite (nE x==6) (.aa (bN (some [AV.s (.str (nY x))])) (.aa ba (.ret [.ad [.s (.str (nN x)),.s (.int .u8 (nK x)),.s (.int .i64 (nI x)),.s (.int .i64 (nO x)),.s (.int .u8 (nE x)),.s (.str (nY x)),.s (.str (nT x)),.s (.str (nS x)),.s (.bool (nB x)),.s (.ro (.ab cV (nV x))),.s (.ro (.strs (nZ x)))] 40] (.s (.c7 0 true))))) (.ite (nE x==4) (.aa (bN (some [AV.s (.str (nY x))])) (.aa ba (.both ((0:Nat)=0) True (.ret [.ad [.s (.str (nN x)),.s (.int .u8 (nK x)),.s (.int .i64 (nI x)),.s (.int .i64 (nO x)),.s (.int .u8 (nE x)),.s (.str (nY x)),.s (.str (nT x)),.s (.str (nS x)),.s (.bool (nB x)),.s (.ro (.ab cV (nV x))),.s (.ro (.strs (nZ x)))] 40] (.s (.ao true))) (.ret [.ad [.s (.str (nN x)),.s (.int .u8 (nK x)),.s (.int .i64 (nI x)),.s (.int .i64 (nO x)),.s (.int .u8 (nE x)),.s (.str (nY x)),.s (.str (nT x)),.s (.str (nS x)),.s (.bool (nB x)),.s (.ro (.ab cV (nV x))),.s (.ro (.strs (nZ x)))] 40] (.s (.bool (decide (nY x=empty)))))))) (.ite (nE x==5) (.aa (bN (some [AV.s (.str (nY x))])) (.aa ba (.both ((0:Nat)=0) True (.ret [.ad [.s (.str (nN x)),.s (.int .u8 (nK x)),.s (.int .i64 (nI x)),.s (.int .i64 (nO x)),.s (.int .u8 (nE x)),.s (.str (nY x)),.s (.str (nT x)),.s (.str (nS x)),.s (.bool (nB x)),.s (.ro (.ab cV (nV x))),.s (.ro (.strs (nZ x)))] 40] (.s (.ao true))) (.ret [.ad [.s (.str (nN x)),.s (.int .u8 (nK x)),.s (.int .i64 (nI x)),.s (.int .i64 (nO x)),.s (.int .u8 (nE x)),.s (.str (nY x)),.s (.str (nT x)),.s (.str (nS x)),.s (.bool (nB x)),.s (.ro (.ab cV (nV x))),.s (.ro (.strs (nZ x)))] 40] (.s (.bool (decide (nY x=empty)))))))) (.at (aeI (nN x) (nK x) (nI x) (nO x) (nE x) (nY x) (nT x) (nS x) (nB x) (nV x) (nZ x))))))))
 (.ite (nK x==14) (.aa (bN (some [AV.s (.str (nY x))])) (.aa ba (.ret [.ad [.s (.str (nN x)),.s (.int .u8 (nK x)),.s (.int .i64 (nI x)),.s (.int .i64 (nO x)),.s (.int .u8 (nE x)),.s (.str (nY x)),.s (.str (nT x)),.s (.str (nS x)),.s (.bool (nB x)),.s (.ro (.ab cV (nV x))),.s (.ro (.strs (nZ x)))] 40] (.s (.c7 0 true)))))
   (.ite (nE x==1) (.aa (bN (some [AV.s (.str (nY x))])) (.aa ba (.ret [.ad [.s (.str (nN x)),.s (.int .u8 (nK x)),.s (.int .i64 (nI x)),.s (.int .i64 (nO x)),.s (.int .u8 (nE x)),.s (.str (nY x)),.s (.str (nT x)),.s (.str (nS x)),.s (.bool (nB x)),.s (.ro (.ab cV (nV x))),.s (.ro (.strs (nZ x)))] 40] (.s (.c7 0 true))))) (.ite (nE x==6) (.aa (bN (some [AV.s (.str (nY x))])) (.aa ba (.ret [.ad [.s (.str (nN x)),.s (.int .u8 (nK x)),.s (.int .i64 (nI x)),.s (.int .i64 (nO x)),.s (.int .u8 (nE x)),.s (.str (nY x)),.s (.str (nT x)),.s (.str (nS x)),.s (.bool (nB x)),.s (.ro (.ab cV (nV x))),.s (.ro (.strs (nZ x)))] 40] (.s (.c7 0 true))))) (.ite (nE x==4) (.aa (bN (some [AV.s (.str (nY x))])) (.aa ba (.both ((0:Nat)=0) True (.ret [.ad [.s (.str (nN x)),.s (.int .u8 (nK x)),.s (.int .i64 (nI x)),.s (.int .i64 (nO x)),.s (.int .u8 (nE x)),.s (.str (nY x)),.s (.str (nT x)),.s (.str (nS x)),.s (.bool (nB x)),.s (.ro (.ab cV (nV x))),.s (.ro (.strs (nZ x)))] 40] (.s (.ao true))) (.ite (nK x==15) (.ret [.ad [.s (.str (nN x)),.s (.int .u8 (nK x)),.s (.int .i64 (nI x)),.s (.int .i64 (nO x)),.s (.int .u8 (nE x)),.s (.str (nY x)),.s (.str (nT x)),.s (.str (nS x)),.s (.bool (nB x)),.s (.ro (.ab cV (nV x))),.s (.ro (.strs (nZ x)))] 40] (.s (.bool (decide (nY x=empty))))) (.ret [.ad [.s (.str (nN x)),.s (.int .u8 (nK x)),.s (.int .i64 (nI x)),.s (.int .i64 (nO x)),.s (.int .u8 (nE x)),.s (.str (nY x)),.s (.str (nT x)),.s (.str (nS x)),.s (.bool (nB x)),.s (.ro (.ab cV (nV x))),.s (.ro (.strs (nZ x)))] 40] (.s (.ao false))))))) (.ite (nE x==5) (.aa (bN (some [AV.s (.str (nY x))])) (.aa ba (.both ((0:Nat)=0) True (.ret [.ad [.s (.str (nN x)),.s (.int .u8 (nK x)),.s (.int .i64 (nI x)),.s (.int .i64 (nO x)),.s (.int .u8 (nE x)),.s (.str (nY x)),.s (.str (nT x)),.s (.str (nS x)),.s (.bool (nB x)),.s (.ro (.ab cV (nV x))),.s (.ro (.strs (nZ x)))] 40] (.s (.ao true))) (.ite (nK x==15) (.ret [.ad [.s (.str (nN x)),.s (.int .u8 (nK x)),.s (.int .i64 (nI x)),.s (.int .i64 (nO x)),.s (.int .u8 (nE x)),.s (.str (nY x)),.s (.str (nT x)),.s (.str (nS x)),.s (.bool (nB x)),.s (.ro (.ab cV (nV x))),.s (.ro (.strs (nZ x)))] 40] (.s (.bool (decide (nY x=empty))))) (.ret [.ad [.s (.str (nN x)),.s (.int .u8 (nK x)),.s (.int .i64 (nI x)),.s (.int .i64 (nO x)),.s (.int .u8 (nE x)),.s (.str (nY x)),.s (.str (nT x)),.s (.str (nS x)),.s (.bool (nB x)),.s (.ro (.ab cV (nV x))),.s (.ro (.strs (nZ x)))] 40] (.s (.ao false))))))) (.at (aeI (nN x) (nK x) (nI x) (nO x) (nE x) (nY x) (nT x) (nS x) (nB x) (nV x) (nZ x)))))))):=by kernel_rfl
theorem apD(s1:ByteArray)(i1:Int)(i2:Int)(i3:Int)(i4:Int)(s2:ByteArray)(s3:ByteArray)(s4:ByteArray)(b1:Bool)(r1:Vs)(r2:List ByteArray):run P apC.sum f76 an3 (aeI s1 i1 i2 i3 i4 s2 s3 s4 b1 r1 r2)=
 Tree.ret [.ad [.s (.str s1),.s (.int .u8 i1),.s (.int .i64 i2),.s (.int .i64 i3),.s (.int .u8 i4),.s (.str s2),.s (.str s3),.s (.str s4),.s (.bool b1),.s (.ro (.ab cV r1)),.s (.ro (.strs r2))] 40] (.s (.bool (decide (s2=empty)))):=by kernel_rfl
theorem auJ(a b:Int)(t:ByteArray):run P bE.sum f74 abz (start f74 [.agg [jb a,aT b,.s (.str t)]] [])=
 Tree.ite (a==0) (.ite (b==0) (.ret [.ad [.s (.int .u8 a),aT b,.s (.str t)] 88] (.s (.bool (decide (t=empty))))) (.ret [.ad [.s (.int .u8 a),aT b,.s (.str t)] 88] (.s (.ao false)))) (.ite (a==1) (.ret [.ad [.s (.int .u8 a),aT b,.s (.str t)] 88] (.s (.bool (decide (t=empty))))) (.ite (a==2) (.ite (b==0) (.ret [.ad [.s (.int .u8 a),aT b,.s (.str t)] 88] (.s (.bool (decide (t=empty))))) (.ite (b==1) (.ret [.ad [.s (.int .u8 a),aT b,.s (.str t)] 88] (.s (.bool (decide (t=empty))))) (.ret [.ad [.s (.int .u8 a),aT b,.s (.str t)] 88] (.s (.ao false))))) (.ite (a==3) (.at (zi 0 a b t)) (.at ade)))):=by kernel_rfl
theorem amu(i1:Int)(i2:Int)(i3:Int)(s1:ByteArray):run P bE.sum f74 abz (zi i1 i2 i3 s1)=
 Tree.ite (decide (i1<(↑s1.size:Int))) (.aa ((0:Int)<=i1) (.aa (i1<(↑s1.size:Int)) (.ite (decide (b9 s1 i1.toNat<32)) (.ret [.ad [.s (.int .u8 i2),.s (.int .i64 i3),.s (.str s1)] 88] (.s (.ao false))) (.aa ((0:Int)<=i1) (.aa (i1<(↑s1.size:Int)) (.ite (decide (b9 s1 i1.toNat>126)) (.ret [.ad [.s (.int .u8 i2),.s (.int .i64 i3),.s (.str s1)] 88] (.s (.ao false))) (.aa ((0:Int)<=i1) (.aa (i1<(↑s1.size:Int)) (.ite (b9 s1 i1.toNat==39) (.ret [.ad [.s (.int .u8 i2),.s (.int .i64 i3),.s (.str s1)] 88] (.s (.ao false))) (.at (adf i1 i2 i3 s1))))))))))) (.at (adg i2 i3 s1)):=by kernel_rfl
theorem amv:run P bE.sum f74 abz (ade)=
 Tree.ret [] (.s (.ao false)):=by kernel_rfl
theorem amw(i1:Int)(i2:Int)(i3:Int)(s1:ByteArray):run P bE.sum f74 abz (adf i1 i2 i3 s1)=
 Tree.aa (aD (i1+1)) (.at (zi (i1+1) i2 i3 s1)):=by kernel_rfl
theorem amx(i1:Int)(i2:Int)(s1:ByteArray):run P bE.sum f74 abz (adg i1 i2 s1)=
 Tree.ite (i2==0) (.ret [.ad [.s (.int .u8 i1),.s (.int .i64 i2),.s (.str s1)] 88] (.s (.bool (decide ((↑s1.size:Int)<=40))))) (.ret [.ad [.s (.int .u8 i1),.s (.int .i64 i2),.s (.str s1)] 88] (.s (.ao false))):=by kernel_rfl
theorem auK(l:Vs):run P aby.sum f54 sE (start f54 [arp l] [])=
 Tree.ite (decide ((↑(List.length l):Int)>8)) (.ret [] (.s (.aq .i64 40))) (.at (ajL l)):=by kernel_rfl
theorem apE(r1:Vs):run P aby.sum f54 sE (ajL r1)=
 Tree.at (aeJ r1 0):=by kernel_rfl
theorem apF(r1:Vs)(i1:Int):run P aby.sum f54 sE (aeJ r1 i1)=
 Tree.ite (decide (i1<(↑(List.length r1):Int))) (.aa ((0:Int)<=i1) (.aa (i1<(↑(List.length r1):Int)) (.aa (bN (some [AV.s (.str (vN (el r1 i1)))])) (.aa ba (.both True ((0:Nat)=0) (.ret [] (.s (.aq .i64 4))) (.aa ((0:Int)<=i1) (.aa (i1<(↑(List.length r1):Int)) (.aa (bN (some [AV.agg [.s (.int .u8 (vK (el r1 i1))),.s (.int .i64 (vI (el r1 i1))),.s (.str (vT (el r1 i1)))]])) (.aa ba (.aa ((vT (el r1 i1)).size<=9223372036854775807) (.both True ((0:Nat)=0) (.ret [] (.s (.aq .i64 4))) (.aa ((0:Int)<=i1) (.aa (i1<(↑(List.length r1):Int)) (.ite (vK (el r1 i1)==0) (.ret [] (.s (.aq .i64 4))) (.at (ajM r1 i1)))))))))))))))) (.at adh):=by kernel_rfl
theorem apG(r1:Vs)(i1:Int):run P aby.sum f54 sE (ajM r1 i1)=
 Tree.at (aeK r1 i1 0):=by kernel_rfl
theorem amy:run P aby.sum f54 sE (adh)=
 Tree.ret [] (.s (.aq .i64 0)):=by kernel_rfl
theorem apH(r1:Vs)(i1:Int)(i2:Int):run P aby.sum f54 sE (aeK r1 i1 i2)=
 Tree.ite (decide (i2<i1)) (.aa ((0:Int)<=i2) (.aa (i2<(↑(List.length r1):Int)) (.aa ((0:Int)<=i1) (.aa (i1<(↑(List.length r1):Int)) (.ite (decide (vN (el r1 i2)=vN (el r1 i1))) (.ret [] (.s (.aq .i64 4))) (.at (adi r1 i1 i2))))))) (.at (ajN r1 i1)):=by kernel_rfl
theorem amz(r1:Vs)(i1:Int)(i2:Int):run P aby.sum f54 sE (adi r1 i1 i2)=
 Tree.aa (aD (i2+1)) (.at (aeK r1 i1 (i2+1))):=by kernel_rfl
theorem apI(r1:Vs)(i1:Int):run P aby.sum f54 sE (ajN r1 i1)=
 Tree.aa (aD (i1+1)) (.at (aeJ r1 (i1+1))):=by kernel_rfl
theorem auL(a b:Int)(t:ByteArray)(e:Bool):run P bE.sum f56 ajO (start f56 [.agg [aT a,aT b,.s (.str t),.s (.bool e)]] [])=
 Tree.ite (decide ((↑t.size:Int)>100)) (.ret [.ad [aT a,aT b,.s (.str t),.s (.bool e)] 47] (.s (.aq .i64 40))) (.at (ajP a b t e)):=by kernel_rfl
theorem apJ(i1:Int)(i2:Int)(s1:ByteArray)(b1:Bool):run P bE.sum f56 ajO (ajP i1 i2 s1 b1)=
 Tree.ite (decide (i1<0)) (.ret [.ad [.s (.int .i64 i1),.s (.int .i64 i2),.s (.str s1),.s (.bool b1)] 47] (.s (.aq .i64 4))) (.ite (decide (i2<0)) (.ret [.ad [.s (.int .i64 i1),.s (.int .i64 i2),.s (.str s1),.s (.bool b1)] 47] (.s (.aq .i64 4))) (.ite b1 (.ite (!decide (s1=empty)) (.ret [.ad [.s (.int .i64 i1),.s (.int .i64 i2),.s (.str s1),.s (.bool b1)] 47] (.s (.aq .i64 4))) (.at aeL)) (.at aeL))):=by kernel_rfl
theorem apK:run P bE.sum f56 ajO (aeL)=
 Tree.ret [] (.s (.aq .i64 0)):=by kernel_rfl
theorem aeM{Z:aP}:apC.Ok P Z:=aQ.Ok.cons (ic.sum (fo [bg])) aQ.Ok.nil
theorem j8.el{l:Vs}(h:j8 l)(i:Int):(vT (el l i)).size<=9223372036854775807:=by
 show(vT (l.getD i.toNat (CL.d cV))).size<=_;by_cases hi:i.toNat<l.length;rw[cK hi];exact h _ (getElem_mem hi);rw[List.getD_eq_getElem?_getD,getElem?_eq_none (by omega)];exact zero_le _
abbrev an4(X:Ctx)(x:AL [gC,gC])(c:aR):Prop:=Safe P 75 X (dc (dZ [gC,gC] bI pe) x) c
def vJ(X:Ctx)(x:AL [gC,gC])(N:Nat):Prop:=(∀(i1:Int) (i2:Int),988<N->(True)->an4 X x (adb i1 i2))
set_option maxHeartbeats 16000000 in
theorem apL{Z:aP}{X:Ctx}{x:AL [gC,gC]}(hX:∀id,X.H id=none)(hz:cE Z X):∀N,vJ X x N:=by
 intro N
 induction N with
 |zero=>
  unfold vJ;intros;omega
 |succ N ih=>
  have h0:=ih;unfold vJ at h0;unfold vJ;refine λ_ _ hm hi=>go hz hX aQ.Ok.nil func75 (amt ..) ?_
  all_goals repeat' (with_reducible (first|refine dj ?_|refine bn ?_ ?_|refine bR (λ_=> ?_) (λ_=> ?_)|refine bS (λ_=> ?_) (λ_=> ?_)|refine bT (λ_=> ?_) (λ_=> ?_)|refine dk ?_|refine dm ?_|refine bU ?_|refine bV (λ_=> ?_) (λ_=> ?_)|refine bp (λ_=> ?_) (λ_=> ?_)|refine bW ?_|refine dn ?_))
  all_goals first|omega|exact⟨by omega,by omega⟩|assumption|with_reducible exact fK (by kernel_rfl)|with_reducible exact fL (by kernel_rfl)|with_reducible exact fN (by kernel_rfl)|with_reducible exact fO (by kernel_rfl)|with_reducible exact fM (by kernel_rfl)|with_reducible exact fp (by kernel_rfl)|exact trivial|rfl|((with_reducible apply h0)<;>first|omega|trivial|omega|(refine⟨?_, ?_⟩<;>omega))
theorem asw{Z:aP}:ed P Z 75 (dZ [gC,gC] bI pe):=by
 refine bX func75 (by kernel_rfl) (by kernel_rfl) ?_;rintro⟨(a:Int),(b:Int),⟨⟩⟩ _ _ X hX hz;skip;have h0:=apL (x:=(a,b,())) hX hz 100000000;unfold vJ at h0;show an4 X (a,b,()) _;refine go hz hX aQ.Ok.nil func75 (auG a b) ?_
 repeat' (with_reducible (first|refine dj ?_|refine bn ?_ ?_|refine bR (λ_=> ?_) (λ_=> ?_)|refine bS (λ_=> ?_) (λ_=> ?_)|refine bT (λ_=> ?_) (λ_=> ?_)|refine dk ?_|refine dm ?_|refine bU ?_|refine bV (λ_=> ?_) (λ_=> ?_)|refine bp (λ_=> ?_) (λ_=> ?_)|refine bW ?_|refine dn ?_))
 all_goals first|omega|exact⟨by omega,by omega⟩|assumption|with_reducible exact fK (by kernel_rfl)|with_reducible exact fL (by kernel_rfl)|with_reducible exact fN (by kernel_rfl)|with_reducible exact fO (by kernel_rfl)|with_reducible exact fM (by kernel_rfl)|with_reducible exact fp (by kernel_rfl)|exact trivial|rfl|((with_reducible apply h0)<;>first|omega|trivial|omega|(refine⟨?_, ?_⟩<;>omega))
abbrev asx(X:Ctx)(x:AL [gC])(c:aR):Prop:=Safe P 57 X (dc (dZ [gC] bI pe) x) c
theorem asy{Z:aP}:ed P Z 57 (dZ [gC] bI pe):=by
 refine bX func57 (by kernel_rfl) (by kernel_rfl) ?_;rintro⟨(a:Int),⟨⟩⟩ _ _ X hX hz;skip;show asx X (a,()) _;refine go hz hX aQ.Ok.nil func57 (asv a) ?_
 repeat' (with_reducible (first|refine dj ?_|refine bn ?_ ?_|refine bR (λ_=> ?_) (λ_=> ?_)|refine bS (λ_=> ?_) (λ_=> ?_)|refine bT (λ_=> ?_) (λ_=> ?_)|refine dk ?_|refine dm ?_|refine bU ?_|refine bV (λ_=> ?_) (λ_=> ?_)|refine bp (λ_=> ?_) (λ_=> ?_)|refine bW ?_|refine dn ?_))
 all_goals first|omega|exact⟨by omega,by omega⟩|assumption|with_reducible exact fK (by kernel_rfl)|with_reducible exact fL (by kernel_rfl)|with_reducible exact fN (by kernel_rfl)|with_reducible exact fO (by kernel_rfl)|with_reducible exact fM (by kernel_rfl)|with_reducible exact fp (by kernel_rfl)|exact trivial|rfl
abbrev an5(X:Ctx)(x:AL [sS])(c:aR):Prop:=Safe P 76 X (dc (dZ [sS] bI pe) x) c
def vL(X:Ctx)(x:AL [sS])(N:Nat):Prop:=(∀(s1:ByteArray) (i1:Int) (i2:Int) (i3:Int) (i4:Int) (s2:ByteArray) (s3:ByteArray) (s4:ByteArray) (b1:Bool) (r1:Vs) (r2:List ByteArray),992<N->(True)->an5 X x (aeI s1 i1 i2 i3 i4 s2 s3 s4 b1 r1 r2))
set_option maxHeartbeats 16000000 in
theorem apM{Z:aP}{X:Ctx}{x:AL [sS]}(hX:∀id,X.H id=none)(hz:cE Z X):∀N,vL X x N:=by
 intro N
 induction N with
 |zero=>
  unfold vL;intros;omega
 |succ N ih=>
  have h0:=ih;unfold vL at h0;unfold vL;refine λ_ _ _ _ _ _ _ _ _ _ _ hm hi=>go hz hX aeM func76 (apD ..) ?_
  all_goals repeat' (with_reducible (first|refine dj ?_|refine bn ?_ ?_|refine bR (λ_=> ?_) (λ_=> ?_)|refine bS (λ_=> ?_) (λ_=> ?_)|refine bT (λ_=> ?_) (λ_=> ?_)|refine dk ?_|refine dm ?_|refine bU ?_|refine bV (λ_=> ?_) (λ_=> ?_)|refine bp (λ_=> ?_) (λ_=> ?_)|refine bW ?_|refine dn ?_))
  all_goals first|omega|exact⟨by omega,by omega⟩|assumption|with_reducible exact fK (by kernel_rfl)|with_reducible exact fL (by kernel_rfl)|with_reducible exact fN (by kernel_rfl)|with_reducible exact fO (by kernel_rfl)|with_reducible exact fM (by kernel_rfl)|with_reducible exact fp (by kernel_rfl)|exact trivial|rfl|((with_reducible apply h0)<;>first|omega|trivial|omega|(refine⟨?_, ?_⟩<;>omega))
theorem asz{Z:aP}:ed P Z 76 (dZ [sS] bI pe):=by
 refine bX func76 (by kernel_rfl) (by kernel_rfl) ?_;rintro⟨(x:CL cN),⟨⟩⟩ _ _ X hX hz;skip;have h0:=apM (x:=(x,())) hX hz 100000000;unfold vL at h0;show an5 X (x,()) _;refine go hz hX aeM func76 (auI x) ?_
 repeat' (with_reducible (first|refine dj ?_|refine bn ?_ ?_|refine bR (λ_=> ?_) (λ_=> ?_)|refine bS (λ_=> ?_) (λ_=> ?_)|refine bT (λ_=> ?_) (λ_=> ?_)|refine dk ?_|refine dm ?_|refine bU ?_|refine bV (λ_=> ?_) (λ_=> ?_)|refine bp (λ_=> ?_) (λ_=> ?_)|refine bW ?_|refine dn ?_))
 all_goals first|omega|exact⟨by omega,by omega⟩|assumption|with_reducible exact fK (by kernel_rfl)|with_reducible exact fL (by kernel_rfl)|with_reducible exact fN (by kernel_rfl)|with_reducible exact fO (by kernel_rfl)|with_reducible exact fM (by kernel_rfl)|with_reducible exact fp (by kernel_rfl)|exact trivial|rfl|((with_reducible apply h0)<;>first|omega|trivial|omega|(refine⟨?_, ?_⟩<;>omega))
abbrev abA(X:Ctx)(x:AL [pf])(c:aR):Prop:=Safe P 74 X (dc (dZ [pf] ajK pe) x) c
def adj(X:Ctx)(x:AL [pf])(N:Nat):Prop:=(∀(i1:Int) (i2:Int) (i3:Int) (s1:ByteArray),(2*(s1.size - i1)).toNat+10<N->(s1.size<=9223372036854775807/\0<=i1/\i1<=s1.size)->abA X x (zi i1 i2 i3 s1))/\(1<N->(True)->abA X x (ade))/\(∀(i1:Int) (i2:Int) (i3:Int) (s1:ByteArray),(2*(s1.size - i1)).toNat+9<N->(s1.size<=9223372036854775807/\0<=i1/\i1<s1.size)->abA X x (adf i1 i2 i3 s1))/\(∀(i1:Int) (i2:Int) (s1:ByteArray),2<N->(True)->abA X x (adg i1 i2 s1))
set_option maxHeartbeats 16000000 in
theorem apN{Z:aP}{X:Ctx}{x:AL [pf]}(hX:∀id,X.H id=none)(hz:cE Z X):∀N,adj X x N:=by
 intro N
 induction N with
 |zero=>
  unfold adj
  and_intros<;>(intros;omega)
 |succ N ih=>
  have⟨h0,h1,h2,h3⟩:=ih;unfold adj;refine⟨λ_ _ _ _ hm hi=>go hz hX aQ.Ok.nil func74 (amu ..) ?_,λhm hi=>go hz hX aQ.Ok.nil func74 (amv ..) ?_,λ_ _ _ _ hm hi=>go hz hX aQ.Ok.nil func74 (amw ..) ?_,λ_ _ _ hm hi=>go hz hX aQ.Ok.nil func74 (amx ..) ?_⟩
  all_goals repeat' (with_reducible (first|refine dj ?_|refine bn ?_ ?_|refine bR (λ_=> ?_) (λ_=> ?_)|refine bS (λ_=> ?_) (λ_=> ?_)|refine bT (λ_=> ?_) (λ_=> ?_)|refine dk ?_|refine dm ?_|refine bU ?_|refine bV (λ_=> ?_) (λ_=> ?_)|refine bp (λ_=> ?_) (λ_=> ?_)|refine bW ?_|refine dn ?_))
  all_goals first|omega|exact⟨by omega,by omega⟩|assumption|with_reducible exact fK (by kernel_rfl)|with_reducible exact fL (by kernel_rfl)|with_reducible exact fN (by kernel_rfl)|with_reducible exact fO (by kernel_rfl)|with_reducible exact fM (by kernel_rfl)|with_reducible exact fp (by kernel_rfl)|exact trivial|rfl|((with_reducible first|apply h0|apply h1|apply h2|apply h3)<;>first|omega|trivial|omega|(refine⟨?_, ?_⟩<;>omega))
theorem sF{Z:aP}:ed P Z 74 (dZ [pf] ajK pe):=by
 refine bX func74 (by kernel_rfl) (by kernel_rfl) ?_;rintro⟨⟨(a:Int),(b:Int),(t:ByteArray),⟨⟩⟩,⟨⟩⟩ _ ⟨(hw:t.size<=9223372036854775807),_⟩ X hX hz;skip;have⟨h0,h1,h2,h3⟩:=apN (x:=((a,b,t,()),())) hX hz 10000000000000000000000000;show abA X ((a,b,t,()),()) _;refine go hz hX aQ.Ok.nil func74 (auJ a b t) ?_
 repeat' (with_reducible (first|refine dj ?_|refine bn ?_ ?_|refine bR (λ_=> ?_) (λ_=> ?_)|refine bS (λ_=> ?_) (λ_=> ?_)|refine bT (λ_=> ?_) (λ_=> ?_)|refine dk ?_|refine dm ?_|refine bU ?_|refine bV (λ_=> ?_) (λ_=> ?_)|refine bp (λ_=> ?_) (λ_=> ?_)|refine bW ?_|refine dn ?_))
 all_goals first|omega|exact⟨by omega,by omega⟩|assumption|with_reducible exact fK (by kernel_rfl)|with_reducible exact fL (by kernel_rfl)|with_reducible exact fN (by kernel_rfl)|with_reducible exact fO (by kernel_rfl)|with_reducible exact fM (by kernel_rfl)|with_reducible exact fp (by kernel_rfl)|exact trivial|rfl|((with_reducible first|apply h0|apply h1|apply h2|apply h3)<;>first|omega|trivial|omega|(refine⟨?_, ?_⟩<;>omega))
abbrev sG(X:Ctx)(x:AL [pr])(c:aR):Prop:=Safe P 54 X (dc (dZ [pr] (λ(l,())=>[j8 l]) (gS .i64)) x) c
def adk(X:Ctx)(x:AL [pr])(N:Nat):Prop:=(∀(r1:Vs),100000<N->(j8 r1/\r1.length<=8)->sG X x (ajL r1))/\(∀(r1:Vs) (i1:Int),(1000*(10 - i1)).toNat+500<N->(j8 r1/\(r1.length<=8/\0<=i1/\i1<=r1.length))->sG X x (aeJ r1 i1))/\(∀(r1:Vs) (i1:Int),(1000*(10 - i1)).toNat+400<N->(j8 r1/\(r1.length<=8/\0<=i1/\i1<r1.length))->sG X x (ajM r1 i1))/\(0<N->(True)->sG X x (adh))/\(∀(r1:Vs) (i1:Int) (i2:Int),(1000*(10 - i1)+300 - 20*i2).toNat<N->(j8 r1/\(r1.length<=8/\0<=i2/\i2<=i1/\i1<r1.length))->sG X x (aeK r1 i1 i2))/\(∀(r1:Vs) (i1:Int) (i2:Int),(1000*(10 - i1)+290 - 20*i2).toNat<N->(j8 r1/\(r1.length<=8/\0<=i2/\i2<i1/\i1<r1.length))->sG X x (adi r1 i1 i2))/\(∀(r1:Vs) (i1:Int),(1000*(10 - i1)).toNat+10<N->(j8 r1/\(r1.length<=8/\0<=i1/\i1<r1.length))->sG X x (ajN r1 i1))
set_option maxHeartbeats 16000000 in
theorem apO{Z:aP}{X:Ctx}{x:AL [pr]}(hX:∀id,X.H id=none)(hz:cE Z X):∀N,adk X x N:=by
 intro N
 induction N with
 |zero=>
  unfold adk
  and_intros<;>(intros;omega)
 |succ N ih=>
  have⟨h0,h1,h2,h3,h4,h5,h6⟩:=ih;unfold adk;refine⟨λ_ hm hi=>go hz hX (aQ.Ok.cons (ic.sum (fo [bg])) (aQ.Ok.cons (sF.sum (fo [pf])) aQ.Ok.nil)) func54 (apE ..) ?_,λ_ _ hm hi=>go hz hX (aQ.Ok.cons (ic.sum (fo [bg])) (aQ.Ok.cons (sF.sum (fo [pf])) aQ.Ok.nil)) func54 (apF ..) ?_,λ_ _ hm hi=>go hz hX (aQ.Ok.cons (ic.sum (fo [bg])) (aQ.Ok.cons (sF.sum (fo [pf])) aQ.Ok.nil)) func54 (apG ..) ?_,λhm hi=>go hz hX (aQ.Ok.cons (ic.sum (fo [bg])) (aQ.Ok.cons (sF.sum (fo [pf])) aQ.Ok.nil)) func54 (amy ..) ?_,λ_ _ _ hm hi=>go hz hX (aQ.Ok.cons (ic.sum (fo [bg])) (aQ.Ok.cons (sF.sum (fo [pf])) aQ.Ok.nil)) func54 (apH ..) ?_,λ_ _ _ hm hi=>go hz hX (aQ.Ok.cons (ic.sum (fo [bg])) (aQ.Ok.cons (sF.sum (fo [pf])) aQ.Ok.nil)) func54 (amz ..) ?_,λ_ _ hm hi=>go hz hX (aQ.Ok.cons (ic.sum (fo [bg])) (aQ.Ok.cons (sF.sum (fo [pf])) aQ.Ok.nil)) func54 (apI ..) ?_⟩
  all_goals try have⟨hw,hi⟩:=hi
  all_goals repeat' (with_reducible (first|refine dj ?_|refine bn ?_ ?_|refine bR (λ_=> ?_) (λ_=> ?_)|refine bS (λ_=> ?_) (λ_=> ?_)|refine bT (λ_=> ?_) (λ_=> ?_)|refine dk ?_|refine dm ?_|refine bU ?_|refine bV (λ_=> ?_) (λ_=> ?_)|refine bp (λ_=> ?_) (λ_=> ?_)|refine bW ?_|refine dn ?_))
  all_goals first|omega|exact⟨by omega,by omega⟩|assumption|with_reducible exact fK (by kernel_rfl)|with_reducible exact fL (by kernel_rfl)|with_reducible exact fN (by kernel_rfl)|with_reducible exact fO (by kernel_rfl)|with_reducible exact fM (by kernel_rfl)|with_reducible exact fp (by kernel_rfl)|exact trivial|rfl|exact hw.el _|((with_reducible first|apply h0|apply h1|apply h2|apply h3|apply h4|apply h5|apply h6)<;>first|omega|exact trivial|exact⟨hw,by omega⟩)
theorem oH{Z:aP}:ed P Z 54 (dZ [pr] (λ(l,())=>[j8 l]) (gS .i64)):=by
 refine bX func54 (by kernel_rfl) (by kernel_rfl) ?_;rintro⟨(l:Vs),⟨⟩⟩ _ ⟨(hw:j8 l),_⟩ X hX hz;skip;have⟨h0,h1,h2,h3,h4,h5,h6⟩:=apO (x:=(l,())) hX hz 100000000;show sG X (l,()) _;refine go hz hX (aQ.Ok.cons (ic.sum (fo [bg])) (aQ.Ok.cons (sF.sum (fo [pf])) aQ.Ok.nil)) func54 (auK l) ?_
 repeat' (with_reducible (first|refine dj ?_|refine bn ?_ ?_|refine bR (λ_=> ?_) (λ_=> ?_)|refine bS (λ_=> ?_) (λ_=> ?_)|refine bT (λ_=> ?_) (λ_=> ?_)|refine dk ?_|refine dm ?_|refine bU ?_|refine bV (λ_=> ?_) (λ_=> ?_)|refine bp (λ_=> ?_) (λ_=> ?_)|refine bW ?_|refine dn ?_))
 all_goals first|omega|exact⟨by omega,by omega⟩|assumption|with_reducible exact fK (by kernel_rfl)|with_reducible exact fL (by kernel_rfl)|with_reducible exact fN (by kernel_rfl)|with_reducible exact fO (by kernel_rfl)|with_reducible exact fM (by kernel_rfl)|with_reducible exact fp (by kernel_rfl)|exact trivial|rfl|exact hw.el _|((with_reducible first|apply h0|apply h1|apply h2|apply h3|apply h4|apply h5|apply h6)<;>first|omega|exact trivial|exact⟨hw,by omega⟩)
abbrev ajQ(X:Ctx)(x:AL [tFl])(c:aR):Prop:=Safe P 56 X (dc (dZ [tFl] bI (gS .i64)) x) c
def adl(X:Ctx)(x:AL [tFl])(N:Nat):Prop:=(∀(i1:Int) (i2:Int) (s1:ByteArray) (b1:Bool),997<N->(True)->ajQ X x (ajP i1 i2 s1 b1))/\(995<N->(True)->ajQ X x (aeL))
set_option maxHeartbeats 16000000 in
theorem apP{Z:aP}{X:Ctx}{x:AL [tFl]}(hX:∀id,X.H id=none)(hz:cE Z X):∀N,adl X x N:=by
 intro N
 induction N with
 |zero=>
  unfold adl
  and_intros<;>(intros;omega)
 |succ N ih=>
  have⟨h0,h1⟩:=ih;unfold adl;refine⟨λ_ _ _ _ hm hi=>go hz hX aQ.Ok.nil func56 (apJ ..) ?_,λhm hi=>go hz hX aQ.Ok.nil func56 (apK ..) ?_⟩
  all_goals repeat' (with_reducible (first|refine dj ?_|refine bn ?_ ?_|refine bR (λ_=> ?_) (λ_=> ?_)|refine bS (λ_=> ?_) (λ_=> ?_)|refine bT (λ_=> ?_) (λ_=> ?_)|refine dk ?_|refine dm ?_|refine bU ?_|refine bV (λ_=> ?_) (λ_=> ?_)|refine bp (λ_=> ?_) (λ_=> ?_)|refine bW ?_|refine dn ?_))
  all_goals first|omega|exact⟨by omega,by omega⟩|assumption|with_reducible exact fK (by kernel_rfl)|with_reducible exact fL (by kernel_rfl)|with_reducible exact fN (by kernel_rfl)|with_reducible exact fO (by kernel_rfl)|with_reducible exact fM (by kernel_rfl)|with_reducible exact fp (by kernel_rfl)|exact trivial|rfl|((with_reducible first|apply h0|apply h1)<;>first|omega|trivial|omega|(refine⟨?_, ?_⟩<;>omega))
theorem qn{Z:aP}:ed P Z 56 (dZ [tFl] bI (gS .i64)):=by
 refine bX func56 (by kernel_rfl) (by kernel_rfl) ?_;rintro⟨⟨(a:Int),(b:Int),(t:ByteArray),(e:Bool),⟨⟩⟩,⟨⟩⟩ _ _ X hX hz;skip;have⟨h0,h1⟩:=apP (x:=((a,b,t,e,()),())) hX hz 100000000;show ajQ X ((a,b,t,e,()),()) _;refine go hz hX aQ.Ok.nil func56 (auL a b t e) ?_
 repeat' (with_reducible (first|refine dj ?_|refine bn ?_ ?_|refine bR (λ_=> ?_) (λ_=> ?_)|refine bS (λ_=> ?_) (λ_=> ?_)|refine bT (λ_=> ?_) (λ_=> ?_)|refine dk ?_|refine dm ?_|refine bU ?_|refine bV (λ_=> ?_) (λ_=> ?_)|refine bp (λ_=> ?_) (λ_=> ?_)|refine bW ?_|refine dn ?_))
 all_goals first|omega|exact⟨by omega,by omega⟩|assumption|with_reducible exact fK (by kernel_rfl)|with_reducible exact fL (by kernel_rfl)|with_reducible exact fN (by kernel_rfl)|with_reducible exact fO (by kernel_rfl)|with_reducible exact fM (by kernel_rfl)|with_reducible exact fp (by kernel_rfl)|exact trivial|rfl|((with_reducible first|apply h0|apply h1)<;>first|omega|trivial|omega|(refine⟨?_, ?_⟩<;>omega))
abbrev sNm:=eZ [bg] bI pe
abbrev asA:AL [pr]->List Prop:=λ(l,())=>[j8 l]
abbrev sVr:=eZ [pr] asA (gS .i64)
def pg:aQ:=[(53,sNm),(75,eZ [gC,gC] bI pe),(76,eZ [sS] bI pe),(57,eZ [gC] bI pe),(54,sVr)]
abbrev ajR:AL [sS]->List Prop:=λ(x,())=>[j8 (nV x)]
def zj:aQ:=[(53,sNm),(54,sVr),(55,eZ [sS] ajR (gS .i64)),(56,eZ [tFl] bI (gS .i64))]
def wNs(l:Ns):Prop:=∀x∈l,j8 (nV x)
abbrev ajS:AL [dF]->List Prop:=λ((_,vs,ns,_,()),())=>[j8 vs,wNs ns]
def tg(ns:Ns)(n:Int):Int:=if nI (el ns n)<0 then -1 else if nI (el ns n)>=n then -1 else nI (el ns n)
def fe:List (Nat×Norm):=[(3,⟨[],[1],0,[]⟩),(5,⟨[],[1],0,[]⟩),(7,⟨[],[1],0,[]⟩),(10,⟨[],[1],0,[]⟩),(12,⟨[],[1],0,[]⟩),(15,⟨[],[1],0,[]⟩),(17,⟨[],[1],0,[]⟩),(18,⟨[],[1,5],0,[]⟩),(19,⟨[],[1,5],0,[]⟩),(22,⟨[],[1,5],0,[]⟩),(23,⟨[],[1,5,6],0,[]⟩),(24,⟨[],[1,5,6],0,[]⟩),(27,⟨[],[1],0,[]⟩)]
def zk(s1:ByteArray)(i1:Int)(i2:Int)(i3:Int)(i4:Int)(s2:ByteArray)(s3:ByteArray)(s4:ByteArray)(b1:Bool)(r1:Vs)(r2:List ByteArray):aR:=⟨sl 198 [(1,(.ptr 0 0))],[(.ad [(.s (.str s1)),(.s (.int .u8 i1)),(.s (.int .i64 i2)),(.s (.int .i64 i3)),(.s (.int .u8 i4)),(.s (.str s2)),(.s (.str s3)),(.s (.str s4)),(.s (.bool b1)),(.s (.ro (.ab cV r1))),(.s (.ro (.strs r2)))] 40)],(hr f55 3),(bt.mk none false 0 [] 0)⟩
def zl(s1:ByteArray)(i1:Int)(i2:Int)(i3:Int)(i4:Int)(s2:ByteArray)(s3:ByteArray)(s4:ByteArray)(b1:Bool)(r1:Vs)(r2:List ByteArray):aR:=⟨sl 198 [(1,(.ptr 0 0))],[(.ad [(.s (.str s1)),(.s (.int .u8 i1)),(.s (.int .i64 i2)),(.s (.int .i64 i3)),(.s (.int .u8 i4)),(.s (.str s2)),(.s (.str s3)),(.s (.str s4)),(.s (.bool b1)),(.s (.ro (.ab cV r1))),(.s (.ro (.strs r2)))] 40)],(hr f55 5),(bt.mk none false 0 [] 0)⟩
def nX(s1:ByteArray)(i1:Int)(i2:Int)(i3:Int)(i4:Int)(s2:ByteArray)(s3:ByteArray)(s4:ByteArray)(b1:Bool)(r1:Vs)(r2:List ByteArray):aR:=⟨sl 198 [(1,(.ptr 0 0))],[(.ad [(.s (.str s1)),(.s (.int .u8 i1)),(.s (.int .i64 i2)),(.s (.int .i64 i3)),(.s (.int .u8 i4)),(.s (.str s2)),(.s (.str s3)),(.s (.str s4)),(.s (.bool b1)),(.s (.ro (.ab cV r1))),(.s (.ro (.strs r2)))] 40)],(hr f55 7),(bt.mk none false 0 [] 0)⟩
def lL(s1:ByteArray)(i1:Int)(i2:Int)(i3:Int)(i4:Int)(s2:ByteArray)(s3:ByteArray)(s4:ByteArray)(b1:Bool)(r1:Vs)(r2:List ByteArray):aR:=⟨sl 198 [(1,(.ptr 0 0))],[(.ad [(.s (.str s1)),(.s (.int .u8 i1)),(.s (.int .i64 i2)),(.s (.int .i64 i3)),(.s (.int .u8 i4)),(.s (.str s2)),(.s (.str s3)),(.s (.str s4)),(.s (.bool b1)),(.s (.ro (.ab cV r1))),(.s (.ro (.strs r2)))] 40)],(hr f55 10),(bt.mk none false 0 [] 0)⟩
def lM(s1:ByteArray)(i1:Int)(i2:Int)(i3:Int)(i4:Int)(s2:ByteArray)(s3:ByteArray)(s4:ByteArray)(b1:Bool)(r1:Vs)(r2:List ByteArray):aR:=⟨sl 198 [(1,(.ptr 0 0))],[(.ad [(.s (.str s1)),(.s (.int .u8 i1)),(.s (.int .i64 i2)),(.s (.int .i64 i3)),(.s (.int .u8 i4)),(.s (.str s2)),(.s (.str s3)),(.s (.str s4)),(.s (.bool b1)),(.s (.ro (.ab cV r1))),(.s (.ro (.strs r2)))] 40)],(hr f55 12),(bt.mk none false 0 [] 0)⟩
def ct(s1:ByteArray)(i1:Int)(i2:Int)(i3:Int)(i4:Int)(s2:ByteArray)(s3:ByteArray)(s4:ByteArray)(b1:Bool)(r1:Vs)(r2:List ByteArray):aR:=⟨sl 198 [(1,(.ptr 0 0))],[(.ad [(.s (.str s1)),(.s (.int .u8 i1)),(.s (.int .i64 i2)),(.s (.int .i64 i3)),(.s (.int .u8 i4)),(.s (.str s2)),(.s (.str s3)),(.s (.str s4)),(.s (.bool b1)),(.s (.ro (.ab cV r1))),(.s (.ro (.strs r2)))] 40)],(hr f55 15),(bt.mk none false 0 [] 0)⟩
def lN(s1:ByteArray)(i1:Int)(i2:Int)(i3:Int)(i4:Int)(s2:ByteArray)(s3:ByteArray)(s4:ByteArray)(b1:Bool)(r1:Vs)(r2:List ByteArray):aR:=⟨sl 198 [(1,(.ptr 0 0))],[(.ad [(.s (.str s1)),(.s (.int .u8 i1)),(.s (.int .i64 i2)),(.s (.int .i64 i3)),(.s (.int .u8 i4)),(.s (.str s2)),(.s (.str s3)),(.s (.str s4)),(.s (.bool b1)),(.s (.ro (.ab cV r1))),(.s (.ro (.strs r2)))] 40)],(hr f55 17),(bt.mk none false 0 [] 0)⟩
def qo(i1:Int)(s1:ByteArray)(i2:Int)(i3:Int)(i4:Int)(i5:Int)(s2:ByteArray)(s3:ByteArray)(s4:ByteArray)(b1:Bool)(r1:Vs)(r2:List ByteArray):aR:=⟨sl 198 [(1,(.ptr 0 0)),(5,(.s (.int .i64 i1)))],[(.ad [(.s (.str s1)),(.s (.int .u8 i2)),(.s (.int .i64 i3)),(.s (.int .i64 i4)),(.s (.int .u8 i5)),(.s (.str s2)),(.s (.str s3)),(.s (.str s4)),(.s (.bool b1)),(.s (.ro (.ab cV r1))),(.s (.ro (.strs r2)))] 40)],(hd f55 18),(bt.mk none false 0 [] 0)⟩
def vM(i1:Int)(s1:ByteArray)(i2:Int)(i3:Int)(i4:Int)(i5:Int)(s2:ByteArray)(s3:ByteArray)(s4:ByteArray)(b1:Bool)(r1:Vs)(r2:List ByteArray):aR:=⟨sl 198 [(1,(.ptr 0 0)),(5,(.s (.int .i64 i1)))],[(.ad [(.s (.str s1)),(.s (.int .u8 i2)),(.s (.int .i64 i3)),(.s (.int .i64 i4)),(.s (.int .u8 i5)),(.s (.str s2)),(.s (.str s3)),(.s (.str s4)),(.s (.bool b1)),(.s (.ro (.ab cV r1))),(.s (.ro (.strs r2)))] 40)],(hr f55 22),(bt.mk none false 0 [] 0)⟩
def vO(s1:ByteArray)(i1:Int)(i2:Int)(i3:Int)(i4:Int)(s2:ByteArray)(s3:ByteArray)(s4:ByteArray)(b1:Bool)(r1:Vs)(r2:List ByteArray):aR:=⟨sl 198 [(1,(.ptr 0 0))],[(.ad [(.s (.str s1)),(.s (.int .u8 i1)),(.s (.int .i64 i2)),(.s (.int .i64 i3)),(.s (.int .u8 i4)),(.s (.str s2)),(.s (.str s3)),(.s (.str s4)),(.s (.bool b1)),(.s (.ro (.ab cV r1))),(.s (.ro (.strs r2)))] 40)],(hr f55 27),(bt.mk none false 0 [] 0)⟩
def qp(i1:Int)(i2:Int)(s1:ByteArray)(i3:Int)(i4:Int)(i5:Int)(i6:Int)(s2:ByteArray)(s3:ByteArray)(s4:ByteArray)(b1:Bool)(r1:Vs)(r2:List ByteArray):aR:=⟨sl 198 [(1,(.ptr 0 0)),(5,(.s (.int .i64 i1))),(6,(.s (.int .i64 i2)))],[(.ad [(.s (.str s1)),(.s (.int .u8 i3)),(.s (.int .i64 i4)),(.s (.int .i64 i5)),(.s (.int .u8 i6)),(.s (.str s2)),(.s (.str s3)),(.s (.str s4)),(.s (.bool b1)),(.s (.ro (.ab cV r1))),(.s (.ro (.strs r2)))] 40)],(hd f55 23),(bt.mk none false 0 [] 0)⟩
def vP(i1:Int)(i2:Int)(s1:ByteArray)(i3:Int)(i4:Int)(i5:Int)(i6:Int)(s2:ByteArray)(s3:ByteArray)(s4:ByteArray)(b1:Bool)(r1:Vs)(r2:List ByteArray):aR:=⟨sl 198 [(1,(.ptr 0 0)),(5,(.s (.int .i64 i1))),(6,(.s (.int .i64 i2)))],[(.ad [(.s (.str s1)),(.s (.int .u8 i3)),(.s (.int .i64 i4)),(.s (.int .i64 i5)),(.s (.int .u8 i6)),(.s (.str s2)),(.s (.str s3)),(.s (.str s4)),(.s (.bool b1)),(.s (.ro (.ab cV r1))),(.s (.ro (.strs r2)))] 40)],(hr f55 24),(bt.mk none false 0 [] 0)⟩
def vQ(i1:Int)(s1:ByteArray)(i2:Int)(i3:Int)(i4:Int)(i5:Int)(s2:ByteArray)(s3:ByteArray)(s4:ByteArray)(b1:Bool)(r1:Vs)(r2:List ByteArray):aR:=⟨sl 198 [(1,(.ptr 0 0)),(5,(.s (.int .i64 i1)))],[(.ad [(.s (.str s1)),(.s (.int .u8 i2)),(.s (.int .i64 i3)),(.s (.int .i64 i4)),(.s (.int .u8 i5)),(.s (.str s2)),(.s (.str s3)),(.s (.str s4)),(.s (.bool b1)),(.s (.ro (.ab cV r1))),(.s (.ro (.strs r2)))] 40)],(hr f55 19),(bt.mk none false 0 [] 0)⟩
def jA:List (Nat×Norm):=[(3,⟨[],[1],0,[]⟩),(5,⟨[],[1],0,[]⟩),(7,⟨[],[1,3,4],0,[]⟩),(8,⟨[],[1,3,4],0,[]⟩),(10,⟨[],[1,3],0,[]⟩),(11,⟨[],[1,3,5],0,[]⟩),(12,⟨[],[1,3,5],0,[]⟩),(14,⟨[],[3],0,[]⟩)]
def zm(s1:ByteArray)(r1:Vs)(r2:Ns)(r3:Fs):aR:=⟨sl 64 [(1,(.ptr 0 0))],[(.ad [(.s (.str s1)),(.s (.ro (.ab cV r1))),(.s (.ro (.ab cN r2))),(.s (.ro (.ab cF r3)))] 30)],(hr f34 3),(bt.mk none false 0 [] 0)⟩
def zn(s1:ByteArray)(r1:Vs)(r2:Ns)(r3:Fs):aR:=⟨sl 64 [(1,(.ptr 0 0))],[(.ad [(.s (.str s1)),(.s (.ro (.ab cV r1))),(.s (.ro (.ab cN r2))),(.s (.ro (.ab cF r3)))] 30)],(hr f34 5),(bt.mk none false 0 [] 0)⟩
def th(i1:Int)(s1:ByteArray)(r1:Vs)(r2:Ns)(r3:Fs):aR:=⟨sl 64 [(1,(.ptr 0 0)),(3,(.s (.ax .i64))),(4,(.s (.int .i64 i1)))],[(.ad [(.s (.str s1)),(.s (.ro (.ab cV r1))),(.s (.ro (.ab cN r2))),(.s (.ro (.ab cF r3)))] 30)],(hd f34 7),(bt.mk none false 0 [] 0)⟩
def zo(i1:Int)(s1:ByteArray)(r1:Vs)(r2:Ns)(r3:Fs):aR:=⟨sl 64 [(1,(.ptr 0 0)),(3,(.s (.ax .i64))),(4,(.s (.int .i64 i1)))],[(.ad [(.s (.str s1)),(.s (.ro (.ab cV r1))),(.s (.ro (.ab cN r2))),(.s (.ro (.ab cF r3)))] 30)],(hr f34 8),(bt.mk none false 0 [] 0)⟩
def qq(s1:ByteArray)(r1:Vs)(r2:Ns)(r3:Fs):aR:=⟨sl 64 [(1,(.ptr 0 0)),(3,(.s (.ax .i64)))],[(.ad [(.s (.str s1)),(.s (.ro (.ab cV r1))),(.s (.ro (.ab cN r2))),(.s (.ro (.ab cF r3)))] 30)],(hr f34 10),(bt.mk none false 0 [] 0)⟩
def qs(i1:Int)(s1:ByteArray)(r1:Vs)(r2:Ns)(r3:Fs):aR:=⟨sl 64 [(1,(.ptr 0 0)),(3,(.s (.ax .i64))),(5,(.s (.int .i64 i1)))],[(.ad [(.s (.str s1)),(.s (.ro (.ab cV r1))),(.s (.ro (.ab cN r2))),(.s (.ro (.ab cF r3)))] 30)],(hd f34 11),(bt.mk none false 0 [] 0)⟩
def vR(i1:Int)(s1:ByteArray)(r1:Vs)(r2:Ns)(r3:Fs):aR:=⟨sl 64 [(1,(.ptr 0 0)),(3,(.s (.ax .i64))),(5,(.s (.int .i64 i1)))],[(.ad [(.s (.str s1)),(.s (.ro (.ab cV r1))),(.s (.ro (.ab cN r2))),(.s (.ro (.ab cF r3)))] 30)],(hr f34 12),(bt.mk none false 0 [] 0)⟩
def qt:aR:=⟨sl 64 [(3,(.s (.ax .i64)))],[],(hr f34 14),(bt.mk none false 0 [] 0)⟩
def ti:List (Nat×Norm):=[(3,⟨[],[1,2,5,6],0,[]⟩),(4,⟨[],[1,2,5,6],0,[]⟩),(7,⟨[],[5],0,[]⟩)]
def tj(i1:Int)(i2:Int)(i3:Int)(s1:ByteArray)(r1:Vs)(r2:Ns)(r3:Fs):aR:=⟨sl 25 [(1,(.s (.int .i64 i1))),(2,(.ptr 0 0)),(5,(.s (.int .i64 i2))),(6,(.s (.int .i64 i3)))],[(.ad [(.s (.str s1)),(.s (.ro (.ab cV r1))),(.s (.ro (.ab cN r2))),(.s (.ro (.ab cF r3)))] 30)],(hd f61 3),(bt.mk none false 0 [] 0)⟩
def tk(i1:Int)(i2:Int)(i3:Int)(s1:ByteArray)(r1:Vs)(r2:Ns)(r3:Fs):aR:=⟨sl 25 [(1,(.s (.int .i64 i1))),(2,(.ptr 0 0)),(5,(.s (.int .i64 i2))),(6,(.s (.int .i64 i3)))],[(.ad [(.s (.str s1)),(.s (.ro (.ab cV r1))),(.s (.ro (.ab cN r2))),(.s (.ro (.ab cF r3)))] 30)],(hr f61 4),(bt.mk none false 0 [] 0)⟩
def zp(i1:Int):aR:=⟨sl 25 [(5,(.s (.int .i64 i1)))],[],(hr f61 7),(bt.mk none false 0 [] 0)⟩
def tm:List (Nat×Norm):=[(3,⟨[],[1,2,5,6],0,[]⟩),(4,⟨[],[1,2,5,6],0,[]⟩),(7,⟨[],[5],0,[]⟩)]
def tn(i1:Int)(i2:Int)(i3:Int)(s1:ByteArray)(r1:Vs)(r2:Ns)(r3:Fs):aR:=⟨sl 25 [(1,(.s (.int .i64 i1))),(2,(.ptr 0 0)),(5,(.s (.int .i64 i2))),(6,(.s (.int .i64 i3)))],[(.ad [(.s (.str s1)),(.s (.ro (.ab cV r1))),(.s (.ro (.ab cN r2))),(.s (.ro (.ab cF r3)))] 30)],(hd f60 3),(bt.mk none false 0 [] 0)⟩
def tp(i1:Int)(i2:Int)(i3:Int)(s1:ByteArray)(r1:Vs)(r2:Ns)(r3:Fs):aR:=⟨sl 25 [(1,(.s (.int .i64 i1))),(2,(.ptr 0 0)),(5,(.s (.int .i64 i2))),(6,(.s (.int .i64 i3)))],[(.ad [(.s (.str s1)),(.s (.ro (.ab cV r1))),(.s (.ro (.ab cN r2))),(.s (.ro (.ab cF r3)))] 30)],(hr f60 4),(bt.mk none false 0 [] 0)⟩
def zq(i1:Int):aR:=⟨sl 25 [(5,(.s (.int .i64 i1)))],[],(hr f60 7),(bt.mk none false 0 [] 0)⟩
def tq:List (Nat×Norm):=[(2,⟨[],[0,1,5],0,[]⟩),(3,⟨[],[0,1,5],0,[]⟩),(6,⟨[],[],0,[]⟩)]
def tu(r1:Vs)(s1:ByteArray)(i1:Int):aR:=⟨sl 25 [(0,(.s (.ro (.ab cV r1)))),(1,(.s (.str s1))),(5,(.s (.int .i64 i1)))],[],(hd f62 2),(bt.mk none false 0 [] 0)⟩
def zr(r1:Vs)(s1:ByteArray)(i1:Int):aR:=⟨sl 25 [(0,(.s (.ro (.ab cV r1)))),(1,(.s (.str s1))),(5,(.s (.int .i64 i1)))],[],(hr f62 3),(bt.mk none false 0 [] 0)⟩
def zt:aR:=⟨sl 25 [],[],(hr f62 6),(bt.mk none false 0 [] 0)⟩
theorem apQ(a:ByteArray)(vs:Vs)(ns:Ns)(fs:Fs)(n:Int):run P bE.sum f58 [] (start f58 [jy a vs ns fs,aT n] [])=
 Tree.ite (decide (n>=0)) (.ret [.ad [.s (.str a),.s (.ro (.ab cV vs)),.s (.ro (.ab cN ns)),.s (.ro (.ab cF fs))] 30] (.s (.bool (decide (n<(↑(List.length ns):Int)))))) (.ret [.ad [.s (.str a),.s (.ro (.ab cV vs)),.s (.ro (.ab cN ns)),.s (.ro (.ab cF fs))] 30] (.s (.ao false))):=by kernel_rfl
theorem apR(a:ByteArray)(vs:Vs)(ns:Ns)(fs:Fs)(n:Int):run P bE.sum f65 [] (start f65 [jy a vs ns fs,aT n] [])=
 Tree.aa ((0:Int)<=n) (.aa (n<(↑(List.length ns):Int)) (.ite (decide (nI (el ns n)<0)) (.ret [.ad [.s (.str a),.s (.ro (.ab cV vs)),.s (.ro (.ab cN ns)),.s (.ro (.ab cF fs))] 30] (.s (.aq .i64 (-1)))) (.ite (decide (nI (el ns n)>=n)) (.ret [.ad [.s (.str a),.s (.ro (.ab cV vs)),.s (.ro (.ab cN ns)),.s (.ro (.ab cF fs))] 30] (.s (.aq .i64 (-1)))) (.ret [.ad [.s (.str a),.s (.ro (.ab cV vs)),.s (.ro (.ab cN ns)),.s (.ro (.ab cF fs))] 30] (aT (nI (el ns n))))))):=by kernel_rfl
theorem apS(x:CL cN):run P pg.sum f55 fe (start f55 [ao5 x] [])=
 Tree.ite (decide ((↑(nT x).size:Int)>100)) (.ret [.ad [.s (.str (nN x)),.s (.int .u8 (nK x)),.s (.int .i64 (nI x)),.s (.int .i64 (nO x)),.s (.int .u8 (nE x)),.s (.str (nY x)),.s (.str (nT x)),.s (.str (nS x)),.s (.bool (nB x)),.s (.ro (.ab cV (nV x))),.s (.ro (.strs (nZ x)))] 40] (.s (.aq .i64 40))) (.ite (decide ((↑(nV x).length:Int)>8)) (.ret [.ad [.s (.str (nN x)),.s (.int .u8 (nK x)),.s (.int .i64 (nI x)),.s (.int .i64 (nO x)),.s (.int .u8 (nE x)),.s (.str (nY x)),.s (.str (nT x)),.s (.str (nS x)),.s (.bool (nB x)),.s (.ro (.ab cV (nV x))),.s (.ro (.strs (nZ x)))] 40] (.s (.aq .i64 40))) (.ite (decide ((↑(nZ x).length:Int)>8)) (.ret [.ad [.s (.str (nN x)),.s (.int .u8 (nK x)),.s (.int .i64 (nI x)),.s (.int .i64 (nO x)),.s (.int .u8 (nE x)),.s (.str (nY x)),.s (.str (nT x)),.s (.str (nS x)),.s (.bool (nB x)),.s (.ro (.ab cV (nV x))),.s (.ro (.strs (nZ x)))] 40] (.s (.aq .i64 40))) (.at (zk (nN x) (nK x) (nI x) (nO x) (nE x) (nY x) (nT x) (nS x) (nB x) (nV x) (nZ x))))):=by kernel_rfl
theorem ajT(s1:ByteArray)(i1:Int)(i2:Int)(i3:Int)(i4:Int)(s2:ByteArray)(s3:ByteArray)(s4:ByteArray)(b1:Bool)(r1:Vs)(r2:List ByteArray):run P pg.sum f55 fe (zk s1 i1 i2 i3 i4 s2 s3 s4 b1 r1 r2)=
 Tree.aa (bN (some [AV.s (.str s1)])) (.aa ba (.both True ((0:Nat)=0) (.ret [.ad [.s (.str s1),.s (.int .u8 i1),.s (.int .i64 i2),.s (.int .i64 i3),.s (.int .u8 i4),.s (.str s2),.s (.str s3),.s (.str s4),.s (.bool b1),.s (.ro (.ab cV r1)),.s (.ro (.strs r2))] 40] (.s (.aq .i64 4))) (.ite (decide (i2<(-1))) (.ret [.ad [.s (.str s1),.s (.int .u8 i1),.s (.int .i64 i2),.s (.int .i64 i3),.s (.int .u8 i4),.s (.str s2),.s (.str s3),.s (.str s4),.s (.bool b1),.s (.ro (.ab cV r1)),.s (.ro (.strs r2))] 40] (.s (.aq .i64 4))) (.aa (bN (some [AV.s (.int .u8 i1),.s (.int .u8 i4)])) (.aa ba (.both True ((0:Nat)=0) (.ret [.ad [.s (.str s1),.s (.int .u8 i1),.s (.int .i64 i2),.s (.int .i64 i3),.s (.int .u8 i4),.s (.str s2),.s (.str s3),.s (.str s4),.s (.bool b1),.s (.ro (.ab cV r1)),.s (.ro (.strs r2))] 40] (.s (.aq .i64 4))) (.aa (bN (some [AV.agg [.s (.str s1),.s (.int .u8 i1),.s (.int .i64 i2),.s (.int .i64 i3),.s (.int .u8 i4),.s (.str s2),.s (.str s3),.s (.str s4),.s (.bool b1),.s (.ro (.ab cV r1)),.s (.ro (.strs r2))]])) (.aa ba (.both True ((0:Nat)=0) (.ret [.ad [.s (.str s1),.s (.int .u8 i1),.s (.int .i64 i2),.s (.int .i64 i3),.s (.int .u8 i4),.s (.str s2),.s (.str s3),.s (.str s4),.s (.bool b1),.s (.ro (.ab cV r1)),.s (.ro (.strs r2))] 40] (.s (.aq .i64 4))) (.at (zl s1 i1 i2 i3 i4 s2 s3 s4 b1 r1 r2))))))))))):=by kernel_rfl
theorem ajU(s1:ByteArray)(i1:Int)(i2:Int)(i3:Int)(i4:Int)(s2:ByteArray)(s3:ByteArray)(s4:ByteArray)(b1:Bool)(r1:Vs)(r2:List ByteArray):run P pg.sum f55 fe (zl s1 i1 i2 i3 i4 s2 s3 s4 b1 r1 r2)=
 Tree.ite (i1==15) (.ite (decide (i3<0)) (.ret [.ad [.s (.str s1),.s (.int .u8 i1),.s (.int .i64 i2),.s (.int .i64 i3),.s (.int .u8 i4),.s (.str s2),.s (.str s3),.s (.str s4),.s (.bool b1),.s (.ro (.ab cV r1)),.s (.ro (.strs r2))] 40] (.s (.aq .i64 4))) (.ite (i1 !=15) (.ite (i3 !=(-1)) (.ret [.ad [.s (.str s1),.s (.int .u8 i1),.s (.int .i64 i2),.s (.int .i64 i3),.s (.int .u8 i4),.s (.str s2),.s (.str s3),.s (.str s4),.s (.bool b1),.s (.ro (.ab cV r1)),.s (.ro (.strs r2))] 40] (.s (.aq .i64 4))) (.at (nX s1 i1 i2 i3 i4 s2 s3 s4 b1 r1 r2))) (.at (nX s1 i1 i2 i3 i4 s2 s3 s4 b1 r1 r2)))) (.ite (i1 !=15) (.ite (i3 !=(-1)) (.ret [.ad [.s (.str s1),.s (.int .u8 i1),.s (.int .i64 i2),.s (.int .i64 i3),.s (.int .u8 i4),.s (.str s2),.s (.str s3),.s (.str s4),.s (.bool b1),.s (.ro (.ab cV r1)),.s (.ro (.strs r2))] 40] (.s (.aq .i64 4))) (.at (nX s1 i1 i2 i3 i4 s2 s3 s4 b1 r1 r2))) (.at (nX s1 i1 i2 i3 i4 s2 s3 s4 b1 r1 r2))):=by kernel_rfl
theorem ajV(s1:ByteArray)(i1:Int)(i2:Int)(i3:Int)(i4:Int)(s2:ByteArray)(s3:ByteArray)(s4:ByteArray)(b1:Bool)(r1:Vs)(r2:List ByteArray):run P pg.sum f55 fe (nX s1 i1 i2 i3 i4 s2 s3 s4 b1 r1 r2)=
 Tree.ite (i1==4) (.ite (!true== !decide (s3=empty)) (.ret [.ad [.s (.str s1),.s (.int .u8 i1),.s (.int .i64 i2),.s (.int .i64 i3),.s (.int .u8 i4),.s (.str s2),.s (.str s3),.s (.str s4),.s (.bool b1),.s (.ro (.ab cV r1)),.s (.ro (.strs r2))] 40] (.s (.aq .i64 4))) (.at (lL s1 i1 i2 i3 i4 s2 s3 s4 b1 r1 r2))) (.ite (i1==12) (.ite (!true== !decide (s3=empty)) (.ret [.ad [.s (.str s1),.s (.int .u8 i1),.s (.int .i64 i2),.s (.int .i64 i3),.s (.int .u8 i4),.s (.str s2),.s (.str s3),.s (.str s4),.s (.bool b1),.s (.ro (.ab cV r1)),.s (.ro (.strs r2))] 40] (.s (.aq .i64 4))) (.at (lL s1 i1 i2 i3 i4 s2 s3 s4 b1 r1 r2))) (.ite (i4==2) (.ite (!true== !decide (s3=empty)) (.ret [.ad [.s (.str s1),.s (.int .u8 i1),.s (.int .i64 i2),.s (.int .i64 i3),.s (.int .u8 i4),.s (.str s2),.s (.str s3),.s (.str s4),.s (.bool b1),.s (.ro (.ab cV r1)),.s (.ro (.strs r2))] 40] (.s (.aq .i64 4))) (.at (lL s1 i1 i2 i3 i4 s2 s3 s4 b1 r1 r2))) (.ite (!(i4==3)== !decide (s3=empty)) (.ret [.ad [.s (.str s1),.s (.int .u8 i1),.s (.int .i64 i2),.s (.int .i64 i3),.s (.int .u8 i4),.s (.str s2),.s (.str s3),.s (.str s4),.s (.bool b1),.s (.ro (.ab cV r1)),.s (.ro (.strs r2))] 40] (.s (.aq .i64 4))) (.at (lL s1 i1 i2 i3 i4 s2 s3 s4 b1 r1 r2))))):=by kernel_rfl
theorem af9(s1:ByteArray)(i1:Int)(i2:Int)(i3:Int)(i4:Int)(s2:ByteArray)(s3:ByteArray)(s4:ByteArray)(b1:Bool)(r1:Vs)(r2:List ByteArray):run P pg.sum f55 fe (lL s1 i1 i2 i3 i4 s2 s3 s4 b1 r1 r2)=
 Tree.ite (i1==4) (.aa (bN (some [AV.s (.str s4)])) (.aa ba (.both True ((0:Nat)=0) (.ret [.ad [.s (.str s1),.s (.int .u8 i1),.s (.int .i64 i2),.s (.int .i64 i3),.s (.int .u8 i4),.s (.str s2),.s (.str s3),.s (.str s4),.s (.bool b1),.s (.ro (.ab cV r1)),.s (.ro (.strs r2))] 40] (.s (.aq .i64 4))) (.ite (i1 !=4) (.ite (!decide (s4=empty)) (.ret [.ad [.s (.str s1),.s (.int .u8 i1),.s (.int .i64 i2),.s (.int .i64 i3),.s (.int .u8 i4),.s (.str s2),.s (.str s3),.s (.str s4),.s (.bool b1),.s (.ro (.ab cV r1)),.s (.ro (.strs r2))] 40] (.s (.aq .i64 4))) (.at (lM s1 i1 i2 i3 i4 s2 s3 s4 b1 r1 r2))) (.at (lM s1 i1 i2 i3 i4 s2 s3 s4 b1 r1 r2)))))) (.ite (i1 !=4) (.ite (!decide (s4=empty)) (.ret [.ad [.s (.str s1),.s (.int .u8 i1),.s (.int .i64 i2),.s (.int .i64 i3),.s (.int .u8 i4),.s (.str s2),.s (.str s3),.s (.str s4),.s (.bool b1),.s (.ro (.ab cV r1)),.s (.ro (.strs r2))] 40] (.s (.aq .i64 4))) (.at (lM s1 i1 i2 i3 i4 s2 s3 s4 b1 r1 r2))) (.at (lM s1 i1 i2 i3 i4 s2 s3 s4 b1 r1 r2))):=by kernel_rfl
theorem aga(s1:ByteArray)(i1:Int)(i2:Int)(i3:Int)(i4:Int)(s2:ByteArray)(s3:ByteArray)(s4:ByteArray)(b1:Bool)(r1:Vs)(r2:List ByteArray):run P pg.sum f55 fe (lM s1 i1 i2 i3 i4 s2 s3 s4 b1 r1 r2)=
 Tree.ite (i1==15) (.ite b1 (.ite (i1==15) (.ite (i4==4) (.ite (!b1) (.ret [.ad [.s (.str s1),.s (.int .u8 i1),.s (.int .i64 i2),.s (.int .i64 i3),.s (.int .u8 i4),.s (.str s2),.s (.str s3),.s (.str s4),.s (.bool b1),.s (.ro (.ab cV r1)),.s (.ro (.strs r2))] 40] (.s (.aq .i64 4))) (.at (ct s1 i1 i2 i3 i4 s2 s3 s4 b1 r1 r2))) (.at (ct s1 i1 i2 i3 i4 s2 s3 s4 b1 r1 r2))) (.at (ct s1 i1 i2 i3 i4 s2 s3 s4 b1 r1 r2))) (.ite (i1==15) (.ite (i4==4) (.ite (!b1) (.ret [.ad [.s (.str s1),.s (.int .u8 i1),.s (.int .i64 i2),.s (.int .i64 i3),.s (.int .u8 i4),.s (.str s2),.s (.str s3),.s (.str s4),.s (.bool b1),.s (.ro (.ab cV r1)),.s (.ro (.strs r2))] 40] (.s (.aq .i64 4))) (.at (ct s1 i1 i2 i3 i4 s2 s3 s4 b1 r1 r2))) (.at (ct s1 i1 i2 i3 i4 s2 s3 s4 b1 r1 r2))) (.at (ct s1 i1 i2 i3 i4 s2 s3 s4 b1 r1 r2))))
 (.ite (i1==12) (.ite b1 (.ite (i1==15) (.ite (i4==4) (.ite (!b1) (.ret [.ad [.s (.str s1),.s (.int .u8 i1),.s (.int .i64 i2),.s (.int .i64 i3),.s (.int .u8 i4),.s (.str s2),.s (.str s3),.s (.str s4),.s (.bool b1),.s (.ro (.ab cV r1)),.s (.ro (.strs r2))] 40] (.s (.aq .i64 4))) (.at (ct s1 i1 i2 i3 i4 s2 s3 s4 b1 r1 r2))) (.at (ct s1 i1 i2 i3 i4 s2 s3 s4 b1 r1 r2))) (.at (ct s1 i1 i2 i3 i4 s2 s3 s4 b1 r1 r2))) (.ite (i1==15) (.ite (i4==4) (.ite (!b1) (.ret [.ad [.s (.str s1),.s (.int .u8 i1),.s (.int .i64 i2),.s (.int .i64 i3),.s (.int .u8 i4),.s (.str s2),.s (.str s3),.s (.str s4),.s (.bool b1),.s (.ro (.ab cV r1)),.s (.ro (.strs r2))] 40] (.s (.aq .i64 4))) (.at (ct s1 i1 i2 i3 i4 s2 s3 s4 b1 r1 r2))) (.at (ct s1 i1 i2 i3 i4 s2 s3 s4 b1 r1 r2))) (.at (ct s1 i1 i2 i3 i4 s2 s3 s4 b1 r1 r2)))) (.ite (i1==1) (.ite b1 (.ite (!i4 !=0) (.ret [.ad [.s (.str s1),.s (.int .u8 i1),.s (.int .i64 i2),.s (.int .i64 i3),.s (.int .u8 i4),.s (.str s2),.s (.str s3),.s (.str s4),.s (.bool b1),.s (.ro (.ab cV r1)),.s (.ro (.strs r2))] 40] (.s (.aq .i64 4))) (.ite (i1==15) (.ite (i4==4) (.ite (!b1) (.ret [.ad [.s (.str s1),.s (.int .u8 i1),.s (.int .i64 i2),.s (.int .i64 i3),.s (.int .u8 i4),.s (.str s2),.s (.str s3),.s (.str s4),.s (.bool b1),.s (.ro (.ab cV r1)),.s (.ro (.strs r2))] 40] (.s (.aq .i64 4))) (.at (ct s1 i1 i2 i3 i4 s2 s3 s4 b1 r1 r2))) (.at (ct s1 i1 i2 i3 i4 s2 s3 s4 b1 r1 r2))) (.at (ct s1 i1 i2 i3 i4 s2 s3 s4 b1 r1 r2)))) (.ite (i1==15) (.ite (i4==4) (.ite (!b1) (.ret [.ad [.s (.str s1),.s (.int .u8 i1),.s (.int .i64 i2),.s (.int .i64 i3),.s (.int .u8 i4),.s (.str s2),.s (.str s3),.s (.str s4),.s (.bool b1),.s (.ro (.ab cV r1)),.s (.ro (.strs r2))] 40] (.s (.aq .i64 4))) (.at (ct s1 i1 i2 i3 i4 s2 s3 s4 b1 r1 r2))) (.at (ct s1 i1 i2 i3 i4 s2 s3 s4 b1 r1 r2))) (.at (ct s1 i1 i2 i3 i4 s2 s3 s4 b1 r1 r2)))) (.ite b1 (.ret [.ad [.s (.str s1),.s (.int .u8 i1),.s (.int .i64 i2),.s (.int .i64 i3),.s (.int .u8 i4),.s (.str s2),.s (.str s3),.s (.str s4),.s (.bool b1),.s (.ro (.ab cV r1)),.s (.ro (.strs r2))] 40] (.s (.aq .i64 4))) (.ite (i1==15) (.ite (i4==4) (.ite (!b1) (.ret [.ad [.s (.str s1),.s (.int .u8 i1),.s (.int .i64 i2),.s (.int .i64 i3),.s (.int .u8 i4),.s (.str s2),.s (.str s3),.s (.str s4),.s (.bool b1),.s (.ro (.ab cV r1)),.s (.ro (.strs r2))] 40] (.s (.aq .i64 4))) (.at (ct s1 i1 i2 i3 i4 s2 s3 s4 b1 r1 r2))) (.at (ct s1 i1 i2 i3 i4 s2 s3 s4 b1 r1 r2))) (.at (ct s1 i1 i2 i3 i4 s2 s3 s4 b1 r1 r2)))))):=by kernel_rfl
theorem agb(s1:ByteArray)(i1:Int)(i2:Int)(i3:Int)(i4:Int)(s2:ByteArray)(s3:ByteArray)(s4:ByteArray)(b1:Bool)(r1:Vs)(r2:List ByteArray):run P pg.sum f55 fe (ct s1 i1 i2 i3 i4 s2 s3 s4 b1 r1 r2)=
 Tree.aa (bN (some [AV.s (.int .u8 i1)])) (.aa ba (.both True ((0:Nat)=0) (.ite (decide ((↑(List.length r1):Int)>0)) (.ret [.ad [.s (.str s1),.s (.int .u8 i1),.s (.int .i64 i2),.s (.int .i64 i3),.s (.int .u8 i4),.s (.str s2),.s (.str s3),.s (.str s4),.s (.bool b1),.s (.ro (.ab cV r1)),.s (.ro (.strs r2))] 40] (.s (.aq .i64 4))) (.ite (i1 !=14) (.ite (decide ((↑r2.length:Int)>0)) (.ret [.ad [.s (.str s1),.s (.int .u8 i1),.s (.int .i64 i2),.s (.int .i64 i3),.s (.int .u8 i4),.s (.str s2),.s (.str s3),.s (.str s4),.s (.bool b1),.s (.ro (.ab cV r1)),.s (.ro (.strs r2))] 40] (.s (.aq .i64 4))) (.at (lN s1 i1 i2 i3 i4 s2 s3 s4 b1 r1 r2))) (.at (lN s1 i1 i2 i3 i4 s2 s3 s4 b1 r1 r2)))) (.ite (i1 !=14) (.ite (decide ((↑r2.length:Int)>0)) (.ret [.ad [.s (.str s1),.s (.int .u8 i1),.s (.int .i64 i2),.s (.int .i64 i3),.s (.int .u8 i4),.s (.str s2),.s (.str s3),.s (.str s4),.s (.bool b1),.s (.ro (.ab cV r1)),.s (.ro (.strs r2))] 40] (.s (.aq .i64 4))) (.at (lN s1 i1 i2 i3 i4 s2 s3 s4 b1 r1 r2))) (.at (lN s1 i1 i2 i3 i4 s2 s3 s4 b1 r1 r2))))):=by kernel_rfl
theorem agc(s1:ByteArray)(i1:Int)(i2:Int)(i3:Int)(i4:Int)(s2:ByteArray)(s3:ByteArray)(s4:ByteArray)(b1:Bool)(r1:Vs)(r2:List ByteArray):run P pg.sum f55 fe (lN s1 i1 i2 i3 i4 s2 s3 s4 b1 r1 r2)=
 Tree.at (qo 0 s1 i1 i2 i3 i4 s2 s3 s4 b1 r1 r2):=by kernel_rfl
theorem agd(i1:Int)(s1:ByteArray)(i2:Int)(i3:Int)(i4:Int)(i5:Int)(s2:ByteArray)(s3:ByteArray)(s4:ByteArray)(b1:Bool)(r1:Vs)(r2:List ByteArray):run P pg.sum f55 fe (qo i1 s1 i2 i3 i4 i5 s2 s3 s4 b1 r1 r2)=
 Tree.ite (decide (i1<r2.length)) (.aa ((0:Int)<=i1) (.aa (i1<r2.length) (.aa (bN (some [AV.s (.str (r2.getD i1.toNat empty))])) (.aa ba (.both True ((0:Nat)=0) (.ret [.ad [.s (.str s1),.s (.int .u8 i2),.s (.int .i64 i3),.s (.int .i64 i4),.s (.int .u8 i5),.s (.str s2),.s (.str s3),.s (.str s4),.s (.bool b1),.s (.ro (.ab cV r1)),.s (.ro (.strs r2))] 40] (.s (.aq .i64 4))) (.at (vM i1 s1 i2 i3 i4 i5 s2 s3 s4 b1 r1 r2))))))) (.at (vO s1 i2 i3 i4 i5 s2 s3 s4 b1 r1 r2)):=by kernel_rfl
theorem age(i1:Int)(s1:ByteArray)(i2:Int)(i3:Int)(i4:Int)(i5:Int)(s2:ByteArray)(s3:ByteArray)(s4:ByteArray)(b1:Bool)(r1:Vs)(r2:List ByteArray):run P pg.sum f55 fe (vM i1 s1 i2 i3 i4 i5 s2 s3 s4 b1 r1 r2)=
 Tree.at (qp i1 0 s1 i2 i3 i4 i5 s2 s3 s4 b1 r1 r2):=by kernel_rfl
theorem agf(s1:ByteArray)(i1:Int)(i2:Int)(i3:Int)(i4:Int)(s2:ByteArray)(s3:ByteArray)(s4:ByteArray)(b1:Bool)(r1:Vs)(r2:List ByteArray):run P pg.sum f55 fe (vO s1 i1 i2 i3 i4 s2 s3 s4 b1 r1 r2)=
 Tree.aa (bN (some [AV.s (.ro (.ab cV r1))])) (.aa ba (.aa (j8 r1) (.ret [.ad [.s (.str s1),.s (.int .u8 i1),.s (.int .i64 i2),.s (.int .i64 i3),.s (.int .u8 i4),.s (.str s2),.s (.str s3),.s (.str s4),.s (.bool b1),.s (.ro (.ab cV r1)),.s (.ro (.strs r2))] 40] (.s (.ax .i64))))):=by kernel_rfl
theorem agh(i1:Int)(i2:Int)(s1:ByteArray)(i3:Int)(i4:Int)(i5:Int)(i6:Int)(s2:ByteArray)(s3:ByteArray)(s4:ByteArray)(b1:Bool)(r1:Vs)(r2:List ByteArray):run P pg.sum f55 fe (qp i1 i2 s1 i3 i4 i5 i6 s2 s3 s4 b1 r1 r2)=
 Tree.ite (decide (i2<i1)) (.aa ((0:Int)<=i2) (.aa (i2<r2.length) (.aa ((0:Int)<=i1) (.aa (i1<r2.length) (.ite (decide (r2.getD i2.toNat empty=r2.getD i1.toNat empty)) (.ret [.ad [.s (.str s1),.s (.int .u8 i3),.s (.int .i64 i4),.s (.int .i64 i5),.s (.int .u8 i6),.s (.str s2),.s (.str s3),.s (.str s4),.s (.bool b1),.s (.ro (.ab cV r1)),.s (.ro (.strs r2))] 40] (.s (.aq .i64 4))) (.at (vP i1 i2 s1 i3 i4 i5 i6 s2 s3 s4 b1 r1 r2))))))) (.at (vQ i1 s1 i3 i4 i5 i6 s2 s3 s4 b1 r1 r2)):=by kernel_rfl
theorem agi(i1:Int)(i2:Int)(s1:ByteArray)(i3:Int)(i4:Int)(i5:Int)(i6:Int)(s2:ByteArray)(s3:ByteArray)(s4:ByteArray)(b1:Bool)(r1:Vs)(r2:List ByteArray):run P pg.sum f55 fe (vP i1 i2 s1 i3 i4 i5 i6 s2 s3 s4 b1 r1 r2)=
 Tree.aa (aD (i2+1)) (.at (qp i1 (i2+1) s1 i3 i4 i5 i6 s2 s3 s4 b1 r1 r2)):=by kernel_rfl
theorem agj(i1:Int)(s1:ByteArray)(i2:Int)(i3:Int)(i4:Int)(i5:Int)(s2:ByteArray)(s3:ByteArray)(s4:ByteArray)(b1:Bool)(r1:Vs)(r2:List ByteArray):run P pg.sum f55 fe (vQ i1 s1 i2 i3 i4 i5 s2 s3 s4 b1 r1 r2)=
 Tree.aa (aD (i1+1)) (.at (qo (i1+1) s1 i2 i3 i4 i5 s2 s3 s4 b1 r1 r2)):=by kernel_rfl
theorem apT(a:ByteArray)(vs:Vs)(ns:Ns)(fs:Fs):run P zj.sum f34 jA (start f34 [jy a vs ns fs] [])=
 Tree.ite (decide ((↑(List.length ns):Int)>40)) (.ret [.ad [.s (.str a),.s (.ro (.ab cV vs)),.s (.ro (.ab cN ns)),.s (.ro (.ab cF fs))] 30] (.s (.aq .i64 40))) (.ite (decide ((↑(List.length fs):Int)>80)) (.ret [.ad [.s (.str a),.s (.ro (.ab cV vs)),.s (.ro (.ab cN ns)),.s (.ro (.ab cF fs))] 30] (.s (.aq .i64 40))) (.at (zm a vs ns fs))):=by kernel_rfl
theorem ajW(s1:ByteArray)(r1:Vs)(r2:Ns)(r3:Fs):run P zj.sum f34 jA (zm s1 r1 r2 r3)=
 Tree.ite (decide ((↑(List.length r2):Int)<1)) (.ret [.ad [.s (.str s1),.s (.ro (.ab cV r1)),.s (.ro (.ab cN r2)),.s (.ro (.ab cF r3))] 30] (.s (.aq .i64 4))) (.aa (bN (some [AV.s (.str s1)])) (.aa ba (.both True ((0:Nat)=0) (.ret [.ad [.s (.str s1),.s (.ro (.ab cV r1)),.s (.ro (.ab cN r2)),.s (.ro (.ab cF r3))] 30] (.s (.aq .i64 4))) (.at (zn s1 r1 r2 r3))))):=by kernel_rfl
theorem ajX(s1:ByteArray)(r1:Vs)(r2:Ns)(r3:Fs):run P zj.sum f34 jA (zn s1 r1 r2 r3)=
 Tree.aa (bN (some [AV.s (.ro (.ab cV r1))])) (.aa ba (.aa (j8 r1) (.at (th 0 s1 r1 r2 r3)))):=by kernel_rfl
theorem ajY(i1:Int)(s1:ByteArray)(r1:Vs)(r2:Ns)(r3:Fs):run P zj.sum f34 jA (th i1 s1 r1 r2 r3)=
 Tree.ite (decide (i1<(↑(List.length r2):Int))) (.both ((0:Nat)=0) True (.aa ((0:Int)<=i1) (.aa (i1<(↑(List.length r2):Int)) (.aa (bN (some [AV.agg [.s (.str (nN (el r2 i1))),.s (.int .u8 (nK (el r2 i1))),.s (.int .i64 (nI (el r2 i1))),.s (.int .i64 (nO (el r2 i1))),.s (.int .u8 (nE (el r2 i1))),.s (.str (nY (el r2 i1))),.s (.str (nT (el r2 i1))),.s (.str (nS (el r2 i1))),.s (.bool (nB (el r2 i1))),.s (.ro (.ab cV (nV (el r2 i1)))),.s (.ro (.strs (nZ (el r2 i1))))]])) (.aa ba (.aa (j8 (nV (el r2 i1))) (.at (zo i1 s1 r1 r2 r3))))))) (.at (qq s1 r1 r2 r3))) (.at (qq s1 r1 r2 r3)):=by kernel_rfl
theorem ajZ(i1:Int)(s1:ByteArray)(r1:Vs)(r2:Ns)(r3:Fs):run P zj.sum f34 jA (zo i1 s1 r1 r2 r3)=
 Tree.aa (aD (i1+1)) (.at (th (i1+1) s1 r1 r2 r3)):=by kernel_rfl
theorem agk(s1:ByteArray)(r1:Vs)(r2:Ns)(r3:Fs):run P zj.sum f34 jA (qq s1 r1 r2 r3)=
 Tree.at (qs 0 s1 r1 r2 r3):=by kernel_rfl
theorem agl(i1:Int)(s1:ByteArray)(r1:Vs)(r2:Ns)(r3:Fs):run P zj.sum f34 jA (qs i1 s1 r1 r2 r3)=
 Tree.ite (decide (i1<(↑(List.length r3):Int))) (.both ((0:Nat)=0) True (.aa ((0:Int)<=i1) (.aa (i1<(↑(List.length r3):Int)) (.aa (bN (some [AV.agg [.s (.int .i64 (fA (el r3 i1))),.s (.int .i64 (fB (el r3 i1))),.s (.str (fC (el r3 i1))),.s (.bool (fD (el r3 i1)))]])) (.aa ba (.at (vR i1 s1 r1 r2 r3)))))) (.at qt)) (.at qt):=by kernel_rfl
theorem agm(i1:Int)(s1:ByteArray)(r1:Vs)(r2:Ns)(r3:Fs):run P zj.sum f34 jA (vR i1 s1 r1 r2 r3)=
 Tree.aa (aD (i1+1)) (.at (qs (i1+1) s1 r1 r2 r3)):=by kernel_rfl
theorem agn:run P zj.sum f34 jA (qt)=
 Tree.ret [] (.s (.ax .i64)):=by kernel_rfl
theorem apU(a:ByteArray)(vs:Vs)(ns:Ns)(fs:Fs)(n:Int):run P bE.sum f61 ti (start f61 [jy a vs ns fs,aT n] [])=
 Tree.at (tj n 0 0 a vs ns fs):=by kernel_rfl
theorem aj0(i1:Int)(i2:Int)(i3:Int)(s1:ByteArray)(r1:Vs)(r2:Ns)(r3:Fs):run P bE.sum f61 ti (tj i1 i2 i3 s1 r1 r2 r3)=
 Tree.ite (decide (i3<(↑(List.length r3):Int))) (.aa ((0:Int)<=i3) (.aa (i3<(↑(List.length r3):Int)) (.ite (fA (el r3 i3)==i1) (.aa (aD (i2+1)) (.at (tk i1 (i2+1) i3 s1 r1 r2 r3))) (.at (tk i1 i2 i3 s1 r1 r2 r3))))) (.at (zp i2)):=by kernel_rfl
theorem aj1(i1:Int)(i2:Int)(i3:Int)(s1:ByteArray)(r1:Vs)(r2:Ns)(r3:Fs):run P bE.sum f61 ti (tk i1 i2 i3 s1 r1 r2 r3)=
 Tree.aa (aD (i3+1)) (.at (tj i1 i2 (i3+1) s1 r1 r2 r3)):=by kernel_rfl
theorem aj2(i1:Int):run P bE.sum f61 ti (zp i1)=
 Tree.ret [] (.s (.int .i64 i1)):=by kernel_rfl
theorem apV(a:ByteArray)(vs:Vs)(ns:Ns)(fs:Fs)(n:Int):run P bE.sum f60 tm (start f60 [jy a vs ns fs,aT n] [])=
 Tree.at (tn n 0 0 a vs ns fs):=by kernel_rfl
theorem aj3(i1:Int)(i2:Int)(i3:Int)(s1:ByteArray)(r1:Vs)(r2:Ns)(r3:Fs):run P bE.sum f60 tm (tn i1 i2 i3 s1 r1 r2 r3)=
 Tree.ite (decide (i3<(↑(List.length r3):Int))) (.aa ((0:Int)<=i3) (.aa (i3<(↑(List.length r3):Int)) (.ite (fB (el r3 i3)==i1) (.aa (aD (i2+1)) (.at (tp i1 (i2+1) i3 s1 r1 r2 r3))) (.at (tp i1 i2 i3 s1 r1 r2 r3))))) (.at (zq i2)):=by kernel_rfl
theorem aj4(i1:Int)(i2:Int)(i3:Int)(s1:ByteArray)(r1:Vs)(r2:Ns)(r3:Fs):run P bE.sum f60 tm (tp i1 i2 i3 s1 r1 r2 r3)=
 Tree.aa (aD (i3+1)) (.at (tn i1 i2 (i3+1) s1 r1 r2 r3)):=by kernel_rfl
theorem aj5(i1:Int):run P bE.sum f60 tm (zq i1)=
 Tree.ret [] (.s (.int .i64 i1)):=by kernel_rfl
theorem apW(l:Vs)(s:ByteArray):run P bE.sum f62 tq (start f62 [arp l,.s (.str s)] [])=
 Tree.at (tu l s 0):=by kernel_rfl
theorem aj6(r1:Vs)(s1:ByteArray)(i1:Int):run P bE.sum f62 tq (tu r1 s1 i1)=
 Tree.ite (decide (i1<(↑(List.length r1):Int))) (.aa ((0:Int)<=i1) (.aa (i1<(↑(List.length r1):Int)) (.ite (decide (vN (el r1 i1)=s1)) (.aa ((0:Int)<=i1) (.aa (i1<(↑(List.length r1):Int)) (.ret [] (.s (.int .u8 (vK (el r1 i1))))))) (.at (zr r1 s1 i1))))) (.at zt):=by kernel_rfl
theorem aj7(r1:Vs)(s1:ByteArray)(i1:Int):run P bE.sum f62 tq (zr r1 s1 i1)=
 Tree.aa (aD (i1+1)) (.at (tu r1 s1 (i1+1))):=by kernel_rfl
theorem aj8:run P bE.sum f62 tq (zt)=
 Tree.ret [] (.s (.aq .u8 0)):=by kernel_rfl
theorem fg{Z:aP}:pg.Ok P Z:=aQ.Ok.cons (ic.sum (fo [bg])) (aQ.Ok.cons (asw.sum (fo [gC,gC])) (aQ.Ok.cons (asz.sum (fo [sS])) (aQ.Ok.cons (asy.sum (fo [gC])) (aQ.Ok.cons (oH.sum (fo [pr])) aQ.Ok.nil))))
theorem wNs.el{l:Ns}(h:wNs l)(i:Int):j8 (nV (el l i)):=by
 show j8 (nV (l.getD i.toNat (CL.d cN)));by_cases hi:i.toNat<l.length;rw[cK hi];exact h _ (getElem_mem hi);rw[List.getD_eq_getElem?_getD,getElem?_eq_none (by omega)];exact λ_ hv=>by cases hv
theorem amA{Z:aP}:cf P Z 58 [dF,bx] [aZ] (λ_=>[]) (λ((_,_,ns,_,()),n,())=>(dC ns n,())):=by
 refine a6 func58 (by kernel_rfl) (by kernel_rfl) ?_;rintro⟨⟨(a:ByteArray),(vs:Vs),(ns:Ns),(fs:Fs),⟨⟩⟩,(n:Int),⟨⟩⟩ _ _ X hX hz;show Safe P 58 X (Ends [aZ] (dC ns n,())) _;refine go hz hX aQ.Ok.nil func58 (apQ a vs ns fs n) ?_;unfold dC;by_cases h1:0<=n;refine af (decide_eq_true (by omega)) ?_;by_cases h2:n<(ns.length:Int);rw[decide_eq_true ⟨h1,h2⟩,decide_eq_true h2];exact ael rfl;rw[decide_eq_false (λh=>h2 h.2),decide_eq_false h2];exact ael rfl;refine ak (decide_eq_false (by omega)) ?_;rw[decide_eq_false (λh=>h1 h.1)];exact aiV rfl
theorem amB{Z:aP}:cf P Z 65 [dF,bx] [bx] (λ((_,_,ns,_,()),n,())=>[0<=n/\n<((ns:Ns).length:Int)]) (λ((_,_,ns,_,()),n,())=>(tg ns n,())):=by
 refine a6 func65 (by kernel_rfl) (by kernel_rfl) ?_;rintro⟨⟨(a:ByteArray),(vs:Vs),(ns:Ns),(fs:Fs),⟨⟩⟩,(n:Int),⟨⟩⟩ _ ⟨⟨(h0:0<=n),(h1:n<(ns.length:Int))⟩,_⟩ X hX hz;show Safe P 65 X (Ends [bx] (tg ns n,())) _;refine go hz hX aQ.Ok.nil func65 (apR a vs ns fs n) ⟨h0,h1, ?_⟩;unfold tg;by_cases h2:nI (el ns n)<0;rw[if_pos h2];exact af (decide_eq_true h2) (abc rfl);rw[if_neg h2];refine ak (decide_eq_false h2) ?_;by_cases h3:nI (el ns n)>=n;rw[if_pos h3];exact af (decide_eq_true h3) (abc rfl);rw[if_neg h3];exact ak (decide_eq_false h3) (al8 rfl)
theorem vS(ns:Ns)(n:Int):tg ns n= -1\/(0<=tg ns n/\tg ns n<n):=by
 unfold tg;split;exact .inl rfl;split;exact .inl rfl;exact .inr ⟨by omega,by omega⟩
abbrev fh(X:Ctx)(x:AL [sS])(c:aR):Prop:=Safe P 55 X (dc (dZ [sS] ajR (gS .i64)) x) c
def vU(X:Ctx)(x:AL [sS])(N:Nat):Prop:=(∀(s1:ByteArray) (i1:Int) (i2:Int) (i3:Int) (i4:Int) (s2:ByteArray) (s3:ByteArray) (s4:ByteArray) (b1:Bool) (r1:Vs) (r2:List ByteArray),999997<N->(j8 r1/\r2.length<=8)->fh X x (zk s1 i1 i2 i3 i4 s2 s3 s4 b1 r1 r2))/\(∀(s1:ByteArray) (i1:Int) (i2:Int) (i3:Int) (i4:Int) (s2:ByteArray) (s3:ByteArray) (s4:ByteArray) (b1:Bool) (r1:Vs) (r2:List ByteArray),999995<N->(j8 r1/\r2.length<=8)->fh X x (zl s1 i1 i2 i3 i4 s2 s3 s4 b1 r1 r2))/\(∀(s1:ByteArray) (i1:Int) (i2:Int) (i3:Int) (i4:Int) (s2:ByteArray) (s3:ByteArray) (s4:ByteArray) (b1:Bool) (r1:Vs) (r2:List ByteArray),999993<N->(j8 r1/\r2.length<=8)->fh X x (nX s1 i1 i2 i3 i4 s2 s3 s4 b1 r1 r2))/\(∀(s1:ByteArray) (i1:Int) (i2:Int) (i3:Int) (i4:Int) (s2:ByteArray) (s3:ByteArray) (s4:ByteArray) (b1:Bool) (r1:Vs) (r2:List ByteArray),999990<N->(j8 r1/\r2.length<=8)->fh X x (lL s1 i1 i2 i3 i4 s2 s3 s4 b1 r1 r2))/\(∀(s1:ByteArray) (i1:Int) (i2:Int) (i3:Int) (i4:Int) (s2:ByteArray) (s3:ByteArray) (s4:ByteArray) (b1:Bool) (r1:Vs) (r2:List ByteArray),999988<N->(j8 r1/\r2.length<=8)->fh X x (lM s1 i1 i2 i3 i4 s2 s3 s4 b1 r1 r2))/\(∀(s1:ByteArray) (i1:Int) (i2:Int) (i3:Int) (i4:Int) (s2:ByteArray) (s3:ByteArray) (s4:ByteArray) (b1:Bool) (r1:Vs) (r2:List ByteArray),999985<N->(j8 r1/\r2.length<=8)->fh X x (ct s1 i1 i2 i3 i4 s2 s3 s4 b1 r1 r2))/\(∀(s1:ByteArray) (i1:Int) (i2:Int) (i3:Int) (i4:Int) (s2:ByteArray) (s3:ByteArray) (s4:ByteArray) (b1:Bool) (r1:Vs) (r2:List ByteArray),999983<N->(j8 r1/\r2.length<=8)->fh X x (lN s1 i1 i2 i3 i4 s2 s3 s4 b1 r1 r2))/\(∀(i1:Int) (s1:ByteArray) (i2:Int) (i3:Int) (i4:Int) (i5:Int) (s2:ByteArray) (s3:ByteArray) (s4:ByteArray) (b1:Bool) (r1:Vs) (r2:List ByteArray),(1000*(10 - i1)).toNat+500<N->(j8 r1/\(r2.length<=8/\0<=i1/\i1<=r2.length))->fh X x (qo i1 s1 i2 i3 i4 i5 s2 s3 s4 b1 r1 r2))/\(∀(i1:Int) (s1:ByteArray) (i2:Int) (i3:Int) (i4:Int) (i5:Int) (s2:ByteArray) (s3:ByteArray) (s4:ByteArray) (b1:Bool) (r1:Vs) (r2:List ByteArray),(1000*(10 - i1)).toNat+400<N->(j8 r1/\(r2.length<=8/\0<=i1/\i1<r2.length))->fh X x (vM i1 s1 i2 i3 i4 i5 s2 s3 s4 b1 r1 r2))/\(∀(s1:ByteArray) (i1:Int) (i2:Int) (i3:Int) (i4:Int) (s2:ByteArray) (s3:ByteArray) (s4:ByteArray) (b1:Bool) (r1:Vs) (r2:List ByteArray),5<N->(j8 r1/\r2.length<=8)->fh X x (vO s1 i1 i2 i3 i4 s2 s3 s4 b1 r1 r2))/\(∀(i1:Int) (i2:Int) (s1:ByteArray) (i3:Int) (i4:Int) (i5:Int) (i6:Int) (s2:ByteArray) (s3:ByteArray) (s4:ByteArray) (b1:Bool) (r1:Vs) (r2:List ByteArray),(1000*(10 - i1)+300 - 20*i2).toNat<N->(j8 r1/\(r2.length<=8/\0<=i2/\i2<=i1/\i1<r2.length))->fh X x (qp i1 i2 s1 i3 i4 i5 i6 s2 s3 s4 b1 r1 r2))/\(∀(i1:Int) (i2:Int) (s1:ByteArray) (i3:Int) (i4:Int) (i5:Int) (i6:Int) (s2:ByteArray) (s3:ByteArray) (s4:ByteArray) (b1:Bool) (r1:Vs) (r2:List ByteArray),(1000*(10 - i1)+290 - 20*i2).toNat<N->(j8 r1/\(r2.length<=8/\0<=i2/\i2<i1/\i1<r2.length))->fh X x (vP i1 i2 s1 i3 i4 i5 i6 s2 s3 s4 b1 r1 r2))/\(∀(i1:Int) (s1:ByteArray) (i2:Int) (i3:Int) (i4:Int) (i5:Int) (s2:ByteArray) (s3:ByteArray) (s4:ByteArray) (b1:Bool) (r1:Vs) (r2:List ByteArray),(1000*(10 - i1)).toNat+10<N->(j8 r1/\(r2.length<=8/\0<=i1/\i1<r2.length))->fh X x (vQ i1 s1 i2 i3 i4 i5 s2 s3 s4 b1 r1 r2))
set_option maxHeartbeats 16000000 in
theorem aj9{Z:aP}{X:Ctx}{x:AL [sS]}(hX:∀id,X.H id=none)(hz:cE Z X):∀N,vU X x N:=by
 intro N
 induction N with
 |zero=>
  unfold vU
  and_intros<;>(intros;omega)
 |succ N ih=>
  have⟨h0,h1,h2,h3,h4,h5,h6,h7,h8,h9,iz,oe,oW⟩:=ih;unfold vU;refine⟨λ_ _ _ _ _ _ _ _ _ _ _ hm hi=>go hz hX fg func55 (ajT ..) ?_,λ_ _ _ _ _ _ _ _ _ _ _ hm hi=>go hz hX fg func55 (ajU ..) ?_,λ_ _ _ _ _ _ _ _ _ _ _ hm hi=>go hz hX fg func55 (ajV ..) ?_,λ_ _ _ _ _ _ _ _ _ _ _ hm hi=>go hz hX fg func55 (af9 ..) ?_,λ_ _ _ _ _ _ _ _ _ _ _ hm hi=>go hz hX fg func55 (aga ..) ?_,λ_ _ _ _ _ _ _ _ _ _ _ hm hi=>go hz hX fg func55 (agb ..) ?_,λ_ _ _ _ _ _ _ _ _ _ _ hm hi=>go hz hX fg func55 (agc ..) ?_,λ_ _ _ _ _ _ _ _ _ _ _ _ hm hi=>go hz hX fg func55 (agd ..) ?_,λ_ _ _ _ _ _ _ _ _ _ _ _ hm hi=>go hz hX fg func55 (age ..) ?_,λ_ _ _ _ _ _ _ _ _ _ _ hm hi=>go hz hX fg func55 (agf ..) ?_,λ_ _ _ _ _ _ _ _ _ _ _ _ _ hm hi=>go hz hX fg func55 (agh ..) ?_,λ_ _ _ _ _ _ _ _ _ _ _ _ _ hm hi=>go hz hX fg func55 (agi ..) ?_,λ_ _ _ _ _ _ _ _ _ _ _ _ hm hi=>go hz hX fg func55 (agj ..) ?_⟩
  all_goals try have⟨hw,hi⟩:=hi
  all_goals repeat' (with_reducible (first|refine dj ?_|refine bn ?_ ?_|refine bR (λ_=> ?_) (λ_=> ?_)|refine bS (λ_=> ?_) (λ_=> ?_)|refine bT (λ_=> ?_) (λ_=> ?_)|refine dk ?_|refine dm ?_|refine bU ?_|refine bV (λ_=> ?_) (λ_=> ?_)|refine bp (λ_=> ?_) (λ_=> ?_)|refine bW ?_|refine dn ?_))
  all_goals first|omega|exact⟨by omega,by omega⟩|assumption|with_reducible exact fK (by kernel_rfl)|with_reducible exact fL (by kernel_rfl)|with_reducible exact fN (by kernel_rfl)|with_reducible exact fO (by kernel_rfl)|with_reducible exact fM (by kernel_rfl)|with_reducible exact fp (by kernel_rfl)|exact trivial|rfl|((with_reducible first|apply h0|apply h1|apply h2|apply h3|apply h4|apply h5|apply h6|apply h7|apply h8|apply h9|apply iz|apply oe|apply oW)<;>first|omega|exact trivial|exact⟨hw,by omega⟩)
theorem jB{Z:aP}:ed P Z 55 (dZ [sS] ajR (gS .i64)):=by
 refine bX func55 (by kernel_rfl) (by kernel_rfl) ?_;rintro⟨(x:CL cN),⟨⟩⟩ _ ⟨(hw:j8 (nV x)),_⟩ X hX hz;skip;have⟨h0,h1,h2,h3,h4,h5,h6,h7,h8,h9,iz,oe,oW⟩:=aj9 (x:=(x,())) hX hz 100000000;show fh X (x,()) _;refine go hz hX fg func55 (apS x) ?_
 repeat' (with_reducible (first|refine dj ?_|refine bn ?_ ?_|refine bR (λ_=> ?_) (λ_=> ?_)|refine bS (λ_=> ?_) (λ_=> ?_)|refine bT (λ_=> ?_) (λ_=> ?_)|refine dk ?_|refine dm ?_|refine bU ?_|refine bV (λ_=> ?_) (λ_=> ?_)|refine bp (λ_=> ?_) (λ_=> ?_)|refine bW ?_|refine dn ?_))
 all_goals first|omega|exact⟨by omega,by omega⟩|assumption|with_reducible exact fK (by kernel_rfl)|with_reducible exact fL (by kernel_rfl)|with_reducible exact fN (by kernel_rfl)|with_reducible exact fO (by kernel_rfl)|with_reducible exact fM (by kernel_rfl)|with_reducible exact fp (by kernel_rfl)|exact trivial|rfl|((with_reducible first|apply h0|apply h1|apply h2|apply h3|apply h4|apply h5|apply h6|apply h7|apply h8|apply h9|apply iz|apply oe|apply oW)<;>first|omega|exact trivial|exact⟨hw,by omega⟩)
abbrev jC(X:Ctx)(x:AL [dF])(c:aR):Prop:=Safe P 34 X (dc (dZ [dF] ajS (gS .i64)) x) c
def vV(X:Ctx)(x:AL [dF])(N:Nat):Prop:=(∀(s1:ByteArray) (r1:Vs) (r2:Ns) (r3:Fs),1000000<N->(j8 r1/\wNs r2/\(r2.length<=40/\r3.length<=80))->jC X x (zm s1 r1 r2 r3))/\(∀(s1:ByteArray) (r1:Vs) (r2:Ns) (r3:Fs),900000<N->(j8 r1/\wNs r2/\(r2.length<=40/\r3.length<=80))->jC X x (zn s1 r1 r2 r3))/\(∀(i1:Int) (s1:ByteArray) (r1:Vs) (r2:Ns) (r3:Fs),(1000*(41 - i1)).toNat+200500<N->(j8 r1/\wNs r2/\(r2.length<=40/\r3.length<=80/\0<=i1/\i1<=r2.length))->jC X x (th i1 s1 r1 r2 r3))/\(∀(i1:Int) (s1:ByteArray) (r1:Vs) (r2:Ns) (r3:Fs),(1000*(41 - i1)).toNat+200000<N->(j8 r1/\wNs r2/\(r2.length<=40/\r3.length<=80/\0<=i1/\i1<r2.length))->jC X x (zo i1 s1 r1 r2 r3))/\(∀(s1:ByteArray) (r1:Vs) (r2:Ns) (r3:Fs),190000<N->(j8 r1/\wNs r2/\(r2.length<=40/\r3.length<=80))->jC X x (qq s1 r1 r2 r3))/\(∀(i1:Int) (s1:ByteArray) (r1:Vs) (r2:Ns) (r3:Fs),(1000*(81 - i1)).toNat+500<N->(j8 r1/\wNs r2/\(r2.length<=40/\r3.length<=80/\0<=i1/\i1<=r3.length))->jC X x (qs i1 s1 r1 r2 r3))/\(∀(i1:Int) (s1:ByteArray) (r1:Vs) (r2:Ns) (r3:Fs),(1000*(81 - i1)).toNat+100<N->(j8 r1/\wNs r2/\(r2.length<=40/\r3.length<=80/\0<=i1/\i1<r3.length))->jC X x (vR i1 s1 r1 r2 r3))/\(5<N->(True)->jC X x (qt))
set_option maxHeartbeats 16000000 in
theorem aka{Z:aP}{X:Ctx}{x:AL [dF]}(hX:∀id,X.H id=none)(hz:cE Z X):∀N,vV X x N:=by
 intro N
 induction N with
 |zero=>
  unfold vV
  and_intros<;>(intros;omega)
 |succ N ih=>
  have⟨h0,h1,h2,h3,h4,h5,h6,h7⟩:=ih;unfold vV;refine⟨λ_ _ _ _ hm hi=>go hz hX (aQ.Ok.cons (ic.sum (fo [bg])) (aQ.Ok.cons (oH.sum (fo [pr])) (aQ.Ok.cons (jB.sum (fo [sS])) (aQ.Ok.cons (qn.sum (fo [tFl])) aQ.Ok.nil)))) func34 (ajW ..) ?_,λ_ _ _ _ hm hi=>go hz hX (aQ.Ok.cons (ic.sum (fo [bg])) (aQ.Ok.cons (oH.sum (fo [pr])) (aQ.Ok.cons (jB.sum (fo [sS])) (aQ.Ok.cons (qn.sum (fo [tFl])) aQ.Ok.nil)))) func34 (ajX ..) ?_,λ_ _ _ _ _ hm hi=>go hz hX (aQ.Ok.cons (ic.sum (fo [bg])) (aQ.Ok.cons (oH.sum (fo [pr])) (aQ.Ok.cons (jB.sum (fo [sS])) (aQ.Ok.cons (qn.sum (fo [tFl])) aQ.Ok.nil)))) func34 (ajY ..) ?_,λ_ _ _ _ _ hm hi=>go hz hX (aQ.Ok.cons (ic.sum (fo [bg])) (aQ.Ok.cons (oH.sum (fo [pr])) (aQ.Ok.cons (jB.sum (fo [sS])) (aQ.Ok.cons (qn.sum (fo [tFl])) aQ.Ok.nil)))) func34 (ajZ ..) ?_,λ_ _ _ _ hm hi=>go hz hX (aQ.Ok.cons (ic.sum (fo [bg])) (aQ.Ok.cons (oH.sum (fo [pr])) (aQ.Ok.cons (jB.sum (fo [sS])) (aQ.Ok.cons (qn.sum (fo [tFl])) aQ.Ok.nil)))) func34 (agk ..) ?_,λ_ _ _ _ _ hm hi=>go hz hX (aQ.Ok.cons (ic.sum (fo [bg])) (aQ.Ok.cons (oH.sum (fo [pr])) (aQ.Ok.cons (jB.sum (fo [sS])) (aQ.Ok.cons (qn.sum (fo [tFl])) aQ.Ok.nil)))) func34 (agl ..) ?_,λ_ _ _ _ _ hm hi=>go hz hX (aQ.Ok.cons (ic.sum (fo [bg])) (aQ.Ok.cons (oH.sum (fo [pr])) (aQ.Ok.cons (jB.sum (fo [sS])) (aQ.Ok.cons (qn.sum (fo [tFl])) aQ.Ok.nil)))) func34 (agm ..) ?_,λhm hi=>go hz hX (aQ.Ok.cons (ic.sum (fo [bg])) (aQ.Ok.cons (oH.sum (fo [pr])) (aQ.Ok.cons (jB.sum (fo [sS])) (aQ.Ok.cons (qn.sum (fo [tFl])) aQ.Ok.nil)))) func34 (agn ..) ?_⟩
  all_goals try have⟨hw,hn,hi⟩:=hi
  all_goals repeat' (with_reducible (first|refine dj ?_|refine bn ?_ ?_|refine bR (λ_=> ?_) (λ_=> ?_)|refine bS (λ_=> ?_) (λ_=> ?_)|refine bT (λ_=> ?_) (λ_=> ?_)|refine dk ?_|refine dm ?_|refine bU ?_|refine bV (λ_=> ?_) (λ_=> ?_)|refine bp (λ_=> ?_) (λ_=> ?_)|refine bW ?_|refine dn ?_))
  all_goals first|omega|exact⟨by omega,by omega⟩|assumption|with_reducible exact fK (by kernel_rfl)|with_reducible exact fL (by kernel_rfl)|with_reducible exact fN (by kernel_rfl)|with_reducible exact fO (by kernel_rfl)|with_reducible exact fM (by kernel_rfl)|with_reducible exact fp (by kernel_rfl)|exact trivial|rfl|exact hn.el _|((with_reducible first|apply h0|apply h1|apply h2|apply h3|apply h4|apply h5|apply h6|apply h7)<;>first|omega|exact trivial|exact⟨hw,hn,by omega⟩)
theorem amC{Z:aP}:ed P Z 34 (dZ [dF] ajS (gS .i64)):=by
 refine bX func34 (by kernel_rfl) (by kernel_rfl) ?_;rintro⟨⟨(a:ByteArray),(vs:Vs),(ns:Ns),(fs:Fs),⟨⟩⟩,⟨⟩⟩ _ ⟨(hw:j8 vs),(hn:wNs ns),_⟩ X hX hz;skip;have⟨h0,h1,h2,h3,h4,h5,h6,h7⟩:=aka (x:=((a,vs,ns,fs,()),())) hX hz 100000000;show jC X ((a,vs,ns,fs,()),()) _;refine go hz hX (aQ.Ok.cons (ic.sum (fo [bg])) (aQ.Ok.cons (oH.sum (fo [pr])) (aQ.Ok.cons (jB.sum (fo [sS])) (aQ.Ok.cons (qn.sum (fo [tFl])) aQ.Ok.nil)))) func34 (apT a vs ns fs) ?_
 repeat' (with_reducible (first|refine dj ?_|refine bn ?_ ?_|refine bR (λ_=> ?_) (λ_=> ?_)|refine bS (λ_=> ?_) (λ_=> ?_)|refine bT (λ_=> ?_) (λ_=> ?_)|refine dk ?_|refine dm ?_|refine bU ?_|refine bV (λ_=> ?_) (λ_=> ?_)|refine bp (λ_=> ?_) (λ_=> ?_)|refine bW ?_|refine dn ?_))
 all_goals first|omega|exact⟨by omega,by omega⟩|assumption|with_reducible exact fK (by kernel_rfl)|with_reducible exact fL (by kernel_rfl)|with_reducible exact fN (by kernel_rfl)|with_reducible exact fO (by kernel_rfl)|with_reducible exact fM (by kernel_rfl)|with_reducible exact fp (by kernel_rfl)|exact trivial|rfl|exact hn.el _|((with_reducible first|apply h0|apply h1|apply h2|apply h3|apply h4|apply h5|apply h6|apply h7)<;>first|omega|exact trivial|exact⟨hw,hn,by omega⟩)
abbrev tv(X:Ctx)(x:AL [dF,bx])(c:aR):Prop:=Safe P 61 X (dc (dZ [dF,bx] bI (gS .i64)) x) c
def vW(X:Ctx)(x:AL [dF,bx])(N:Nat):Prop:=(∀(i1:Int) (i2:Int) (i3:Int) (s1:ByteArray) (r1:Vs) (r2:Ns) (r3:Fs),(2*(r3.length - i3)).toNat+10<N->(r3.length<=9223372036854775807/\(0<=i2/\0<=i3/\i2<=i3/\i3<=r3.length))->tv X x (tj i1 i2 i3 s1 r1 r2 r3))/\(∀(i1:Int) (i2:Int) (i3:Int) (s1:ByteArray) (r1:Vs) (r2:Ns) (r3:Fs),(2*(r3.length - i3)).toNat+9<N->(r3.length<=9223372036854775807/\(0<=i2/\0<=i3/\i2<=i3+1/\i3<r3.length))->tv X x (tk i1 i2 i3 s1 r1 r2 r3))/\(∀(i1:Int),1<N->(True)->tv X x (zp i1))
set_option maxHeartbeats 16000000 in
theorem akb{Z:aP}{X:Ctx}{x:AL [dF,bx]}(hX:∀id,X.H id=none)(hz:cE Z X):∀N,vW X x N:=by
 intro N
 induction N with
 |zero=>
  unfold vW
  and_intros<;>(intros;omega)
 |succ N ih=>
  have⟨h0,h1,h2⟩:=ih;unfold vW;refine⟨λ_ _ _ _ _ _ _ hm hi=>go hz hX aQ.Ok.nil func61 (aj0 ..) ?_,λ_ _ _ _ _ _ _ hm hi=>go hz hX aQ.Ok.nil func61 (aj1 ..) ?_,λ_ hm hi=>go hz hX aQ.Ok.nil func61 (aj2 ..) ?_⟩
  all_goals repeat' (with_reducible (first|refine dj ?_|refine bn ?_ ?_|refine bR (λ_=> ?_) (λ_=> ?_)|refine bS (λ_=> ?_) (λ_=> ?_)|refine bT (λ_=> ?_) (λ_=> ?_)|refine dk ?_|refine dm ?_|refine bU ?_|refine bV (λ_=> ?_) (λ_=> ?_)|refine bp (λ_=> ?_) (λ_=> ?_)|refine bW ?_|refine dn ?_))
  all_goals first|omega|exact⟨by omega,by omega⟩|assumption|with_reducible exact fK (by kernel_rfl)|with_reducible exact fL (by kernel_rfl)|with_reducible exact fN (by kernel_rfl)|with_reducible exact fO (by kernel_rfl)|with_reducible exact fM (by kernel_rfl)|with_reducible exact fp (by kernel_rfl)|exact trivial|rfl|((with_reducible first|apply h0|apply h1|apply h2)<;>first|omega|trivial|omega|(refine⟨?_, ?_⟩<;>omega))
theorem amD{Z:aP}:ed P Z 61 (dZ [dF,bx] bI (gS .i64)):=by
 refine bX func61 (by kernel_rfl) (by kernel_rfl) ?_;rintro⟨⟨(a:ByteArray),(vs:Vs),(ns:Ns),(fs:Fs),⟨⟩⟩,(n:Int),⟨⟩⟩ ⟨⟨_,_,_,hl,_⟩,_⟩ _ X hX hz;have hl:fs.length<=9223372036854775807:=by have:fs.length<=maxLen:=hl;unfold maxLen at this;omega
 have⟨h0,h1,h2⟩:=akb (x:=((a,vs,ns,fs,()),n,())) hX hz 10000000000000000000000000;show tv X ((a,vs,ns,fs,()),n,()) _;refine go hz hX aQ.Ok.nil func61 (apU a vs ns fs n) ?_
 repeat' (with_reducible (first|refine dj ?_|refine bn ?_ ?_|refine bR (λ_=> ?_) (λ_=> ?_)|refine bS (λ_=> ?_) (λ_=> ?_)|refine bT (λ_=> ?_) (λ_=> ?_)|refine dk ?_|refine dm ?_|refine bU ?_|refine bV (λ_=> ?_) (λ_=> ?_)|refine bp (λ_=> ?_) (λ_=> ?_)|refine bW ?_|refine dn ?_))
 all_goals first|omega|exact⟨by omega,by omega⟩|assumption|with_reducible exact fK (by kernel_rfl)|with_reducible exact fL (by kernel_rfl)|with_reducible exact fN (by kernel_rfl)|with_reducible exact fO (by kernel_rfl)|with_reducible exact fM (by kernel_rfl)|with_reducible exact fp (by kernel_rfl)|exact trivial|rfl|((with_reducible first|apply h0|apply h1|apply h2)<;>first|omega|trivial|omega|(refine⟨?_, ?_⟩<;>omega))
abbrev tw(X:Ctx)(x:AL [dF,bx])(c:aR):Prop:=Safe P 60 X (dc (dZ [dF,bx] bI (gS .i64)) x) c
def vX(X:Ctx)(x:AL [dF,bx])(N:Nat):Prop:=(∀(i1:Int) (i2:Int) (i3:Int) (s1:ByteArray) (r1:Vs) (r2:Ns) (r3:Fs),(2*(r3.length - i3)).toNat+10<N->(r3.length<=9223372036854775807/\(0<=i2/\0<=i3/\i2<=i3/\i3<=r3.length))->tw X x (tn i1 i2 i3 s1 r1 r2 r3))/\(∀(i1:Int) (i2:Int) (i3:Int) (s1:ByteArray) (r1:Vs) (r2:Ns) (r3:Fs),(2*(r3.length - i3)).toNat+9<N->(r3.length<=9223372036854775807/\(0<=i2/\0<=i3/\i2<=i3+1/\i3<r3.length))->tw X x (tp i1 i2 i3 s1 r1 r2 r3))/\(∀(i1:Int),1<N->(True)->tw X x (zq i1))
set_option maxHeartbeats 16000000 in
theorem akc{Z:aP}{X:Ctx}{x:AL [dF,bx]}(hX:∀id,X.H id=none)(hz:cE Z X):∀N,vX X x N:=by
 intro N
 induction N with
 |zero=>
  unfold vX
  and_intros<;>(intros;omega)
 |succ N ih=>
  have⟨h0,h1,h2⟩:=ih;unfold vX;refine⟨λ_ _ _ _ _ _ _ hm hi=>go hz hX aQ.Ok.nil func60 (aj3 ..) ?_,λ_ _ _ _ _ _ _ hm hi=>go hz hX aQ.Ok.nil func60 (aj4 ..) ?_,λ_ hm hi=>go hz hX aQ.Ok.nil func60 (aj5 ..) ?_⟩
  all_goals repeat' (with_reducible (first|refine dj ?_|refine bn ?_ ?_|refine bR (λ_=> ?_) (λ_=> ?_)|refine bS (λ_=> ?_) (λ_=> ?_)|refine bT (λ_=> ?_) (λ_=> ?_)|refine dk ?_|refine dm ?_|refine bU ?_|refine bV (λ_=> ?_) (λ_=> ?_)|refine bp (λ_=> ?_) (λ_=> ?_)|refine bW ?_|refine dn ?_))
  all_goals first|omega|exact⟨by omega,by omega⟩|assumption|with_reducible exact fK (by kernel_rfl)|with_reducible exact fL (by kernel_rfl)|with_reducible exact fN (by kernel_rfl)|with_reducible exact fO (by kernel_rfl)|with_reducible exact fM (by kernel_rfl)|with_reducible exact fp (by kernel_rfl)|exact trivial|rfl|((with_reducible first|apply h0|apply h1|apply h2)<;>first|omega|trivial|omega|(refine⟨?_, ?_⟩<;>omega))
theorem amE{Z:aP}:ed P Z 60 (dZ [dF,bx] bI (gS .i64)):=by
 refine bX func60 (by kernel_rfl) (by kernel_rfl) ?_;rintro⟨⟨(a:ByteArray),(vs:Vs),(ns:Ns),(fs:Fs),⟨⟩⟩,(n:Int),⟨⟩⟩ ⟨⟨_,_,_,hl,_⟩,_⟩ _ X hX hz;have hl:fs.length<=9223372036854775807:=by have:fs.length<=maxLen:=hl;unfold maxLen at this;omega
 have⟨h0,h1,h2⟩:=akc (x:=((a,vs,ns,fs,()),n,())) hX hz 10000000000000000000000000;show tw X ((a,vs,ns,fs,()),n,()) _;refine go hz hX aQ.Ok.nil func60 (apV a vs ns fs n) ?_
 repeat' (with_reducible (first|refine dj ?_|refine bn ?_ ?_|refine bR (λ_=> ?_) (λ_=> ?_)|refine bS (λ_=> ?_) (λ_=> ?_)|refine bT (λ_=> ?_) (λ_=> ?_)|refine dk ?_|refine dm ?_|refine bU ?_|refine bV (λ_=> ?_) (λ_=> ?_)|refine bp (λ_=> ?_) (λ_=> ?_)|refine bW ?_|refine dn ?_))
 all_goals first|omega|exact⟨by omega,by omega⟩|assumption|with_reducible exact fK (by kernel_rfl)|with_reducible exact fL (by kernel_rfl)|with_reducible exact fN (by kernel_rfl)|with_reducible exact fO (by kernel_rfl)|with_reducible exact fM (by kernel_rfl)|with_reducible exact fp (by kernel_rfl)|exact trivial|rfl|((with_reducible first|apply h0|apply h1|apply h2)<;>first|omega|trivial|omega|(refine⟨?_, ?_⟩<;>omega))
abbrev tx(X:Ctx)(x:AL [pr,bg])(c:aR):Prop:=Safe P 62 X (dc (dZ [pr,bg] bI (gS .u8)) x) c
def vY(X:Ctx)(x:AL [pr,bg])(N:Nat):Prop:=(∀(r1:Vs) (s1:ByteArray) (i1:Int),(2*(r1.length - i1)).toNat+10<N->(r1.length<=9223372036854775807/\(0<=i1/\i1<=r1.length))->tx X x (tu r1 s1 i1))/\(∀(r1:Vs) (s1:ByteArray) (i1:Int),(2*(r1.length - i1)).toNat+9<N->(r1.length<=9223372036854775807/\(0<=i1/\i1<r1.length))->tx X x (zr r1 s1 i1))/\(1<N->(True)->tx X x (zt))
set_option maxHeartbeats 16000000 in
theorem akd{Z:aP}{X:Ctx}{x:AL [pr,bg]}(hX:∀id,X.H id=none)(hz:cE Z X):∀N,vY X x N:=by
 intro N
 induction N with
 |zero=>
  unfold vY
  and_intros<;>(intros;omega)
 |succ N ih=>
  have⟨h0,h1,h2⟩:=ih;unfold vY;refine⟨λ_ _ _ hm hi=>go hz hX aQ.Ok.nil func62 (aj6 ..) ?_,λ_ _ _ hm hi=>go hz hX aQ.Ok.nil func62 (aj7 ..) ?_,λhm hi=>go hz hX aQ.Ok.nil func62 (aj8 ..) ?_⟩
  all_goals repeat' (with_reducible (first|refine dj ?_|refine bn ?_ ?_|refine bR (λ_=> ?_) (λ_=> ?_)|refine bS (λ_=> ?_) (λ_=> ?_)|refine bT (λ_=> ?_) (λ_=> ?_)|refine dk ?_|refine dm ?_|refine bU ?_|refine bV (λ_=> ?_) (λ_=> ?_)|refine bp (λ_=> ?_) (λ_=> ?_)|refine bW ?_|refine dn ?_))
  all_goals first|omega|exact⟨by omega,by omega⟩|assumption|with_reducible exact fK (by kernel_rfl)|with_reducible exact fL (by kernel_rfl)|with_reducible exact fN (by kernel_rfl)|with_reducible exact fO (by kernel_rfl)|with_reducible exact fM (by kernel_rfl)|with_reducible exact fp (by kernel_rfl)|exact trivial|rfl|((with_reducible first|apply h0|apply h1|apply h2)<;>first|omega|trivial|omega|(refine⟨?_, ?_⟩<;>omega))
theorem amF{Z:aP}:ed P Z 62 (dZ [pr,bg] bI (gS .u8)):=by
 refine bX func62 (by kernel_rfl) (by kernel_rfl) ?_;rintro⟨(l:Vs),(s:ByteArray),⟨⟩⟩ ⟨hl,_⟩ _ X hX hz;have hl:l.length<=9223372036854775807:=by have:l.length<=maxLen:=hl;unfold maxLen at this;omega
 have⟨h0,h1,h2⟩:=akd (x:=(l,s,())) hX hz 10000000000000000000000000;show tx X (l,s,()) _;refine go hz hX aQ.Ok.nil func62 (apW l s) ?_
 repeat' (with_reducible (first|refine dj ?_|refine bn ?_ ?_|refine bR (λ_=> ?_) (λ_=> ?_)|refine bS (λ_=> ?_) (λ_=> ?_)|refine bT (λ_=> ?_) (λ_=> ?_)|refine dk ?_|refine dm ?_|refine bU ?_|refine bV (λ_=> ?_) (λ_=> ?_)|refine bp (λ_=> ?_) (λ_=> ?_)|refine bW ?_|refine dn ?_))
 all_goals first|omega|exact⟨by omega,by omega⟩|assumption|with_reducible exact fK (by kernel_rfl)|with_reducible exact fL (by kernel_rfl)|with_reducible exact fN (by kernel_rfl)|with_reducible exact fO (by kernel_rfl)|with_reducible exact fM (by kernel_rfl)|with_reducible exact fp (by kernel_rfl)|exact trivial|rfl|((with_reducible first|apply h0|apply h1|apply h2)<;>first|omega|trivial|omega|(refine⟨?_, ?_⟩<;>omega))
abbrev asB:=sumOf [dF,bx] [aZ] (λ_=>[]) (λ((_,_,ns,_,()),n,())=>(dC ns n,()))
abbrev asC:=sumOf [dF,bx] [bx] (λ((_,_,ns,_,()),n,())=>[0<=n/\n<((ns:Ns).length:Int)]) (λ((_,_,ns,_,()),n,())=>(tg ns n,()))
def scF(a:Int):Bool:=(a==11)||(a==12)||(a==13)
abbrev asD:=sumOf [gC] [aZ] (λ_=>[]) (λ(x,())=>(scF x,()))
abbrev asE:=sumOf [gC] [aZ] (λ_=>[]) (λ(x,())=>(oh x,()))
def cU:aQ:=[(57,asD),(59,asE),(58,asB),(65,asC),(61,eZ [dF,bx] bI (gS .i64)),(60,eZ [dF,bx] bI (gS .i64))]
def plI(ns:Ns)(n:Int):Prop:=∀j:Int,0<=j->j<n->nI (el ns j)<(ns.length:Int)
def plF(ns:Ns)(fs:Fs)(n:Int):Prop:=∀j:Int,0<=j->j<n->dC ns (fA (el fs j))=true/\dC ns (fB (el fs j))=true
abbrev b7(ns:Ns)(fs:Fs):Prop:=plI ns ns.length/\plF ns fs fs.length
def ago(ns:Ns)(fs:Fs):Nat:= @ite _ (b7 ns fs) (Classical.propDecidable _) 0 1
def agp(ns:Ns)(fs:Fs):Prop:=ns.length<=300/\fs.length<=300
abbrev ya:AL [dF]->List Prop:=λ((_,_,ns,fs,()),())=>[agp ns fs]
abbrev ake:AL [dF]->AV:=λ((_,_,ns,fs,()),())=>.s (.c7 (ago ns fs) true)
abbrev akf:AL [dF]->List Prop:=λ((_,_,ns,fs,()),())=>[agp ns fs,b7 ns fs]
abbrev plX(x:AL [dF])(ns:Ns)(fs:Fs):Prop:=x.1.2.2.1=ns/\x.1.2.2.2.1=fs
def fi:List (Nat×Norm):=[(2,⟨[],[1,3],0,[]⟩),(3,⟨[],[1,3],0,[]⟩),(6,⟨[],[1,3,4,5],0,[]⟩),(7,⟨[],[1,3,4,5],0,[]⟩),(10,⟨[],[1,3,4],0,[]⟩),(12,⟨[],[1],0,[]⟩),(13,⟨[],[1,6],0,[]⟩),(14,⟨[],[1,6],0,[]⟩),(18,⟨[],[1],0,[]⟩),(19,⟨[],[1,8],0,[]⟩),(20,⟨[],[1,8],0,[]⟩),(24,⟨[],[1,8,9],0,[]⟩),(27,⟨[],[],0,[]⟩)]
def tz(i1:Int)(s1:ByteArray)(r1:Vs)(r2:Ns)(r3:Fs):aR:=⟨sl 194 [(1,(.ptr 0 0)),(3,(.s (.int .i64 i1)))],[(.ad [(.s (.str s1)),(.s (.ro (.ab cV r1))),(.s (.ro (.ab cN r2))),(.s (.ro (.ab cF r3)))] 30)],(hd f35 2),(bt.mk none false 0 [] 0)⟩
def tA(i1:Int)(i2:Int)(s1:ByteArray)(r1:Vs)(r2:Ns)(r3:Fs)(s2:ByteArray)(i3:Int)(i4:Int)(i5:Int)(i6:Int)(s3:ByteArray)(s4:ByteArray)(s5:ByteArray)(b1:Bool)(r4:Vs)(r5:List ByteArray):aR:=⟨sl 194 [(1,(.ptr 0 0)),(3,(.s (.int .i64 i1))),(4,(.ptr 1 0)),(5,(.s (.int .i64 i2)))],[(.ad [(.s (.str s1)),(.s (.ro (.ab cV r1))),(.s (.ro (.ab cN r2))),(.s (.ro (.ab cF r3)))] 30),(.ad [(.s (.str s2)),(.s (.int .u8 i3)),(.s (.int .i64 i4)),(.s (.int .i64 i5)),(.s (.int .u8 i6)),(.s (.str s3)),(.s (.str s4)),(.s (.str s5)),(.s (.bool b1)),(.s (.ro (.ab cV r4))),(.s (.ro (.strs r5)))] 40)],(hd f35 6),(bt.mk none false 0 [] 0)⟩
def vZ(s1:ByteArray)(r1:Vs)(r2:Ns)(r3:Fs):aR:=⟨sl 194 [(1,(.ptr 0 0))],[(.ad [(.s (.str s1)),(.s (.ro (.ab cV r1))),(.s (.ro (.ab cN r2))),(.s (.ro (.ab cF r3)))] 30)],(hr f35 12),(bt.mk none false 0 [] 0)⟩
def zu(i1:Int)(i2:Int)(s1:ByteArray)(r1:Vs)(r2:Ns)(r3:Fs)(s2:ByteArray)(i3:Int)(i4:Int)(i5:Int)(i6:Int)(s3:ByteArray)(s4:ByteArray)(s5:ByteArray)(b1:Bool)(r4:Vs)(r5:List ByteArray):aR:=⟨sl 194 [(1,(.ptr 0 0)),(3,(.s (.int .i64 i1))),(4,(.ptr 1 0)),(5,(.s (.int .i64 i2)))],[(.ad [(.s (.str s1)),(.s (.ro (.ab cV r1))),(.s (.ro (.ab cN r2))),(.s (.ro (.ab cF r3)))] 30),(.ad [(.s (.str s2)),(.s (.int .u8 i3)),(.s (.int .i64 i4)),(.s (.int .i64 i5)),(.s (.int .u8 i6)),(.s (.str s3)),(.s (.str s4)),(.s (.str s5)),(.s (.bool b1)),(.s (.ro (.ab cV r4))),(.s (.ro (.strs r5)))] 40)],(hr f35 7),(bt.mk none false 0 [] 0)⟩
def v7(i1:Int)(s1:ByteArray)(r1:Vs)(r2:Ns)(r3:Fs)(s2:ByteArray)(i2:Int)(i3:Int)(i4:Int)(i5:Int)(s3:ByteArray)(s4:ByteArray)(s5:ByteArray)(b1:Bool)(r4:Vs)(r5:List ByteArray):aR:=⟨sl 194 [(1,(.ptr 0 0)),(3,(.s (.int .i64 i1))),(4,(.ptr 1 0))],[(.ad [(.s (.str s1)),(.s (.ro (.ab cV r1))),(.s (.ro (.ab cN r2))),(.s (.ro (.ab cF r3)))] 30),(.ad [(.s (.str s2)),(.s (.int .u8 i2)),(.s (.int .i64 i3)),(.s (.int .i64 i4)),(.s (.int .u8 i5)),(.s (.str s3)),(.s (.str s4)),(.s (.str s5)),(.s (.bool b1)),(.s (.ro (.ab cV r4))),(.s (.ro (.strs r5)))] 40)],(hr f35 10),(bt.mk none false 0 [] 0)⟩
def qu(i1:Int)(s1:ByteArray)(r1:Vs)(r2:Ns)(r3:Fs):aR:=⟨sl 194 [(1,(.ptr 0 0)),(6,(.s (.int .i64 i1)))],[(.ad [(.s (.str s1)),(.s (.ro (.ab cV r1))),(.s (.ro (.ab cN r2))),(.s (.ro (.ab cF r3)))] 30)],(hd f35 13),(bt.mk none false 0 [] 0)⟩
def tB(i1:Int)(s1:ByteArray)(r1:Vs)(r2:Ns)(r3:Fs):aR:=⟨sl 194 [(1,(.ptr 0 0)),(3,(.s (.int .i64 i1)))],[(.ad [(.s (.str s1)),(.s (.ro (.ab cV r1))),(.s (.ro (.ab cN r2))),(.s (.ro (.ab cF r3)))] 30)],(hr f35 3),(bt.mk none false 0 [] 0)⟩
def qv(i1:Int)(s1:ByteArray)(r1:Vs)(r2:Ns)(r3:Fs):aR:=⟨sl 194 [(1,(.ptr 0 0)),(6,(.s (.int .i64 i1)))],[(.ad [(.s (.str s1)),(.s (.ro (.ab cV r1))),(.s (.ro (.ab cN r2))),(.s (.ro (.ab cF r3)))] 30)],(hr f35 14),(bt.mk none false 0 [] 0)⟩
def v8(s1:ByteArray)(r1:Vs)(r2:Ns)(r3:Fs):aR:=⟨sl 194 [(1,(.ptr 0 0))],[(.ad [(.s (.str s1)),(.s (.ro (.ab cV r1))),(.s (.ro (.ab cN r2))),(.s (.ro (.ab cF r3)))] 30)],(hr f35 18),(bt.mk none false 0 [] 0)⟩
def qw(i1:Int)(s1:ByteArray)(r1:Vs)(r2:Ns)(r3:Fs):aR:=⟨sl 194 [(1,(.ptr 0 0)),(8,(.s (.int .i64 i1)))],[(.ad [(.s (.str s1)),(.s (.ro (.ab cV r1))),(.s (.ro (.ab cN r2))),(.s (.ro (.ab cF r3)))] 30)],(hd f35 19),(bt.mk none false 0 [] 0)⟩
def wa(i1:Int)(s1:ByteArray)(r1:Vs)(r2:Ns)(r3:Fs)(i2:Int)(i3:Int)(s2:ByteArray)(b1:Bool):aR:=⟨sl 194 [(1,(.ptr 0 0)),(8,(.s (.int .i64 i1))),(9,(.ptr 1 0))],[(.ad [(.s (.str s1)),(.s (.ro (.ab cV r1))),(.s (.ro (.ab cN r2))),(.s (.ro (.ab cF r3)))] 30),(.ad [(.s (.int .i64 i2)),(.s (.int .i64 i3)),(.s (.str s2)),(.s (.bool b1))] 47)],(hr f35 24),(bt.mk none false 0 [] 0)⟩
def wb:aR:=⟨sl 194 [],[],(hr f35 27),(bt.mk none false 0 [] 0)⟩
def lO(i1:Int)(s1:ByteArray)(r1:Vs)(r2:Ns)(r3:Fs):aR:=⟨sl 194 [(1,(.ptr 0 0)),(8,(.s (.int .i64 i1)))],[(.ad [(.s (.str s1)),(.s (.ro (.ab cV r1))),(.s (.ro (.ab cN r2))),(.s (.ro (.ab cF r3)))] 30)],(hr f35 20),(bt.mk none false 0 [] 0)⟩
theorem apX(a:ByteArray)(vs:Vs)(ns:Ns)(fs:Fs):run P cU.sum f35 fi (start f35 [jy a vs ns fs] [])=
 Tree.at (tz 0 a vs ns fs):=by kernel_rfl
theorem akg(i1:Int)(s1:ByteArray)(r1:Vs)(r2:Ns)(r3:Fs):run P cU.sum f35 fi (tz i1 s1 r1 r2 r3)=
 Tree.ite (decide (i1<(↑(List.length r2):Int))) (.aa ((0:Int)<=i1) (.aa (i1<(↑(List.length r2):Int)) (.at (tA i1 0 s1 r1 r2 r3 (nN (el r2 i1)) (nK (el r2 i1)) (nI (el r2 i1)) (nO (el r2 i1)) (nE (el r2 i1)) (nY (el r2 i1)) (nT (el r2 i1)) (nS (el r2 i1)) (nB (el r2 i1)) (nV (el r2 i1)) (nZ (el r2 i1)))))) (.at (vZ s1 r1 r2 r3)):=by kernel_rfl
theorem akh(i1:Int)(i2:Int)(s1:ByteArray)(r1:Vs)(r2:Ns)(r3:Fs)(s2:ByteArray)(i3:Int)(i4:Int)(i5:Int)(i6:Int)(s3:ByteArray)(s4:ByteArray)(s5:ByteArray)(b1:Bool)(r4:Vs)(r5:List ByteArray):run P cU.sum f35 fi (tA i1 i2 s1 r1 r2 r3 s2 i3 i4 i5 i6 s3 s4 s5 b1 r4 r5)=
 Tree.ite (decide (i2<i1)) (.aa ((0:Int)<=i2) (.aa (i2<(↑(List.length r2):Int)) (.ite (decide (nN (el r2 i2)=s2)) (.ret [.ad [.s (.str s1),.s (.ro (.ab cV r1)),.s (.ro (.ab cN r2)),.s (.ro (.ab cF r3))] 30,.ad [.s (.str s2),.s (.int .u8 i3),.s (.int .i64 i4),.s (.int .i64 i5),.s (.int .u8 i6),.s (.str s3),.s (.str s4),.s (.str s5),.s (.bool b1),.s (.ro (.ab cV r4)),.s (.ro (.strs r5))] 40] (.s (.ao false))) (.at (zu i1 i2 s1 r1 r2 r3 s2 i3 i4 i5 i6 s3 s4 s5 b1 r4 r5))))) (.at (v7 i1 s1 r1 r2 r3 s2 i3 i4 i5 i6 s3 s4 s5 b1 r4 r5)):=by kernel_rfl
theorem agq(s1:ByteArray)(r1:Vs)(r2:Ns)(r3:Fs):run P cU.sum f35 fi (vZ s1 r1 r2 r3)=
 Tree.at (qu 0 s1 r1 r2 r3):=by kernel_rfl
theorem aki(i1:Int)(i2:Int)(s1:ByteArray)(r1:Vs)(r2:Ns)(r3:Fs)(s2:ByteArray)(i3:Int)(i4:Int)(i5:Int)(i6:Int)(s3:ByteArray)(s4:ByteArray)(s5:ByteArray)(b1:Bool)(r4:Vs)(r5:List ByteArray):run P cU.sum f35 fi (zu i1 i2 s1 r1 r2 r3 s2 i3 i4 i5 i6 s3 s4 s5 b1 r4 r5)=
 Tree.aa (aD (i2+1)) (.at (tA i1 (i2+1) s1 r1 r2 r3 s2 i3 i4 i5 i6 s3 s4 s5 b1 r4 r5)):=by kernel_rfl
theorem agr(i1:Int)(s1:ByteArray)(r1:Vs)(r2:Ns)(r3:Fs)(s2:ByteArray)(i2:Int)(i3:Int)(i4:Int)(i5:Int)(s3:ByteArray)(s4:ByteArray)(s5:ByteArray)(b1:Bool)(r4:Vs)(r5:List ByteArray):run P cU.sum f35 fi (v7 i1 s1 r1 r2 r3 s2 i2 i3 i4 i5 s3 s4 s5 b1 r4 r5)=
 Tree.ite (i3 !=(-1)) (.ite (decide (i3<0)) (.ret [.ad [.s (.str s1),.s (.ro (.ab cV r1)),.s (.ro (.ab cN r2)),.s (.ro (.ab cF r3))] 30,.ad [.s (.str s2),.s (.int .u8 i2),.s (.int .i64 i3),.s (.int .i64 i4),.s (.int .u8 i5),.s (.str s3),.s (.str s4),.s (.str s5),.s (.bool b1),.s (.ro (.ab cV r4)),.s (.ro (.strs r5))] 40] (.s (.ao false))) (.ite (decide (i3>=i1)) (.ret [.ad [.s (.str s1),.s (.ro (.ab cV r1)),.s (.ro (.ab cN r2)),.s (.ro (.ab cF r3))] 30,.ad [.s (.str s2),.s (.int .u8 i2),.s (.int .i64 i3),.s (.int .i64 i4),.s (.int .u8 i5),.s (.str s3),.s (.str s4),.s (.str s5),.s (.bool b1),.s (.ro (.ab cV r4)),.s (.ro (.strs r5))] 40] (.s (.ao false))) (.aa ((0:Int)<=i3) (.aa (i3<(↑(List.length r2):Int)) (.ite (!scF (nK (el r2 i3))) (.ret [.ad [.s (.str s1),.s (.ro (.ab cV r1)),.s (.ro (.ab cN r2)),.s (.ro (.ab cF r3))] 30,.ad [.s (.str s2),.s (.int .u8 i2),.s (.int .i64 i3),.s (.int .i64 i4),.s (.int .u8 i5),.s (.str s3),.s (.str s4),.s (.str s5),.s (.bool b1),.s (.ro (.ab cV r4)),.s (.ro (.strs r5))] 40] (.s (.ao false))) (.at (tB i1 s1 r1 r2 r3))))))) (.at (tB i1 s1 r1 r2 r3)):=by kernel_rfl
theorem ags(i1:Int)(s1:ByteArray)(r1:Vs)(r2:Ns)(r3:Fs):run P cU.sum f35 fi (qu i1 s1 r1 r2 r3)=
 Tree.ite (decide (i1<(↑(List.length r2):Int))) (.aa ((0:Int)<=i1) (.aa (i1<(↑(List.length r2):Int)) (.ite (nK (el r2 i1)==15) (.ite (!dC r2 (nO (el r2 i1))) (.ret [.ad [.s (.str s1),.s (.ro (.ab cV r1)),.s (.ro (.ab cN r2)),.s (.ro (.ab cF r3))] 30,.ad [.s (.str (nN (el r2 i1))),.s (.int .u8 (nK (el r2 i1))),.s (.int .i64 (nI (el r2 i1))),.s (.int .i64 (nO (el r2 i1))),.s (.int .u8 (nE (el r2 i1))),.s (.str (nY (el r2 i1))),.s (.str (nT (el r2 i1))),.s (.str (nS (el r2 i1))),.s (.bool (nB (el r2 i1))),.s (.ro (.ab cV (nV (el r2 i1)))),.s (.ro (.strs (nZ (el r2 i1))))] 40] (.s (.ao false))) (.aa ((0:Int)<=nO (el r2 i1)) (.aa (nO (el r2 i1)<(↑(List.length r2):Int)) (.ite (!oh (nK (el r2 (nO (el r2 i1))))) (.ret [.ad [.s (.str s1),.s (.ro (.ab cV r1)),.s (.ro (.ab cN r2)),.s (.ro (.ab cF r3))] 30,.ad [.s (.str (nN (el r2 i1))),.s (.int .u8 (nK (el r2 i1))),.s (.int .i64 (nI (el r2 i1))),.s (.int .i64 (nO (el r2 i1))),.s (.int .u8 (nE (el r2 i1))),.s (.str (nY (el r2 i1))),.s (.str (nT (el r2 i1))),.s (.str (nS (el r2 i1))),.s (.bool (nB (el r2 i1))),.s (.ro (.ab cV (nV (el r2 i1)))),.s (.ro (.strs (nZ (el r2 i1))))] 40] (.s (.ao false))) (.aa ((0:Int)<=nO (el r2 i1)) (.aa (nO (el r2 i1)<(↑(List.length r2):Int)) (.ite (nI (el r2 (nO (el r2 i1))) !=nI (el r2 i1)) (.ret [.ad [.s (.str s1),.s (.ro (.ab cV r1)),.s (.ro (.ab cN r2)),.s (.ro (.ab cF r3))] 30,.ad [.s (.str (nN (el r2 i1))),.s (.int .u8 (nK (el r2 i1))),.s (.int .i64 (nI (el r2 i1))),.s (.int .i64 (nO (el r2 i1))),.s (.int .u8 (nE (el r2 i1))),.s (.str (nY (el r2 i1))),.s (.str (nT (el r2 i1))),.s (.str (nS (el r2 i1))),.s (.bool (nB (el r2 i1))),.s (.ro (.ab cV (nV (el r2 i1)))),.s (.ro (.strs (nZ (el r2 i1))))] 40] (.s (.ao false))) (.at (qv i1 s1 r1 r2 r3))))))))) (.at (qv i1 s1 r1 r2 r3))))) (.at (v8 s1 r1 r2 r3)):=by kernel_rfl
theorem akj(i1:Int)(s1:ByteArray)(r1:Vs)(r2:Ns)(r3:Fs):run P cU.sum f35 fi (tB i1 s1 r1 r2 r3)=
 Tree.aa (aD (i1+1)) (.at (tz (i1+1) s1 r1 r2 r3)):=by kernel_rfl
theorem agt(i1:Int)(s1:ByteArray)(r1:Vs)(r2:Ns)(r3:Fs):run P cU.sum f35 fi (qv i1 s1 r1 r2 r3)=
 Tree.aa (aD (i1+1)) (.at (qu (i1+1) s1 r1 r2 r3)):=by kernel_rfl
theorem agu(s1:ByteArray)(r1:Vs)(r2:Ns)(r3:Fs):run P cU.sum f35 fi (v8 s1 r1 r2 r3)=
 Tree.at (qw 0 s1 r1 r2 r3):=by kernel_rfl
theorem agv(i1:Int)(s1:ByteArray)(r1:Vs)(r2:Ns)(r3:Fs):run P cU.sum f35 fi (qw i1 s1 r1 r2 r3)=
 Tree.ite (decide (i1<(↑(List.length r3):Int))) (.aa ((0:Int)<=i1) (.aa (i1<(↑(List.length r3):Int)) (.ite (!dC r2 (fA (el r3 i1))) (.ret [.ad [.s (.str s1),.s (.ro (.ab cV r1)),.s (.ro (.ab cN r2)),.s (.ro (.ab cF r3))] 30,.ad [.s (.int .i64 (fA (el r3 i1))),.s (.int .i64 (fB (el r3 i1))),.s (.str (fC (el r3 i1))),.s (.bool (fD (el r3 i1)))] 47] (.s (.ao false))) (.ite (!dC r2 (fB (el r3 i1))) (.ret [.ad [.s (.str s1),.s (.ro (.ab cV r1)),.s (.ro (.ab cN r2)),.s (.ro (.ab cF r3))] 30,.ad [.s (.int .i64 (fA (el r3 i1))),.s (.int .i64 (fB (el r3 i1))),.s (.str (fC (el r3 i1))),.s (.bool (fD (el r3 i1)))] 47] (.s (.ao false))) (.at (wa i1 s1 r1 r2 r3 (fA (el r3 i1)) (fB (el r3 i1)) (fC (el r3 i1)) (fD (el r3 i1)))))))) (.at wb):=by kernel_rfl
theorem agw(i1:Int)(s1:ByteArray)(r1:Vs)(r2:Ns)(r3:Fs)(i2:Int)(i3:Int)(s2:ByteArray)(b1:Bool):run P cU.sum f35 fi (wa i1 s1 r1 r2 r3 i2 i3 s2 b1)=
 Tree.aa ((0:Int)<=i2)
 (.aa (i2<(↑(List.length r2):Int))
   (.aa ((0:Int)<=i3)
     (.aa (i3<(↑(List.length r2):Int))
       (.ite (nI (el r2 i2) !=nI (el r2 i3)) (.ret [.ad [.s (.str s1),.s (.ro (.ab cV r1)),.s (.ro (.ab cN r2)),.s (.ro (.ab cF r3))] 30,.ad [.s (.int .i64 i2),.s (.int .i64 i3),.s (.str s2),.s (.bool b1)] 47,.ad [.s (.str (nN (el r2 i2))),.s (.int .u8 (nK (el r2 i2))),.s (.int .i64 (nI (el r2 i2))),.s (.int .i64 (nO (el r2 i2))),.s (.int .u8 (nE (el r2 i2))),.s (.str (nY (el r2 i2))),.s (.str (nT (el r2 i2))),.s (.str (nS (el r2 i2))),.s (.bool (nB (el r2 i2))),.s (.ro (.ab cV (nV (el r2 i2)))),.s (.ro (.strs (nZ (el r2 i2))))] 40,.ad [.s (.str (nN (el r2 i3))),.s (.int .u8 (nK (el r2 i3))),.s (.int .i64 (nI (el r2 i3))),.s (.int .i64 (nO (el r2 i3))),.s (.int .u8 (nE (el r2 i3))),.s (.str (nY (el r2 i3))),.s (.str (nT (el r2 i3))),.s (.str (nS (el r2 i3))),.s (.bool (nB (el r2 i3))),.s (.ro (.ab cV (nV (el r2 i3)))),.s (.ro (.strs (nZ (el r2 i3))))] 40] (.s (.ao false)))
         (.ite (nK (el r2 i3)==1) (.ret [.ad [.s (.str s1),.s (.ro (.ab cV r1)),.s (.ro (.ab cN r2)),.s (.ro (.ab cF r3))] 30,.ad [.s (.int .i64 i2),.s (.int .i64 i3),.s (.str s2),.s (.bool b1)] 47,.ad [.s (.str (nN (el r2 i2))),.s (.int .u8 (nK (el r2 i2))),.s (.int .i64 (nI (el r2 i2))),.s (.int .i64 (nO (el r2 i2))),.s (.int .u8 (nE (el r2 i2))),.s (.str (nY (el r2 i2))),.s (.str (nT (el r2 i2))),.s (.str (nS (el r2 i2))),.s (.bool (nB (el r2 i2))),.s (.ro (.ab cV (nV (el r2 i2)))),.s (.ro (.strs (nZ (el r2 i2))))] 40,.ad [.s (.str (nN (el r2 i3))),.s (.int .u8 (nK (el r2 i3))),.s (.int .i64 (nI (el r2 i3))),.s (.int .i64 (nO (el r2 i3))),.s (.int .u8 (nE (el r2 i3))),.s (.str (nY (el r2 i3))),.s (.str (nT (el r2 i3))),.s (.str (nS (el r2 i3))),.s (.bool (nB (el r2 i3))),.s (.ro (.ab cV (nV (el r2 i3)))),.s (.ro (.strs (nZ (el r2 i3))))] 40] (.s (.ao false)))
           (.ite (nK (el r2 i3)==15) (.ret [.ad [.s (.str s1),.s (.ro (.ab cV r1)),.s (.ro (.ab cN r2)),.s (.ro (.ab cF r3))] 30,.ad [.s (.int .i64 i2),.s (.int .i64 i3),.s (.str s2),.s (.bool b1)] 47,.ad [.s (.str (nN (el r2 i2))),.s (.int .u8 (nK (el r2 i2))),.s (.int .i64 (nI (el r2 i2))),.s (.int .i64 (nO (el r2 i2))),.s (.int .u8 (nE (el r2 i2))),.s (.str (nY (el r2 i2))),.s (.str (nT (el r2 i2))),.s (.str (nS (el r2 i2))),.s (.bool (nB (el r2 i2))),.s (.ro (.ab cV (nV (el r2 i2)))),.s (.ro (.strs (nZ (el r2 i2))))] 40,.ad [.s (.str (nN (el r2 i3))),.s (.int .u8 (nK (el r2 i3))),.s (.int .i64 (nI (el r2 i3))),.s (.int .i64 (nO (el r2 i3))),.s (.int .u8 (nE (el r2 i3))),.s (.str (nY (el r2 i3))),.s (.str (nT (el r2 i3))),.s (.str (nS (el r2 i3))),.s (.bool (nB (el r2 i3))),.s (.ro (.ab cV (nV (el r2 i3)))),.s (.ro (.strs (nZ (el r2 i3))))] 40] (.s (.ao false)))
             (.ite (nK (el r2 i3)==13) (.ret [.ad [.s (.str s1),.s (.ro (.ab cV r1)),.s (.ro (.ab cN r2)),.s (.ro (.ab cF r3))] 30,.ad [.s (.int .i64 i2),.s (.int .i64 i3),.s (.str s2),.s (.bool b1)] 47,.ad [.s (.str (nN (el r2 i2))),.s (.int .u8 (nK (el r2 i2))),.s (.int .i64 (nI (el r2 i2))),.s (.int .i64 (nO (el r2 i2))),.s (.int .u8 (nE (el r2 i2))),.s (.str (nY (el r2 i2))),.s (.str (nT (el r2 i2))),.s (.str (nS (el r2 i2))),.s (.bool (nB (el r2 i2))),.s (.ro (.ab cV (nV (el r2 i2)))),.s (.ro (.strs (nZ (el r2 i2))))] 40,.ad [.s (.str (nN (el r2 i3))),.s (.int .u8 (nK (el r2 i3))),.s (.int .i64 (nI (el r2 i3))),.s (.int .i64 (nO (el r2 i3))),.s (.int .u8 (nE (el r2 i3))),.s (.str (nY (el r2 i3))),.s (.str (nT (el r2 i3))),.s (.str (nS (el r2 i3))),.s (.bool (nB (el r2 i3))),.s (.ro (.ab cV (nV (el r2 i3)))),.s (.ro (.strs (nZ (el r2 i3))))] 40] (.s (.ao false)))
               (.ite (nK (el r2 i3)==6)
                 (.ite (nE (el r2 i3)==6) (.ret [.ad [.s (.str s1),.s (.ro (.ab cV r1)),.s (.ro (.ab cN r2)),.s (.ro (.ab cF r3))] 30,.ad [.s (.int .i64 i2),.s (.int .i64 i3),.s (.str s2),.s (.bool b1)] 47,.ad [.s (.str (nN (el r2 i2))),.s (.int .u8 (nK (el r2 i2))),.s (.int .i64 (nI (el r2 i2))),.s (.int .i64 (nO (el r2 i2))),.s (.int .u8 (nE (el r2 i2))),.s (.str (nY (el r2 i2))),.s (.str (nT (el r2 i2))),.s (.str (nS (el r2 i2))),.s (.bool (nB (el r2 i2))),.s (.ro (.ab cV (nV (el r2 i2)))),.s (.ro (.strs (nZ (el r2 i2))))] 40,.ad [.s (.str (nN (el r2 i3))),.s (.int .u8 (nK (el r2 i3))),.s (.int .i64 (nI (el r2 i3))),.s (.int .i64 (nO (el r2 i3))),.s (.int .u8 (nE (el r2 i3))),.s (.str (nY (el r2 i3))),.s (.str (nT (el r2 i3))),.s (.str (nS (el r2 i3))),.s (.bool (nB (el r2 i3))),.s (.ro (.ab cV (nV (el r2 i3)))),.s (.ro (.strs (nZ (el r2 i3))))] 40] (.s (.ao false)))
                   (.ite (nK (el r2 i2)==2) (.ret [.ad [.s (.str s1),.s (.ro (.ab cV r1)),.s (.ro (.ab cN r2)),.s (.ro (.ab cF r3))] 30,.ad [.s (.int .i64 i2),.s (.int .i64 i3),.s (.str s2),.s (.bool b1)] 47,.ad [.s (.str (nN (el r2 i2))),.s (.int .u8 (nK (el r2 i2))),.s (.int .i64 (nI (el r2 i2))),.s (.int .i64 (nO (el r2 i2))),.s (.int .u8 (nE (el r2 i2))),.s (.str (nY (el r2 i2))),.s (.str (nT (el r2 i2))),.s (.str (nS (el r2 i2))),.s (.bool (nB (el r2 i2))),.s (.ro (.ab cV (nV (el r2 i2)))),.s (.ro (.strs (nZ (el r2 i2))))] 40,.ad [.s (.str (nN (el r2 i3))),.s (.int .u8 (nK (el r2 i3))),.s (.int .i64 (nI (el r2 i3))),.s (.int .i64 (nO (el r2 i3))),.s (.int .u8 (nE (el r2 i3))),.s (.str (nY (el r2 i3))),.s (.str (nT (el r2 i3))),.s (.str (nS (el r2 i3))),.s (.bool (nB (el r2 i3))),.s (.ro (.ab cV (nV (el r2 i3)))),.s (.ro (.strs (nZ (el r2 i3))))] 40] (.s (.ao false))) (.ite (nK (el r2 i2)==13) (.ret [.ad [.s (.str s1),.s (.ro (.ab cV r1)),.s (.ro (.ab cN r2)),.s (.ro (.ab cF r3))] 30,.ad [.s (.int .i64 i2),.s (.int .i64 i3),.s (.str s2),.s (.bool b1)] 47,.ad [.s (.str (nN (el r2 i2))),.s (.int .u8 (nK (el r2 i2))),.s (.int .i64 (nI (el r2 i2))),.s (.int .i64 (nO (el r2 i2))),.s (.int .u8 (nE (el r2 i2))),.s (.str (nY (el r2 i2))),.s (.str (nT (el r2 i2))),.s (.str (nS (el r2 i2))),.s (.bool (nB (el r2 i2))),.s (.ro (.ab cV (nV (el r2 i2)))),.s (.ro (.strs (nZ (el r2 i2))))] 40,.ad [.s (.str (nN (el r2 i3))),.s (.int .u8 (nK (el r2 i3))),.s (.int .i64 (nI (el r2 i3))),.s (.int .i64 (nO (el r2 i3))),.s (.int .u8 (nE (el r2 i3))),.s (.str (nY (el r2 i3))),.s (.str (nT (el r2 i3))),.s (.str (nS (el r2 i3))),.s (.bool (nB (el r2 i3))),.s (.ro (.ab cV (nV (el r2 i3)))),.s (.ro (.strs (nZ (el r2 i3))))] 40] (.s (.ao false))) (.ite (nK (el r2 i2)==5) (.ite (nE (el r2 i2)==6) (.ret [.ad [.s (.str s1),.s (.ro (.ab cV r1)),.s (.ro (.ab cN r2)),.s (.ro (.ab cF r3))] 30,.ad [.s (.int .i64 i2),.s (.int .i64 i3),.s (.str s2),.s (.bool b1)] 47,.ad [.s (.str (nN (el r2 i2))),.s (.int .u8 (nK (el r2 i2))),.s (.int .i64 (nI (el r2 i2))),.s (.int .i64 (nO (el r2 i2))),.s (.int .u8 (nE (el r2 i2))),.s (.str (nY (el r2 i2))),.s (.str (nT (el r2 i2))),.s (.str (nS (el r2 i2))),.s (.bool (nB (el r2 i2))),.s (.ro (.ab cV (nV (el r2 i2)))),.s (.ro (.strs (nZ (el r2 i2))))] 40,.ad [.s (.str (nN (el r2 i3))),.s (.int .u8 (nK (el r2 i3))),.s (.int .i64 (nI (el r2 i3))),.s (.int .i64 (nO (el r2 i3))),.s (.int .u8 (nE (el r2 i3))),.s (.str (nY (el r2 i3))),.s (.str (nT (el r2 i3))),.s (.str (nS (el r2 i3))),.s (.bool (nB (el r2 i3))),.s (.ro (.ab cV (nV (el r2 i3)))),.s (.ro (.strs (nZ (el r2 i3))))] 40] (.s (.ao false))) (.at (lO i1 s1 r1 r2 r3))) (.at (lO i1 s1 r1 r2 r3))))))
                 (.ite (nK (el r2 i2)==2) (.ret [.ad [.s (.str s1),.s (.ro (.ab cV r1)),.s (.ro (.ab cN r2)),.s (.ro (.ab cF r3))] 30,.ad [.s (.int .i64 i2),.s (.int .i64 i3),.s (.str s2),.s (.bool b1)] 47,.ad [.s (.str (nN (el r2 i2))),.s (.int .u8 (nK (el r2 i2))),.s (.int .i64 (nI (el r2 i2))),.s (.int .i64 (nO (el r2 i2))),.s (.int .u8 (nE (el r2 i2))),.s (.str (nY (el r2 i2))),.s (.str (nT (el r2 i2))),.s (.str (nS (el r2 i2))),.s (.bool (nB (el r2 i2))),.s (.ro (.ab cV (nV (el r2 i2)))),.s (.ro (.strs (nZ (el r2 i2))))] 40,.ad [.s (.str (nN (el r2 i3))),.s (.int .u8 (nK (el r2 i3))),.s (.int .i64 (nI (el r2 i3))),.s (.int .i64 (nO (el r2 i3))),.s (.int .u8 (nE (el r2 i3))),.s (.str (nY (el r2 i3))),.s (.str (nT (el r2 i3))),.s (.str (nS (el r2 i3))),.s (.bool (nB (el r2 i3))),.s (.ro (.ab cV (nV (el r2 i3)))),.s (.ro (.strs (nZ (el r2 i3))))] 40] (.s (.ao false))) (.ite (nK (el r2 i2)==13) (.ret [.ad [.s (.str s1),.s (.ro (.ab cV r1)),.s (.ro (.ab cN r2)),.s (.ro (.ab cF r3))] 30,.ad [.s (.int .i64 i2),.s (.int .i64 i3),.s (.str s2),.s (.bool b1)] 47,.ad [.s (.str (nN (el r2 i2))),.s (.int .u8 (nK (el r2 i2))),.s (.int .i64 (nI (el r2 i2))),.s (.int .i64 (nO (el r2 i2))),.s (.int .u8 (nE (el r2 i2))),.s (.str (nY (el r2 i2))),.s (.str (nT (el r2 i2))),.s (.str (nS (el r2 i2))),.s (.bool (nB (el r2 i2))),.s (.ro (.ab cV (nV (el r2 i2)))),.s (.ro (.strs (nZ (el r2 i2))))] 40,.ad [.s (.str (nN (el r2 i3))),.s (.int .u8 (nK (el r2 i3))),.s (.int .i64 (nI (el r2 i3))),.s (.int .i64 (nO (el r2 i3))),.s (.int .u8 (nE (el r2 i3))),.s (.str (nY (el r2 i3))),.s (.str (nT (el r2 i3))),.s (.str (nS (el r2 i3))),.s (.bool (nB (el r2 i3))),.s (.ro (.ab cV (nV (el r2 i3)))),.s (.ro (.strs (nZ (el r2 i3))))] 40] (.s (.ao false))) (.ite (nK (el r2 i2)==5) (.ite (nE (el r2 i2)==6) (.ret [.ad [.s (.str s1),.s (.ro (.ab cV r1)),.s (.ro (.ab cN r2)),.s (.ro (.ab cF r3))] 30,.ad [.s (.int .i64 i2),.s (.int .i64 i3),.s (.str s2),.s (.bool b1)] 47,.ad [.s (.str (nN (el r2 i2))),.s (.int .u8 (nK (el r2 i2))),.s (.int .i64 (nI (el r2 i2))),.s (.int .i64 (nO (el r2 i2))),.s (.int .u8 (nE (el r2 i2))),.s (.str (nY (el r2 i2))),.s (.str (nT (el r2 i2))),.s (.str (nS (el r2 i2))),.s (.bool (nB (el r2 i2))),.s (.ro (.ab cV (nV (el r2 i2)))),.s (.ro (.strs (nZ (el r2 i2))))] 40,.ad [.s (.str (nN (el r2 i3))),.s (.int .u8 (nK (el r2 i3))),.s (.int .i64 (nI (el r2 i3))),.s (.int .i64 (nO (el r2 i3))),.s (.int .u8 (nE (el r2 i3))),.s (.str (nY (el r2 i3))),.s (.str (nT (el r2 i3))),.s (.str (nS (el r2 i3))),.s (.bool (nB (el r2 i3))),.s (.ro (.ab cV (nV (el r2 i3)))),.s (.ro (.strs (nZ (el r2 i3))))] 40] (.s (.ao false))) (.at (lO i1 s1 r1 r2 r3))) (.at (lO i1 s1 r1 r2 r3))))))))))))):=by kernel_rfl
theorem agx:run P cU.sum f35 fi (wb)=
 Tree.ret [] (.s (.ao true)):=by kernel_rfl
theorem agy(i1:Int)(s1:ByteArray)(r1:Vs)(r2:Ns)(r3:Fs):run P cU.sum f35 fi (lO i1 s1 r1 r2 r3)=
 Tree.aa (aD (i1+1)) (.at (qw (i1+1) s1 r1 r2 r3)):=by kernel_rfl
theorem apY{Z:aP}:cf P Z 57 [gC] [aZ] (λ_=>[]) (λ(x,())=>(scF x,())):=by
 refine a6 func57 (by kernel_rfl) (by kernel_rfl) ?_;rintro⟨(x:Int),⟨⟩⟩ _ _ X hX hz;show Safe P 57 X (Ends [aZ] (scF x,())) _;refine go hz hX aQ.Ok.nil func57 (asv x) ?_;unfold scF
 cases h1:x==11<;>cases h2:x==12<;>cases h3:x==13<;>(
  repeat' (first|refine af rfl ?_|refine ak rfl ?_)
  all_goals exact aL _ rfl (by kernel_rfl))
theorem apZ{Z:aP}:cf P Z 59 [gC] [aZ] (λ_=>[]) (λ(x,())=>(oh x,())):=by
 refine a6 func59 (by kernel_rfl) (by kernel_rfl) ?_;rintro⟨(x:Int),⟨⟩⟩ _ _ X hX hz;show Safe P 59 X (Ends [aZ] (oh x,())) _;refine go hz hX aQ.Ok.nil func59 (auH x) ?_;unfold oh
 cases h1:x==3<;>cases h2:x==11<;>cases h3:x==12<;>cases h4:x==14<;>(
  repeat' (first|refine af rfl ?_|refine ak rfl ?_)
  all_goals exact aL _ rfl (by kernel_rfl))
theorem aY{Z:aP}:cU.Ok P Z:=aQ.Ok.cons apY.sum (aQ.Ok.cons apZ.sum (aQ.Ok.cons amA.sum (aQ.Ok.cons amB.sum (aQ.Ok.cons (amD.sum (fo [dF,bx])) (aQ.Ok.cons (amE.sum (fo [dF,bx])) aQ.Ok.nil)))))
theorem asF{ns:Ns}:plI ns 0:=λj h0 h1=>by omega
theorem asG{ns:Ns}{fs:Fs}:plF ns fs 0:=λj h0 h1=>by omega
theorem abB{ns:Ns}{n:Int}(h:plI ns n)(k:nI (el ns n)<(ns.length:Int)):plI ns (n+1):=λj h0 h1=>by
 by_cases e:j=n;subst e;exact k;exact h j h0 (by omega)
theorem abC{ns:Ns}{fs:Fs}{n:Int}(h:plF ns fs n)(k:dC ns (fA (el fs n))=true/\dC ns (fB (el fs n))=true):plF ns fs (n+1):=λj h0 h1=>by
 by_cases e:j=n;subst e;exact k;exact h j h0 (by omega)
theorem aeN{ns:Ns}{n:Int}(h:plI ns n)(k:(ns.length:Int)<=n):plI ns ns.length:=λj h0 h1=>h j h0 (by omega)
theorem aeO{ns:Ns}{fs:Fs}{n:Int}(h:plF ns fs n)(k:(fs.length:Int)<=n):plF ns fs fs.length:=λj h0 h1=>h j h0 (by omega)
theorem akk{ns:Ns}{fs:Fs}(h:b7 ns fs):ago ns fs=0:=by unfold ago;exact if_pos h
theorem adm{ns:Ns}{fs:Fs}(h:ago ns fs=0):b7 ns fs:=by
 unfold ago at h;by_cases k:b7 ns fs;exact k;rw[if_neg k]at h;cases h
theorem aeP{ns:Ns}{fs:Fs}(h:b7 ns fs){i:Int}(h0:0<=i)(h1:i<(ns.length:Int)):nI (el ns i)<(ns.length:Int):=h.1 i h0 h1
theorem aeQ{ns:Ns}{fs:Fs}(h:b7 ns fs){i:Int}(h0:0<=i)(h1:i<(fs.length:Int)):dC ns (fB (el fs i))=true:=(h.2 i h0 h1).2
theorem oI{ns:Ns}{i:Int}(h:dC ns i=true):0<=i/\i<(ns.length:Int):=of_decide_eq_true h
abbrev fj(X:Ctx)(x:AL [dF])(c:aR):Prop:=Safe P 35 X (dc (oG [dF] ya ake) x) c
def wc(X:Ctx)(x:AL [dF])(N:Nat):Prop:=(∀(i1:Int) (s1:ByteArray) (r1:Vs) (r2:Ns) (r3:Fs),(1000000*(301 - i1)).toNat+2000900000<N->(plX x r2 r3/\plI r2 i1/\(r2.length<=300/\r3.length<=300/\0<=i1/\i1<=r2.length))->fj X x (tz i1 s1 r1 r2 r3))/\(∀(i1:Int) (i2:Int) (s1:ByteArray) (r1:Vs) (r2:Ns) (r3:Fs) (s2:ByteArray) (i3:Int) (i4:Int) (i5:Int) (i6:Int) (s3:ByteArray) (s4:ByteArray) (s5:ByteArray) (b1:Bool) (r4:Vs) (r5:List ByteArray),(1000000*(301 - i1)+800000 - 2*i2).toNat+2000000000<N->(plX x r2 r3/\plI r2 i1/\(r2.length<=300/\r3.length<=300/\0<=i1/\i1<r2.length/\0<=i2/\i2<=i1/\i4=nI (el r2 i1)))->fj X x (tA i1 i2 s1 r1 r2 r3 s2 i3 i4 i5 i6 s3 s4 s5 b1 r4 r5))/\(∀(s1:ByteArray) (r1:Vs) (r2:Ns) (r3:Fs),1999999999<N->(plX x r2 r3/\plI r2 r2.length/\(r2.length<=300/\r3.length<=300))->fj X x (vZ s1 r1 r2 r3))/\(∀(i1:Int) (i2:Int) (s1:ByteArray) (r1:Vs) (r2:Ns) (r3:Fs) (s2:ByteArray) (i3:Int) (i4:Int) (i5:Int) (i6:Int) (s3:ByteArray) (s4:ByteArray) (s5:ByteArray) (b1:Bool) (r4:Vs) (r5:List ByteArray),(1000000*(301 - i1)+799999 - 2*i2).toNat+2000000000<N->(plX x r2 r3/\plI r2 i1/\(r2.length<=300/\r3.length<=300/\0<=i1/\i1<r2.length/\0<=i2/\i2<i1/\i4=nI (el r2 i1)))->fj X x (zu i1 i2 s1 r1 r2 r3 s2 i3 i4 i5 i6 s3 s4 s5 b1 r4 r5))/\(∀(i1:Int) (s1:ByteArray) (r1:Vs) (r2:Ns) (r3:Fs) (s2:ByteArray) (i2:Int) (i3:Int) (i4:Int) (i5:Int) (s3:ByteArray) (s4:ByteArray) (s5:ByteArray) (b1:Bool) (r4:Vs) (r5:List ByteArray),(1000000*(301 - i1)+700000).toNat+2000000000<N->(plX x r2 r3/\plI r2 i1/\(r2.length<=300/\r3.length<=300/\0<=i1/\i1<r2.length/\i3=nI (el r2 i1)))->fj X x (v7 i1 s1 r1 r2 r3 s2 i2 i3 i4 i5 s3 s4 s5 b1 r4 r5))/\(∀(i1:Int) (s1:ByteArray) (r1:Vs) (r2:Ns) (r3:Fs),(1000000*(301 - i1)).toNat+1000900000<N->(plX x r2 r3/\plI r2 r2.length/\(r2.length<=300/\r3.length<=300/\0<=i1/\i1<=r2.length))->fj X x (qu i1 s1 r1 r2 r3))/\(∀(i1:Int) (s1:ByteArray) (r1:Vs) (r2:Ns) (r3:Fs),(1000000*(301 - i1)+600000).toNat+2000000000<N->(plX x r2 r3/\plI r2 i1/\(r2.length<=300/\r3.length<=300/\0<=i1/\i1<r2.length/\nI (el r2 i1)<r2.length))->fj X x (tB i1 s1 r1 r2 r3))/\(∀(i1:Int) (s1:ByteArray) (r1:Vs) (r2:Ns) (r3:Fs),(1000000*(301 - i1)).toNat+1000800000<N->(plX x r2 r3/\plI r2 r2.length/\(r2.length<=300/\r3.length<=300/\0<=i1/\i1<r2.length))->fj X x (qv i1 s1 r1 r2 r3))/\(∀(s1:ByteArray) (r1:Vs) (r2:Ns) (r3:Fs),999999999<N->(plX x r2 r3/\plI r2 r2.length/\(r2.length<=300/\r3.length<=300))->fj X x (v8 s1 r1 r2 r3))/\(∀(i1:Int) (s1:ByteArray) (r1:Vs) (r2:Ns) (r3:Fs),(1000000*(301 - i1)).toNat+900000<N->(plX x r2 r3/\(plI r2 r2.length/\plF r2 r3 i1)/\(r2.length<=300/\r3.length<=300/\0<=i1/\i1<=r3.length))->fj X x (qw i1 s1 r1 r2 r3))/\(∀(i1:Int) (s1:ByteArray) (r1:Vs) (r2:Ns) (r3:Fs) (i2:Int) (i3:Int) (s2:ByteArray) (b1:Bool),(1000000*(301 - i1)).toNat+800000<N->(plX x r2 r3/\((plI r2 r2.length/\plF r2 r3 i1)/\dC r2 (fA (el r3 i1))=true/\dC r2 (fB (el r3 i1))=true)/\(r2.length<=300/\r3.length<=300/\0<=i1/\i1<r3.length/\0<=i2/\i2<r2.length/\0<=i3/\i3<r2.length))->fj X x (wa i1 s1 r1 r2 r3 i2 i3 s2 b1))/\(0<N->(b7 x.1.2.2.1 x.1.2.2.2.1)->fj X x (wb))/\(∀(i1:Int) (s1:ByteArray) (r1:Vs) (r2:Ns) (r3:Fs),(1000000*(301 - i1)).toNat+700000<N->(plX x r2 r3/\((plI r2 r2.length/\plF r2 r3 i1)/\dC r2 (fA (el r3 i1))=true/\dC r2 (fB (el r3 i1))=true)/\(r2.length<=300/\r3.length<=300/\0<=i1/\i1<r3.length))->fj X x (lO i1 s1 r1 r2 r3))
set_option maxHeartbeats 16000000 in
theorem akl{Z:aP}{X:Ctx}{x:AL [dF]}(hX:∀id,X.H id=none)(hz:cE Z X):∀N,wc X x N:=by
 intro N
 induction N with
 |zero=>
  unfold wc
  and_intros<;>(intros;omega)
 |succ N ih=>
  have⟨h0,h1,h2,h3,h4,h5,h6,h7,h8,h9,iz,oe,oW⟩:=ih;unfold wc;refine⟨λi1 s1 r1 r2 r3 hm hi=>go hz hX aY func35 (akg ..) ?_,λi1 i2 s1 r1 r2 r3 s2 i3 i4 i5 i6 s3 s4 s5 b1 r4 r5 hm hi=>go hz hX aY func35 (akh ..) ?_,λs1 r1 r2 r3 hm hi=>go hz hX aY func35 (agq ..) ?_,λi1 i2 s1 r1 r2 r3 s2 i3 i4 i5 i6 s3 s4 s5 b1 r4 r5 hm hi=>go hz hX aY func35 (aki ..) ?_,λi1 s1 r1 r2 r3 s2 i2 i3 i4 i5 s3 s4 s5 b1 r4 r5 hm hi=>go hz hX aY func35 (agr ..) ?_,λi1 s1 r1 r2 r3 hm hi=>go hz hX aY func35 (ags ..) ?_,λi1 s1 r1 r2 r3 hm hi=>go hz hX aY func35 (akj ..) ?_,λi1 s1 r1 r2 r3 hm hi=>go hz hX aY func35 (agt ..) ?_,λs1 r1 r2 r3 hm hi=>go hz hX aY func35 (agu ..) ?_,λi1 s1 r1 r2 r3 hm hi=>go hz hX aY func35 (agv ..) ?_,λi1 s1 r1 r2 r3 i2 i3 s2 b1 hm hi=>go hz hX aY func35 (agw ..) ?_,λhm hi=>go hz hX aY func35 (agx ..) ?_,λi1 s1 r1 r2 r3 hm hi=>go hz hX aY func35 (agy ..) ?_⟩
  all_goals try have⟨hx,hq,hi⟩:=hi
  all_goals repeat' (with_reducible (first|refine dj ?_|refine bn ?_ ?_|refine bR (λ_=> ?_) (λ_=> ?_)|refine bS (λ_=> ?_) (λ_=> ?_)|refine bT (λ_=> ?_) (λ_=> ?_)|refine dk ?_|refine dm ?_|refine bU ?_|refine bV (λ_=> ?_) (λ_=> ?_)|refine bp (λ_=> ?_) (λ_=> ?_)|refine bW ?_|refine dn ?_))
  all_goals first|omega|exact⟨by omega,by omega⟩|assumption|with_reducible exact fK (by kernel_rfl)|with_reducible exact fL (by kernel_rfl)|with_reducible exact fN (by kernel_rfl)|with_reducible exact fO (by kernel_rfl)|with_reducible exact fM (by kernel_rfl)|with_reducible exact fp (by kernel_rfl)|exact trivial|rfl|exact(oI (by assumption)).1|exact(oI (by assumption)).2|with_reducible exact abv rfl (by kernel_rfl)|with_reducible exact aeG rfl (akk hi) (by kernel_rfl)|((with_reducible first|apply h0|apply h1|apply h2|apply h3|apply h4|apply h5|apply h6|apply h7|apply h8|apply h9|apply iz|apply oe|apply oW)<;>first|omega|exact⟨hx,hq,by omega⟩|exact⟨hx,asF,by omega⟩|exact⟨hx,abB hq (by omega),by omega⟩|exact⟨hx,aeN hq (by omega),by omega⟩|exact⟨hx,⟨hq,asG⟩,by omega⟩|exact⟨hx,⟨hq,by assumption,by assumption⟩,by have:=oI (by assumption:dC r2 (fA (el r3 i1))=true);have:=oI (by assumption:dC r2 (fB (el r3 i1))=true);omega⟩|exact⟨hx,⟨hq.1.1,abC hq.1.2 hq.2⟩,by omega⟩|(rw[hx.1,hx.2];exact⟨hq.1,aeO hq.2 (by omega)⟩))
theorem amG{Z:aP}:ed P Z 35 (oG [dF] ya ake):=by
 refine qm func35 (by kernel_rfl) (by kernel_rfl) ?_;rintro⟨⟨(a:ByteArray),(vs:Vs),(ns:Ns),(fs:Fs),⟨⟩⟩,⟨⟩⟩ _ ⟨⟨hl1,pn⟩,_⟩ X hX hz;have hx:plX ((a,vs,ns,fs,()),()) ns fs:=⟨rfl,rfl⟩;have⟨h0,h1,h2,h3,h4,h5,h6,h7,h8,h9,iz,oe,oW⟩:=akl (x:=((a,vs,ns,fs,()),())) hX hz 10000000000000000000000000;show fj X ((a,vs,ns,fs,()),()) _;refine go hz hX aY func35 (apX a vs ns fs) ?_
 repeat' (with_reducible (first|refine dj ?_|refine bn ?_ ?_|refine bR (λ_=> ?_) (λ_=> ?_)|refine bS (λ_=> ?_) (λ_=> ?_)|refine bT (λ_=> ?_) (λ_=> ?_)|refine dk ?_|refine dm ?_|refine bU ?_|refine bV (λ_=> ?_) (λ_=> ?_)|refine bp (λ_=> ?_) (λ_=> ?_)|refine bW ?_|refine dn ?_))
 all_goals first|omega|exact⟨by omega,by omega⟩|assumption|with_reducible exact fK (by kernel_rfl)|with_reducible exact fL (by kernel_rfl)|with_reducible exact fN (by kernel_rfl)|with_reducible exact fO (by kernel_rfl)|with_reducible exact fM (by kernel_rfl)|with_reducible exact fp (by kernel_rfl)|exact trivial|rfl|exact(oI (by assumption)).1|exact(oI (by assumption)).2|with_reducible exact abv rfl (by kernel_rfl)|with_reducible exact aeG rfl (akk hi) (by kernel_rfl)|((with_reducible first|apply h0|apply h1|apply h2|apply h3|apply h4|apply h5|apply h6|apply h7|apply h8|apply h9|apply iz|apply oe|apply oW)<;>first|omega|exact⟨hx,hq,by omega⟩|exact⟨hx,asF,by omega⟩|exact⟨hx,abB hq (by omega),by omega⟩|exact⟨hx,aeN hq (by omega),by omega⟩|exact⟨hx,⟨hq,asG⟩,by omega⟩|exact⟨hx,⟨hq,by assumption,by assumption⟩,by have:=oI (by assumption:dC r2 (fA (el r3 i1))=true);have:=oI (by assumption:dC r2 (fB (el r3 i1))=true);omega⟩|exact⟨hx,⟨hq.1.1,abC hq.1.2 hq.2⟩,by omega⟩|(rw[hx.1,hx.2];exact⟨hq.1,aeO hq.2 (by omega)⟩))
def upF(ns:Ns):Nat->Int->Vs->Vs
 |0,_,out=>out|d+1,k,out=>if k<0 then out else upF ns d (tg ns k) (out++nV (el ns k))
def abD(ns:Ns)(n:Int):Vs:=if nK (el ns n)==12 then nV (el ns n)else []
def aeR(ns:Ns)(n:Int):Int:=if nK (el ns n)==1&&decide (tg ns n>=0)&&(nK (el ns (tg ns n))==13)then tg ns (tg ns n)else tg ns n
def jd(vs:Vs)(ns:Ns)(n:Int):Vs:=(if dC ns n then upF ns (ns.length+1) (aeR ns n) (abD ns n)else [])++vs
def abE(vs:Vs)(ns:Ns):Prop:=vs.length<=300/\ns.length<=300/\∀i,(nV (el ns i)).length<=300
abbrev an6:AL [dF,bx]->List Prop:=λ((_,vs,ns,_,()),_,())=>[abE vs ns]
def amH:List (Nat×Norm):=[(6,⟨[(5,.ab cV [],eV)],[1,2,5,6],0,[]⟩),(8,⟨[(5,.ab cV [],eV)],[2,5,6],0,[]⟩),(11,⟨[(5,.ab cV [],eV)],[2,5],0,[]⟩)]
def amI(a:ByteArray)(vs:Vs)(ns:Ns)(fs:Fs)(n k:Int)(l:Vs):aR:=⟨sl 68 [(1,aT n),(2,.ptr 0 0),(5,.vec 1),(6,aT k)],[jc a vs ns fs,.vec (.ab cV l) eV],hr f40 6,{}⟩
def abF(a:ByteArray)(vs:Vs)(ns:Ns)(fs:Fs)(k:Int)(l:Vs):aR:=⟨sl 68 [(2,.ptr 0 0),(5,.vec 1),(6,aT k)],[jc a vs ns fs,.vec (.ab cV l) eV],hd f40 8,{}⟩
def aeS(a:ByteArray)(vs:Vs)(ns:Ns)(fs:Fs)(l:Vs):aR:=⟨sl 68 [(2,.ptr 0 0),(5,.vec 1)],[jc a vs ns fs,.vec (.ab cV l) eV],hr f40 11,{}⟩
theorem auM(a:ByteArray)(vs:Vs)(ns:Ns)(fs:Fs)(n:Int):run P cU.sum f40 amH (start f40 [jy a vs ns fs,aT n] [])=
 Tree.ite (dC ns n) (.aa ((0:bx.V)<=n/\n<(↑(List.length ns):Int)) (.aa ((0:Int)<=n) (.aa (n<(↑(List.length ns):Int)) (.ite (nK (el ns n)==12) (.aa ((0:Int)<=n) (.aa (n<(↑(List.length ns):Int)) (.aa ((nV (el ns n)).length*(48:Nat)<=140737488355328) (.at (amI a vs ns fs n (tg ns n) (nV (el ns n))))))) (.at (amI a vs ns fs n (tg ns n) [])))))) (.at (aeS a vs ns fs [])):=by kernel_rfl
theorem asH(a:ByteArray)(vs:Vs)(ns:Ns)(fs:Fs)(n k:Int)(l:Vs):run P cU.sum f40 amH (amI a vs ns fs n k l)=
 Tree.aa ((0:Int)<=n) (.aa (n<(↑(List.length ns):Int)) (.ite (nK (el ns n)==1) (.ite (decide (k>=0)) (.aa ((0:Int)<=k) (.aa (k<(↑(List.length ns):Int)) (.ite (nK (el ns k)==13) (.aa ((0:bx.V)<=k/\k<(↑(List.length ns):Int)) (.at (abF a vs ns fs (tg ns k) l))) (.at (abF a vs ns fs k l))))) (.at (abF a vs ns fs k l))) (.at (abF a vs ns fs k l)))):=by kernel_rfl
theorem akm(a:ByteArray)(vs:Vs)(ns:Ns)(fs:Fs)(k:Int)(l:Vs):run P cU.sum f40 amH (abF a vs ns fs k l)=
 Tree.ite (decide (k>=0)) (.aa ((0:Int)<=k) (.aa (k<(↑(List.length ns):Int)) (.aa ((List.length l+(nV (el ns k)).length)*(48:Nat)<=140737488355328) (.aa ((0:bx.V)<=k/\k<(↑(List.length ns):Int)) (.at (abF a vs ns fs (tg ns k) (l++nV (el ns k)))))))) (.at (aeS a vs ns fs l)):=by kernel_rfl
theorem ap0(a:ByteArray)(vs:Vs)(ns:Ns)(fs:Fs)(l:Vs):run P cU.sum f40 amH (aeS a vs ns fs l)=
 Tree.aa ((List.length l+List.length vs)*(48:Nat)<=140737488355328) (.ret [.ad [.s (.str a),.s (.ro (.ab cV vs)),.s (.ro (.ab cN ns)),.s (.ro (.ab cF fs))] 30,.aW,.vec (.ab cV (l++vs)) 107] (.vec 2)):=by kernel_rfl
theorem aeT{ns:Ns}(h:∀i,(nV (el ns i)).length<=300):∀(d:Nat) (k:Int) (l:Vs),(upF ns d k l).length<=l.length+d*300
 |0,k,l=>by simp[upF]
 |d+1,k,l=>by
  unfold upF;split;omega;have:=aeT h d (tg ns k) (l++nV (el ns k));have hk:=h k;rw[length_append]at this;omega
theorem agz{ns:Ns}(h:∀i,(nV (el ns i)).length<=300)(n:Int):(abD ns n).length<=300:=by
 unfold abD;split;exact h n;exact zero_le _
theorem n4{vs:Vs}{ns:Ns}(h:abE vs ns)(n:Int):(jd vs ns n).length<=100000:=by
 have⟨h1,h2,h3⟩:=h;unfold jd;rw[length_append];split;have:=aeT h3 (ns.length+1) (aeR ns n) (abD ns n);have:=agz h3 n;omega;simp;omega
theorem aeU{Z:aP}:cf P Z 40 [dF,bx] [pr] an6 (λ((_,vs,ns,_,()),n,())=>(jd vs ns n,())):=by
 refine a6 func40 (by kernel_rfl) (by kernel_rfl) ?_;rintro⟨⟨(a:ByteArray),(vs:Vs),(ns:Ns),(fs:Fs),⟨⟩⟩,(n:Int),⟨⟩⟩ _ ⟨⟨(h1:vs.length<=300),(h2:ns.length<=300),(h3:∀i,(nV (el ns i)).length<=300)⟩,_⟩ X hX hz
 have fin:∀l:Vs,l.length<=100000->Safe P 40 X (Ends [pr] (l++vs,())) (aeS a vs ns fs l):=λl hl=>by
  refine go hz hX aY func40 (ap0 a vs ns fs l) ⟨by omega, ?_⟩;exact aL _ rfl (by kernel_rfl)
 have loop:∀(d:Nat) (k:Int) (l:Vs),k+1<=d->k<ns.length->l.length+d*300<=100000->Safe P 40 X (Ends [pr] (upF ns d k l++vs,())) (abF a vs ns fs k l):=by
  intro d
  induction d with
  |zero=>
   intro k l hk hn hl;exact go hz hX aY func40 (akm a vs ns fs k l) (ak (decide_eq_false (by omega)) (fin l (by omega)))
  |succ d ih=>
   intro k l hk hn hl;unfold upF;by_cases h0:k<0;rw[if_pos h0];exact go hz hX aY func40 (akm a vs ns fs k l) (ak (decide_eq_false (by omega)) (fin l (by omega)));rw[if_neg h0];have hv:=h3 k;have hi:=vS ns k;refine go hz hX aY func40 (akm a vs ns fs k l) (af (decide_eq_true (by omega)) ⟨by omega,hn,by omega,⟨by show(0:Int)<=k;omega,hn⟩, ?_⟩);exact ih _ _ (by omega) (by omega) (by rw[length_append];omega)
 show Safe P 40 X (Ends [pr] (jd vs ns n,())) _;refine go hz hX aY func40 (auM a vs ns fs n) ?_;unfold jd;cases c9:dC ns n with
 |false=>exact ak rfl (fin [] (zero_le _))|true=>
  have hn:=oI c9;have hi:=vS ns n
  have mid:∀l:Vs,l.length<=300->Safe P 40 X (Ends [pr] (upF ns (ns.length+1) (aeR ns n) l++vs,())) (amI a vs ns fs n (tg ns n) l):=λl hl=>by
   refine go hz hX aY func40 (asH a vs ns fs n (tg ns n) l) ⟨hn.1,hn.2, ?_⟩;have lp:∀k:Int,k<(ns.length:Int)->Safe P 40 X (Ends [pr] (upF ns (ns.length+1) k l++vs,())) (abF a vs ns fs k l):=λk hk=>loop (ns.length+1) k l (by omega) hk (by omega);have xd:=vS ns (tg ns n);unfold aeR;cases c1:nK (el ns n)==1 with
   |false=>exact ak rfl (lp _ (by omega))
   |true=>
    refine af rfl ?_;by_cases c2:tg ns n>=0;rw[decide_eq_true c2];refine af rfl ⟨by omega,by omega, ?_⟩;cases c3:nK (el ns (tg ns n))==13 with
    |false=>exact ak rfl (lp _ (by omega))
    |true=>exact af rfl ⟨⟨c2,by omega⟩,lp _ (by omega)⟩
    rw[decide_eq_false c2];exact ak rfl (lp _ (by omega))
  refine af rfl ⟨⟨hn.1,hn.2⟩,hn.1,hn.2, ?_⟩;unfold abD;cases c1:nK (el ns n)==12 with
  |false=>exact ak rfl (mid [] (zero_le _))|true=>exact af rfl ⟨hn.1,hn.2,by have:=h3 n;omega,mid _ (h3 n)⟩
section
def ExC(f:FuncId)(rs:List Ty)(Q:AL rs->Prop)(c:aR):Prop:=∃y:AL rs,Q y/\∀(Z:aP) (X:Ctx),(∀id,X.H id=none)->cE Z X->Safe P f X (Ends rs y) c
def we(f:FuncId)(rs:List Ty)(Q:AL rs->Prop)(t:Tree):Prop:=∃y:AL rs,Q y/\∀(Z:aP) (X:Ctx),(∀id,X.H id=none)->cE Z X->t.Holds (Ends rs y) (Safe P f X (Ends rs y))
variable{f:FuncId}{rs:List Ty}{Q:AL rs->Prop}{t e:Tree}{p:Prop}
theorem bC{tb:aQ}{fn:Func}{ns:List (Nat×Norm)}{c:aR}{tr:Tree}{inl:List FuncId}(hT:∀Z,tb.Ok P Z)(hf:P.funcs[f]? =some fn)(e:run P tb.sum fn ns c inl=tr)(h:we f rs Q tr):ExC f rs Q c:=by
 have⟨y,hq,h⟩:=h;exact⟨y,hq,λZ X hX hz=>go hz hX (hT Z) hf e (h Z X hX hz)⟩
theorem kz{α:Type}{a:α}(h:we f rs Q t):we f rs Q (.aa (a=a) t):=by
 have⟨y,hq,h⟩:=h;exact⟨y,hq,λZ X hX hz=>⟨rfl,h Z X hX hz⟩⟩
theorem fk(hp:p)(h:we f rs Q t):we f rs Q (.aa p t):=by
 have⟨y,hq,h⟩:=h;exact⟨y,hq,λZ X hX hz=>⟨hp,h Z X hX hz⟩⟩
theorem fP{b:Bool}(h1:b=true->we f rs Q t)(h2:b=false->we f rs Q e):we f rs Q (.ite b t e):=by
 cases b with
 |true=>
  have⟨y,hq,h⟩:=h1 rfl;exact⟨y,hq,λZ X hX hz=>⟨λ_=>h Z X hX hz,λx=>(by cases x)⟩⟩
 |false=>
  have⟨y,hq,h⟩:=h2 rfl;exact⟨y,hq,λZ X hX hz=>⟨λx=>(by cases x),λ_=>h Z X hX hz⟩⟩
theorem ie{d:Decidable p}(h1:p->we f rs Q t)(h2:¬p->we f rs Q e):we f rs Q (.ite (@decide p d) t e):=fP (λh=>h1 (of_decide_eq_true h)) λh=>h2 (of_decide_eq_false h)
theorem ig{a b:Int}(h1:a=b->we f rs Q t)(h2:a≠b->we f rs Q e):we f rs Q (.ite (a==b) t e):=fP (λh=>h1 (by simpa using h)) λh=>h2 (by simpa using h)
theorem ij{a b:Int}(h1:a≠b->we f rs Q t)(h2:a=b->we f rs Q e):we f rs Q (.ite (a !=b) t e):=fP (λh=>h1 (by simpa using h)) λh=>h2 (by simpa using h)
theorem ik{b:Bool}(h:we f rs Q (.ite b e t)):we f rs Q (.ite (!b) t e):=by
 have⟨y,hq,h⟩:=h;exact⟨y,hq,λZ X hX hz=>⟨λhb=>(h Z X hX hz).2 (by simpa using hb),λhb=>(h Z X hX hz).1 (by simpa using hb)⟩⟩
theorem mq{c:aR}(h:ExC f rs Q c):we f rs Q (.at c):=h
theorem kS{H:List au}{v:AV}(y:AL rs)(hq:Q y)(h:Ends rs y H v):we f rs Q (.ret H v):=⟨y,hq,λ_ _ _ _=>h⟩
theorem fnE{fn:Func}{ts:List Ty}{pre:AL ts->List Prop}{R:AL ts->AL rs->Prop}(y0:AL rs)(hf:P.funcs[f]? =some fn)(hb:fn.body.isSome=true)(hn:ts.length.ble fn.ntmps=true)
 (h:∀x,AL.ok ts x->bd (pre x)->ExC f rs (R x) (start fn (AL.av ts x) [])):∃F:AL ts->AL rs,(∀Z,cf P Z f ts rs pre F)/\∀x,AL.ok ts x->bd (pre x)->R x (F x):=by
 have k:∀x,AL.ok ts x->bd (pre x)->∃y:AL rs,R x y/\∀(Z:aP) (X:Ctx),(∀id,X.H id=none)->cE Z X->Safe P f X (Ends rs y) (start fn (AL.av ts x) []):=h
 have k2:∀x,∃y:AL rs,AL.ok ts x->bd (pre x)->R x y/\∀(Z:aP) (X:Ctx),(∀id,X.H id=none)->cE Z X->Safe P f X (Ends rs y) (start fn (AL.av ts x) []):=λx=>by
  by_cases h1:AL.ok ts x;by_cases h2:bd (pre x);have⟨y,hy⟩:=k x h1 h2;exact⟨y,λ_ _=>hy⟩;exact⟨y0,λ_ h=>absurd h h2⟩;exact⟨y0,λh=>absurd h h1⟩
 refine⟨λx=>(k2 x).choose,λZ=>a6 hf hb hn λx h1 h2 X hX hz=>((k2 x).choose_spec h1 h2).2 Z X hX hz,λx h1 h2=>((k2 x).choose_spec h1 h2).1⟩
end
theorem xb{f:FuncId}{Q:AL [aZ]->Prop}{H:List au}{b:Bool}(hq:Q (b,())):we f [aZ] Q (.ret H (.s (.bool b))):=kS (b,()) hq rfl
theorem xl{f:FuncId}{Q:AL [aZ]->Prop}{H:List au}{b:Bool}(hq:Q (b,())):we f [aZ] Q (.ret H (.s (.ao b))):=kS (b,()) hq rfl
abbrev tTk:Ty:=.st [.int .u8,.str]
abbrev bJ:List CK:=[.int .u8,.str]
abbrev aeV(dg:Int->Bool):=sumOf [gC] [aZ] (λ_=>[]) (λ(x,())=>(dg x,()))
abbrev an7(sg:ByteArray->Bool):=sumOf [bg] [aZ] (λ_=>[]) (λ(x,())=>(sg x,()))
def mi(dg lt:Int->Bool)(sg:ByteArray->Bool):aQ:=[(88,aeV dg),(89,aeV lt),(90,an7 sg)]
def asI:List (Nat×Norm):=[]
def asJ:List (Nat×Norm):=[]
def an8:List (Nat×Norm):=[(17,⟨[],[],0,[]⟩)]
def adn:aR:=⟨sl 19 [],[],(hr f90 17),(bt.mk none false 0 [] 0)⟩
def im:List (Nat×Norm):=[(6,⟨[],[3],0,[]⟩),(7,⟨[],[3,4],0,[]⟩),(8,⟨[],[3,4],0,[]⟩),(11,⟨[],[3],0,[]⟩),(15,⟨[],[3],0,[]⟩),(16,⟨[],[3,5],0,[]⟩),(17,⟨[],[3,5],0,[]⟩),(20,⟨[],[],0,[]⟩),(24,⟨[],[3],0,[]⟩),(25,⟨[],[3,6],0,[]⟩),(26,⟨[],[3,6],0,[]⟩),(29,⟨[],[],0,[]⟩),(32,⟨[],[],0,[]⟩)]
def zv(s1:ByteArray):aR:=⟨sl 118 [(3,(.s (.str s1)))],[],(hr f91 6),(bt.mk none false 0 [] 0)⟩
def zw(s1:ByteArray):aR:=⟨sl 118 [(3,(.s (.str s1)))],[],(hr f91 15),(bt.mk none false 0 [] 0)⟩
def zx(s1:ByteArray):aR:=⟨sl 118 [(3,(.s (.str s1)))],[],(hr f91 24),(bt.mk none false 0 [] 0)⟩
def zy:aR:=⟨sl 118 [],[],(hr f91 32),(bt.mk none false 0 [] 0)⟩
def zz(s1:ByteArray)(i1:Int):aR:=⟨sl 118 [(3,(.s (.str s1))),(4,(.s (.int .i64 i1)))],[],(hd f91 7),(bt.mk none false 0 [] 0)⟩
def tC(s1:ByteArray)(i1:Int):aR:=⟨sl 118 [(3,(.s (.str s1))),(5,(.s (.int .i64 i1)))],[],(hd f91 16),(bt.mk none false 0 [] 0)⟩
def tD(s1:ByteArray)(i1:Int):aR:=⟨sl 118 [(3,(.s (.str s1))),(6,(.s (.int .i64 i1)))],[],(hd f91 25),(bt.mk none false 0 [] 0)⟩
def ado(s1:ByteArray)(i1:Int):aR:=⟨sl 118 [(3,(.s (.str s1))),(4,(.s (.int .i64 i1)))],[],(hr f91 8),(bt.mk none false 0 [] 0)⟩
def zA(s1:ByteArray):aR:=⟨sl 118 [(3,(.s (.str s1)))],[],(hr f91 11),(bt.mk none false 0 [] 0)⟩
def qx(s1:ByteArray)(i1:Int):aR:=⟨sl 118 [(3,(.s (.str s1))),(5,(.s (.int .i64 i1)))],[],(hr f91 17),(bt.mk none false 0 [] 0)⟩
def zB:aR:=⟨sl 118 [],[],(hr f91 20),(bt.mk none false 0 [] 0)⟩
def zC(s1:ByteArray)(i1:Int):aR:=⟨sl 118 [(3,(.s (.str s1))),(6,(.s (.int .i64 i1)))],[],(hr f91 26),(bt.mk none false 0 [] 0)⟩
def zD:aR:=⟨sl 118 [],[],(hr f91 29),(bt.mk none false 0 [] 0)⟩
theorem auN(a:Int):run P bE.sum f88 asI (start f88 [jb a] [])=
 Tree.ite (decide (a>=48)) (.ret [] (.s (.bool (decide (a<=57))))) (.ret [] (.s (.ao false))):=by kernel_rfl
theorem auO(a:Int):run P bE.sum f89 asJ (start f89 [jb a] [])=
 Tree.ite (decide (a>=97)) (.ret [] (.s (.bool (decide (a<=122))))) (.ret [] (.s (.ao false))):=by kernel_rfl
theorem auP(s:ByteArray):run P bE.sum f90 an8 (start f90 [.s (.str s)] [])=
 Tree.ite (decide (s=ByteArray.mk #[(124:UInt8)])) (.ret [] (.s (.ao true))) (.ite (decide (s=ByteArray.mk #[(38:UInt8)])) (.ret [] (.s (.ao true))) (.ite (decide (s=ByteArray.mk #[(60:UInt8)])) (.ret [] (.s (.ao true))) (.ite (decide (s=ByteArray.mk #[(60:UInt8),(61:UInt8)])) (.ret [] (.s (.ao true))) (.ite (decide (s=ByteArray.mk #[(61:UInt8),(61:UInt8)])) (.ret [] (.s (.ao true))) (.ite (decide (s=ByteArray.mk #[(33:UInt8),(61:UInt8)])) (.ret [] (.s (.ao true))) (.ite (decide (s=ByteArray.mk #[(43:UInt8)])) (.ret [] (.s (.ao true))) (.ite (decide (s=ByteArray.mk #[(45:UInt8)])) (.ret [] (.s (.ao true))) (.ite (decide (s=ByteArray.mk #[(42:UInt8)])) (.ret [] (.s (.ao true))) (.ite (decide (s=ByteArray.mk #[(47:UInt8)])) (.ret [] (.s (.ao true))) (.ite (decide (s=ByteArray.mk #[(37:UInt8)])) (.ret [] (.s (.ao true))) (.ite (decide (s=ByteArray.mk #[(33:UInt8)])) (.ret [] (.s (.ao true))) (.ite (decide (s=ByteArray.mk #[(40:UInt8)])) (.ret [] (.s (.ao true))) (.ite (decide (s=ByteArray.mk #[(41:UInt8)])) (.ret [] (.s (.ao true))) (.at adn)))))))))))))):=by kernel_rfl
theorem amJ:run P bE.sum f90 an8 (adn)=
 Tree.ret [] (.s (.ao false)):=by kernel_rfl
theorem asK(dg lt:Int->Bool)(sg:ByteArray->Bool)(a:Int)(s:ByteArray):run P (mi dg lt sg).sum f91 im (start f91 [.agg [jb a,.s (.str s)]] [])=
 Tree.ite (a==1) (.ite (decide (s=empty)) (.ret [.ad [.s (.int .u8 a),.s (.str s)] 123] (.s (.ao false))) (.ite (decide ((↑s.size:Int)>19)) (.ret [.ad [.s (.int .u8 a),.s (.str s)] 123] (.s (.ao false))) (.aa ((0:Int)<=0) (.aa ((0:Int)<(↑s.size:Int)) (.ite (b9 s (Int.toNat 0)==48) (.ite (decide ((↑s.size:Int)>1)) (.ret [.ad [.s (.int .u8 a),.s (.str s)] 123] (.s (.ao false))) (.at (zv s))) (.at (zv s))))))) (.ite (a==2) (.ite (decide (s=empty)) (.ret [.ad [.s (.int .u8 a),.s (.str s)] 123] (.s (.ao false))) (.ite (decide ((↑s.size:Int)>12)) (.ret [.ad [.s (.int .u8 a),.s (.str s)] 123] (.s (.ao false))) (.aa ((0:Int)<=0) (.aa ((0:Int)<(↑s.size:Int)) (.ite (!lt (b9 s (Int.toNat 0))) (.ret [.ad [.s (.int .u8 a),.s (.str s)] 123] (.s (.ao false))) (.at (zw s))))))) (.ite (a==3) (.ite (decide ((↑s.size:Int)>40)) (.ret [.ad [.s (.int .u8 a),.s (.str s)] 123] (.s (.ao false))) (.at (zx s))) (.ite (a==4) (.ret [.ad [.s (.int .u8 a),.s (.str s)] 123] (.s (.bool (sg s)))) (.at zy)))):=by kernel_rfl
theorem amK(dg lt:Int->Bool)(sg:ByteArray->Bool)(s1:ByteArray):run P (mi dg lt sg).sum f91 im (zv s1)=
 Tree.at (zz s1 0):=by kernel_rfl
theorem akn(dg lt:Int->Bool)(sg:ByteArray->Bool)(s1:ByteArray):run P (mi dg lt sg).sum f91 im (zw s1)=
 Tree.at (tC s1 0):=by kernel_rfl
theorem ako(dg lt:Int->Bool)(sg:ByteArray->Bool)(s1:ByteArray):run P (mi dg lt sg).sum f91 im (zx s1)=
 Tree.at (tD s1 0):=by kernel_rfl
theorem akp(dg lt:Int->Bool)(sg:ByteArray->Bool):run P (mi dg lt sg).sum f91 im (zy)=
 Tree.ret [] (.s (.ao false)):=by kernel_rfl
theorem amL(dg lt:Int->Bool)(sg:ByteArray->Bool)(s1:ByteArray)(i1:Int):run P (mi dg lt sg).sum f91 im (zz s1 i1)=
 Tree.ite (decide (i1<(↑s1.size:Int))) (.aa ((0:Int)<=i1) (.aa (i1<(↑s1.size:Int)) (.ite (!dg (b9 s1 i1.toNat)) (.ret [] (.s (.ao false))) (.at (ado s1 i1))))) (.at (zA s1)):=by kernel_rfl
theorem akq(dg lt:Int->Bool)(sg:ByteArray->Bool)(s1:ByteArray)(i1:Int):run P (mi dg lt sg).sum f91 im (tC s1 i1)=
 Tree.ite (decide (i1<(↑s1.size:Int))) (.aa ((0:Int)<=i1) (.aa (i1<(↑s1.size:Int)) (.ite (!lt (b9 s1 i1.toNat)) (.aa ((0:Int)<=i1) (.aa (i1<(↑s1.size:Int)) (.ite (!dg (b9 s1 i1.toNat)) (.aa ((0:Int)<=i1) (.aa (i1<(↑s1.size:Int)) (.ite (b9 s1 i1.toNat !=95) (.ret [] (.s (.ao false))) (.at (qx s1 i1))))) (.at (qx s1 i1))))) (.at (qx s1 i1))))) (.at zB):=by kernel_rfl
theorem akr(dg lt:Int->Bool)(sg:ByteArray->Bool)(s1:ByteArray)(i1:Int):run P (mi dg lt sg).sum f91 im (tD s1 i1)=
 Tree.ite (decide (i1<(↑s1.size:Int))) (.aa ((0:Int)<=i1) (.aa (i1<(↑s1.size:Int)) (.ite (decide (b9 s1 i1.toNat<32)) (.ret [] (.s (.ao false))) (.aa ((0:Int)<=i1) (.aa (i1<(↑s1.size:Int)) (.ite (decide (b9 s1 i1.toNat>126)) (.ret [] (.s (.ao false))) (.aa ((0:Int)<=i1) (.aa (i1<(↑s1.size:Int)) (.ite (b9 s1 i1.toNat==39) (.ret [] (.s (.ao false))) (.at (zC s1 i1))))))))))) (.at zD):=by kernel_rfl
theorem amM(dg lt:Int->Bool)(sg:ByteArray->Bool)(s1:ByteArray)(i1:Int):run P (mi dg lt sg).sum f91 im (ado s1 i1)=
 Tree.aa (aD (i1+1)) (.at (zz s1 (i1+1))):=by kernel_rfl
theorem aks(dg lt:Int->Bool)(sg:ByteArray->Bool)(s1:ByteArray):run P (mi dg lt sg).sum f91 im (zA s1)=
 Tree.ite (decide ((↑s1.size:Int)<19)) (.ret [] (.s (.ao true))) (.ret [] (.s (.bool (slt s1 (ByteArray.mk #[(57:UInt8),(50:UInt8),(50:UInt8),(51:UInt8),(51:UInt8),(55:UInt8),(50:UInt8),(48:UInt8),(51:UInt8),(54:UInt8),(56:UInt8),(53:UInt8),(52:UInt8),(55:UInt8),(55:UInt8),(53:UInt8),(56:UInt8),(48:UInt8),(55:UInt8)])||decide (s1=ByteArray.mk #[(57:UInt8),(50:UInt8),(50:UInt8),(51:UInt8),(51:UInt8),(55:UInt8),(50:UInt8),(48:UInt8),(51:UInt8),(54:UInt8),(56:UInt8),(53:UInt8),(52:UInt8),(55:UInt8),(55:UInt8),(53:UInt8),(56:UInt8),(48:UInt8),(55:UInt8)]))))):=by kernel_rfl
theorem akt(dg lt:Int->Bool)(sg:ByteArray->Bool)(s1:ByteArray)(i1:Int):run P (mi dg lt sg).sum f91 im (qx s1 i1)=
 Tree.aa (aD (i1+1)) (.at (tC s1 (i1+1))):=by kernel_rfl
theorem aku(dg lt:Int->Bool)(sg:ByteArray->Bool):run P (mi dg lt sg).sum f91 im (zB)=
 Tree.ret [] (.s (.ao true)):=by kernel_rfl
theorem akv(dg lt:Int->Bool)(sg:ByteArray->Bool)(s1:ByteArray)(i1:Int):run P (mi dg lt sg).sum f91 im (zC s1 i1)=
 Tree.aa (aD (i1+1)) (.at (tD s1 (i1+1))):=by kernel_rfl
theorem akw(dg lt:Int->Bool)(sg:ByteArray->Bool):run P (mi dg lt sg).sum f91 im (zD)=
 Tree.ret [] (.s (.ao true)):=by kernel_rfl
theorem agA{s:ByteArray}(h:¬s=empty):(0:Int)<(s.size:Int):=by
 have:s.size≠0:=λe=>h (afU e);omega
abbrev asL(x:AL [gC])(c:aR):Prop:=ExC 88 [aZ] ((λ_ _=>True) x) c
theorem asM:∃F:AL [gC]->AL [aZ],(∀Z,cf P Z 88 [gC] [aZ] bI F)/\∀x,AL.ok [gC] x->bd (bI x)->(λ_ _=>True) x (F x):=by
 refine fnE (rs:=[aZ]) (ts:=[gC]) (pre:=bI) (R:=(λ_ _=>True)) (false,()) func88 (by kernel_rfl) (by kernel_rfl) ?_;rintro⟨(a:Int),⟨⟩⟩ _ _;skip;show asL (a,()) _;refine bC (λZ=>aQ.Ok.nil) func88 (auN a) ?_
 repeat' (with_reducible (first|refine kz ?_|refine fk ?_ ?_|refine ie (λ_=> ?_) (λ_=> ?_)|refine ig (λ_=> ?_) (λ_=> ?_)|refine ij (λ_=> ?_) (λ_=> ?_)|refine ik ?_|refine fP (λ_=> ?_) (λ_=> ?_)))
 all_goals first|omega|exact⟨by omega,by omega⟩|assumption|with_reducible exact xb trivial|with_reducible exact xl trivial
abbrev asN(x:AL [gC])(c:aR):Prop:=ExC 89 [aZ] ((λ_ _=>True) x) c
theorem asO:∃F:AL [gC]->AL [aZ],(∀Z,cf P Z 89 [gC] [aZ] bI F)/\∀x,AL.ok [gC] x->bd (bI x)->(λ_ _=>True) x (F x):=by
 refine fnE (rs:=[aZ]) (ts:=[gC]) (pre:=bI) (R:=(λ_ _=>True)) (false,()) func89 (by kernel_rfl) (by kernel_rfl) ?_;rintro⟨(a:Int),⟨⟩⟩ _ _;skip;show asN (a,()) _;refine bC (λZ=>aQ.Ok.nil) func89 (auO a) ?_
 repeat' (with_reducible (first|refine kz ?_|refine fk ?_ ?_|refine ie (λ_=> ?_) (λ_=> ?_)|refine ig (λ_=> ?_) (λ_=> ?_)|refine ij (λ_=> ?_) (λ_=> ?_)|refine ik ?_|refine fP (λ_=> ?_) (λ_=> ?_)))
 all_goals first|omega|exact⟨by omega,by omega⟩|assumption|with_reducible exact xb trivial|with_reducible exact xl trivial
abbrev an9(x:AL [bg])(c:aR):Prop:=ExC 90 [aZ] ((λ_ _=>True) x) c
def wg(x:AL [bg])(N:Nat):Prop:=(983<N->(True)->an9 x (adn))
set_option maxHeartbeats 16000000 in
theorem ap1{x:AL [bg]}:∀N,wg x N:=by
 intro N
 induction N with
 |zero=>
  unfold wg;intros;omega
 |succ N ih=>
  have h0:=ih;unfold wg at h0;unfold wg;refine λhm hi=>bC (λZ=>aQ.Ok.nil) func90 (amJ ..) ?_
  all_goals repeat' (with_reducible (first|refine kz ?_|refine fk ?_ ?_|refine ie (λ_=> ?_) (λ_=> ?_)|refine ig (λ_=> ?_) (λ_=> ?_)|refine ij (λ_=> ?_) (λ_=> ?_)|refine ik ?_|refine fP (λ_=> ?_) (λ_=> ?_)))
  all_goals first|omega|exact⟨by omega,by omega⟩|assumption|with_reducible exact xb trivial|with_reducible exact xl trivial|((with_reducible refine mq ?_)<;>(with_reducible apply h0)<;>first|omega|trivial|omega)
theorem asP:∃F:AL [bg]->AL [aZ],(∀Z,cf P Z 90 [bg] [aZ] bI F)/\∀x,AL.ok [bg] x->bd (bI x)->(λ_ _=>True) x (F x):=by
 refine fnE (rs:=[aZ]) (ts:=[bg]) (pre:=bI) (R:=(λ_ _=>True)) (false,()) func90 (by kernel_rfl) (by kernel_rfl) ?_;rintro⟨(s:ByteArray),⟨⟩⟩ _ _;skip;have ih:=ap1 (x:=(s,())) 100000000;have h0:=ih;unfold wg at h0;show an9 (s,()) _;refine bC (λZ=>aQ.Ok.nil) func90 (auP s) ?_
 repeat' (with_reducible (first|refine kz ?_|refine fk ?_ ?_|refine ie (λ_=> ?_) (λ_=> ?_)|refine ig (λ_=> ?_) (λ_=> ?_)|refine ij (λ_=> ?_) (λ_=> ?_)|refine ik ?_|refine fP (λ_=> ?_) (λ_=> ?_)))
 all_goals first|omega|exact⟨by omega,by omega⟩|assumption|with_reducible exact xb trivial|with_reducible exact xl trivial|((with_reducible refine mq ?_)<;>(with_reducible apply h0)<;>first|omega|trivial|omega)
abbrev iq(x:AL [tTk])(c:aR):Prop:=ExC 91 [aZ] ((λ_ _=>True) x) c
def zE(x:AL [tTk])(N:Nat):Prop:=(∀(s1:ByteArray),1000<N->(s1.size<=100)->iq x (zv s1))/\(∀(s1:ByteArray),1000<N->(s1.size<=100)->iq x (zw s1))/\(∀(s1:ByteArray),1000<N->(s1.size<=100)->iq x (zx s1))/\(0<N->(True)->iq x (zy))/\(∀(s1:ByteArray) (i1:Int),(2*(101 - i1)).toNat+10<N->(s1.size<=100/\0<=i1/\i1<=s1.size)->iq x (zz s1 i1))/\(∀(s1:ByteArray) (i1:Int),(2*(101 - i1)).toNat+10<N->(s1.size<=100/\0<=i1/\i1<=s1.size)->iq x (tC s1 i1))/\(∀(s1:ByteArray) (i1:Int),(2*(101 - i1)).toNat+10<N->(s1.size<=100/\0<=i1/\i1<=s1.size)->iq x (tD s1 i1))/\(∀(s1:ByteArray) (i1:Int),(2*(101 - i1)).toNat+9<N->(s1.size<=100/\0<=i1/\i1<s1.size)->iq x (ado s1 i1))/\(∀(s1:ByteArray),3<N->(s1.size<=100)->iq x (zA s1))/\(∀(s1:ByteArray) (i1:Int),(2*(101 - i1)).toNat+9<N->(s1.size<=100/\0<=i1/\i1<s1.size)->iq x (qx s1 i1))/\(2<N->(True)->iq x (zB))/\(∀(s1:ByteArray) (i1:Int),(2*(101 - i1)).toNat+9<N->(s1.size<=100/\0<=i1/\i1<s1.size)->iq x (zC s1 i1))/\(1<N->(True)->iq x (zD))
set_option maxHeartbeats 16000000 in
theorem amN{dg lt:Int->Bool}{sg:ByteArray->Bool}{x:AL [tTk]}(hE:∀Z,(mi dg lt sg).Ok P Z):∀N,zE x N:=by
 intro N
 induction N with
 |zero=>
  unfold zE
  and_intros<;>(intros;omega)
 |succ N ih=>
  have⟨h0,h1,h2,h3,h4,h5,h6,h7,h8,h9,iz,oe,oW⟩:=ih;unfold zE;refine⟨λ_ hm hi=>bC (λZ=>hE Z) func91 (amK ..) ?_,λ_ hm hi=>bC (λZ=>hE Z) func91 (akn ..) ?_,λ_ hm hi=>bC (λZ=>hE Z) func91 (ako ..) ?_,λhm hi=>bC (λZ=>hE Z) func91 (akp ..) ?_,λ_ _ hm hi=>bC (λZ=>hE Z) func91 (amL ..) ?_,λ_ _ hm hi=>bC (λZ=>hE Z) func91 (akq ..) ?_,λ_ _ hm hi=>bC (λZ=>hE Z) func91 (akr ..) ?_,λ_ _ hm hi=>bC (λZ=>hE Z) func91 (amM ..) ?_,λ_ hm hi=>bC (λZ=>hE Z) func91 (aks ..) ?_,λ_ _ hm hi=>bC (λZ=>hE Z) func91 (akt ..) ?_,λhm hi=>bC (λZ=>hE Z) func91 (aku ..) ?_,λ_ _ hm hi=>bC (λZ=>hE Z) func91 (akv ..) ?_,λhm hi=>bC (λZ=>hE Z) func91 (akw ..) ?_⟩
  all_goals repeat' (with_reducible (first|refine kz ?_|refine fk ?_ ?_|refine ie (λ_=> ?_) (λ_=> ?_)|refine ig (λ_=> ?_) (λ_=> ?_)|refine ij (λ_=> ?_) (λ_=> ?_)|refine ik ?_|refine fP (λ_=> ?_) (λ_=> ?_)))
  all_goals first|omega|exact⟨by omega,by omega⟩|assumption|with_reducible exact xb trivial|with_reducible exact xl trivial|((with_reducible refine mq ?_)<;>(with_reducible first|apply h0|apply h1|apply h2|apply h3|apply h4|apply h5|apply h6|apply h7|apply h8|apply h9|apply iz|apply oe|apply oW)<;>first|omega|trivial|omega)
theorem ap2{dg lt:Int->Bool}{sg:ByteArray->Bool}(hE:∀Z,(mi dg lt sg).Ok P Z):∃F:AL [tTk]->AL [aZ],(∀Z,cf P Z 91 [tTk] [aZ] (λ((_,s,()),())=>[ByteArray.size s<=100]) F)/\∀x,AL.ok [tTk] x->bd ((λ((_,s,()),())=>[ByteArray.size s<=100]) x)->(λ_ _=>True) x (F x):=by
 refine fnE (rs:=[aZ]) (ts:=[tTk]) (pre:=(λ((_,s,()),())=>[ByteArray.size s<=100])) (R:=(λ_ _=>True)) (false,()) func91 (by kernel_rfl) (by kernel_rfl) ?_;rintro⟨⟨(a:Int),(s:ByteArray),⟨⟩⟩,⟨⟩⟩ _ ⟨(hs:s.size<=100),_⟩;skip;have ih:=amN (x:=((a,s,()),())) hE 100000000;have⟨h0,h1,h2,h3,h4,h5,h6,h7,h8,h9,iz,oe,oW⟩:=ih;show iq ((a,s,()),()) _;refine bC (λZ=>hE Z) func91 (asK dg lt sg a s) ?_
 repeat' (with_reducible (first|refine kz ?_|refine fk ?_ ?_|refine ie (λ_=> ?_) (λ_=> ?_)|refine ig (λ_=> ?_) (λ_=> ?_)|refine ij (λ_=> ?_) (λ_=> ?_)|refine ik ?_|refine fP (λ_=> ?_) (λ_=> ?_)))
 all_goals first|exact agA (by assumption)|omega|exact⟨by omega,by omega⟩|assumption|with_reducible exact xb trivial|with_reducible exact xl trivial|((with_reducible refine mq ?_)<;>(with_reducible first|apply h0|apply h1|apply h2|apply h3|apply h4|apply h5|apply h6|apply h7|apply h8|apply h9|apply iz|apply oe|apply oW)<;>first|omega|trivial|omega)
theorem cf.cg{P:Program}{Z:aP}{f:FuncId}{ts rs:List Ty}{pre:AL ts->List Prop}{F G:AL ts->AL rs}(h:cf P Z f ts rs pre F)(e:∀x,F x=G x):cf P Z f ts rs pre G:=by
 rw[show G=F from funext λx=>(e x).symm];exact h
theorem dg1:∃dg:Int->Bool,∀Z,cf P Z 88 [gC] [aZ] (λ_=>[]) (λ(x,())=>(dg x,())):=by
 have⟨F,h,_⟩:=asM;exact⟨λa=>(F (a,())).1,λZ=>cf.cg (h Z) λ⟨a,⟨⟩⟩=>rfl⟩
theorem lt1:∃dg:Int->Bool,∀Z,cf P Z 89 [gC] [aZ] (λ_=>[]) (λ(x,())=>(dg x,())):=by
 have⟨F,h,_⟩:=asO;exact⟨λa=>(F (a,())).1,λZ=>cf.cg (h Z) λ⟨a,⟨⟩⟩=>rfl⟩
theorem sg1:∃sg:ByteArray->Bool,∀Z,cf P Z 90 [bg] [aZ] (λ_=>[]) (λ(x,())=>(sg x,())):=by
 have⟨F,h,_⟩:=asP;exact⟨λa=>(F (a,())).1,λZ=>cf.cg (h Z) λ⟨a,⟨⟩⟩=>rfl⟩
theorem E1:∃(dg lt:Int->Bool) (sg:ByteArray->Bool) (m:Int->ByteArray->Bool),(∀Z,(mi dg lt sg).Ok P Z)/\∀Z,cf P Z 91 [tTk] [aZ] (λ((_,s,()),())=>[ByteArray.size s<=100]) (λ((a,s,()),())=>(m a s,())):=by
 have⟨dg,h1⟩:=dg1;have⟨lt,h2⟩:=lt1;have⟨sg,h3⟩:=sg1;have hE:∀Z,(mi dg lt sg).Ok P Z:=λZ=>aQ.Ok.cons (h1 Z).sum (aQ.Ok.cons (h2 Z).sum (aQ.Ok.cons (h3 Z).sum aQ.Ok.nil));have⟨F,h,_⟩:=ap2 hE;exact⟨dg,lt,sg,λa s=>(F ((a,s,()),())).1,hE,λZ=>cf.cg (h Z) λ⟨⟨a,s,⟨⟩⟩,⟨⟩⟩=>rfl⟩
abbrev tkK(x:CL bJ):Int:=x.1
abbrev zF(x:CL bJ):ByteArray:=x.2.1
abbrev tkO(k:Int)(s:ByteArray):CL bJ:=(k,s,())
abbrev cA:Type:=List (CL bJ)
def iw(l:cA):Prop:=∀t∈l,(zF t).size<=100
abbrev aoa(m:Int->ByteArray->Bool):=sumOf [tTk] [aZ] (λ((_,s,()),())=>[ByteArray.size s<=100]) (λ((a,s,()),())=>(m a s,()))
def my(dg lt:Int->Bool)(sg:ByteArray->Bool)(m:Int->ByteArray->Bool):aQ:=[(88,aeV dg),(89,aeV lt),(90,an7 sg),(91,aoa m)]
abbrev eTk:TypeId:=123
abbrev adp:Ty:=.b (.gR (.ab bJ) eTk)
abbrev qLx(y:AL [adp,bx]):Prop:=List.length (show cA from y.1)<=100/\iw (show cA from y.1)
def kA:List (Nat×Norm):=[(3,⟨[],[0],0,[]⟩),(5,⟨[(4,.ab bJ [],eTk)],[0,4,5],0,[]⟩),(8,⟨[(4,.ab bJ [],eTk)],[0,4,5],0,[]⟩),(12,⟨[(4,.ab bJ [],eTk)],[0,4,5,6,7],0,[]⟩),(14,⟨[(4,.ab bJ [],eTk)],[0,4,5,6,7],0,[]⟩),(16,⟨[(4,.ab bJ [],eTk)],[0,4,5,6,7],0,[]⟩),(18,⟨[(4,.ab bJ [],eTk)],[0,4,5,6,7],0,[]⟩),(20,⟨[(4,.ab bJ [],eTk)],[0,4,5,6,7],0,[]⟩),(22,⟨[(4,.ab bJ [],eTk)],[0,4,5,6,7],0,[]⟩),(24,⟨[(4,.ab bJ [],eTk)],[0,4,5,6,7],0,[]⟩),(29,⟨[(4,.ab bJ [],eTk)],[0,4,5,6,7],0,[]⟩),(31,⟨[(4,.ab bJ [],eTk)],[0,4,5,6,7],0,[]⟩),(33,⟨[(4,.ab bJ [],eTk)],[4],0,[]⟩)]
def akx(s1:ByteArray):aR:=⟨sl 143 [(0,(.s (.str s1)))],[],(hr f77 3),(bt.mk none false 0 [] 0)⟩
def abG(s1:ByteArray)(i1:Int)(r1:List (CL bJ)):aR:=⟨sl 143 [(0,(.s (.str s1))),(4,(.vec 0)),(5,(.s (.int .i64 i1)))],[(.vec (.ab bJ r1) 123)],(hd f77 5),(bt.mk none false 0 [] 0)⟩
def aky(s1:ByteArray)(i1:Int)(r1:List (CL bJ)):aR:=⟨sl 143 [(0,(.s (.str s1))),(4,(.vec 0)),(5,(.s (.int .i64 i1)))],[(.vec (.ab bJ r1) 123)],(hr f77 8),(bt.mk none false 0 [] 0)⟩
def zG(r1:List (CL bJ)):aR:=⟨sl 143 [(4,(.vec 0))],[(.vec (.ab bJ r1) 123)],(hr f77 33),(bt.mk none false 0 [] 0)⟩
def zH(s1:ByteArray)(i1:Int)(i2:Int)(r1:List (CL bJ))(i3:Int)(s2:ByteArray):aR:=⟨sl 143 [(0,(.s (.str s1))),(4,(.vec 0)),(5,(.s (.int .i64 i1))),(6,(.ptr 1 0)),(7,(.s (.int .i64 i2)))],[(.vec (.ab bJ r1) 123),(.ad [(.s (.int .u8 i3)),(.s (.str s2))] 123)],(hd f77 12),(bt.mk none false 0 [] 0)⟩
def rU(s1:ByteArray)(i1:Int)(i2:Int)(r1:List (CL bJ))(i3:Int)(s2:ByteArray):aR:=⟨sl 143 [(0,(.s (.str s1))),(4,(.vec 0)),(5,(.s (.int .i64 i1))),(6,(.ptr 1 0)),(7,(.s (.int .i64 i2)))],[(.vec (.ab bJ r1) 123),(.ad [(.s (.int .u8 i3)),(.s (.str s2))] 123)],(hd f77 16),(bt.mk none false 0 [] 0)⟩
def zI(s1:ByteArray)(i1:Int)(i2:Int)(r1:List (CL bJ))(i3:Int)(s2:ByteArray):aR:=⟨sl 143 [(0,(.s (.str s1))),(4,(.vec 0)),(5,(.s (.int .i64 i1))),(6,(.ptr 1 0)),(7,(.s (.int .i64 i2)))],[(.vec (.ab bJ r1) 123),(.ad [(.s (.int .u8 i3)),(.s (.str s2))] 123)],(hd f77 20),(bt.mk none false 0 [] 0)⟩
def nk(s1:ByteArray)(i1:Int)(i2:Int)(r1:List (CL bJ))(i3:Int)(s2:ByteArray):aR:=⟨sl 143 [(0,(.s (.str s1))),(4,(.vec 0)),(5,(.s (.int .i64 i1))),(6,(.ptr 1 0)),(7,(.s (.int .i64 i2)))],[(.vec (.ab bJ r1) 123),(.ad [(.s (.int .u8 i3)),(.s (.str s2))] 123)],(hr f77 29),(bt.mk none false 0 [] 0)⟩
def zJ(s1:ByteArray)(i1:Int)(i2:Int)(r1:List (CL bJ))(i3:Int)(s2:ByteArray):aR:=⟨sl 143 [(0,(.s (.str s1))),(4,(.vec 0)),(5,(.s (.int .i64 i1))),(6,(.ptr 1 0)),(7,(.s (.int .i64 i2)))],[(.vec (.ab bJ r1) 123),(.ad [(.s (.int .u8 i3)),(.s (.str s2))] 123)],(hr f77 14),(bt.mk none false 0 [] 0)⟩
def zK(s1:ByteArray)(i1:Int)(i2:Int)(r1:List (CL bJ))(i3:Int)(s2:ByteArray):aR:=⟨sl 143 [(0,(.s (.str s1))),(4,(.vec 0)),(5,(.s (.int .i64 i1))),(6,(.ptr 1 0)),(7,(.s (.int .i64 i2)))],[(.vec (.ab bJ r1) 123),(.ad [(.s (.int .u8 i3)),(.s (.str s2))] 123)],(hr f77 18),(bt.mk none false 0 [] 0)⟩
def zL(s1:ByteArray)(i1:Int)(i2:Int)(r1:List (CL bJ))(i3:Int)(s2:ByteArray):aR:=⟨sl 143 [(0,(.s (.str s1))),(4,(.vec 0)),(5,(.s (.int .i64 i1))),(6,(.ptr 1 0)),(7,(.s (.int .i64 i2)))],[(.vec (.ab bJ r1) 123),(.ad [(.s (.int .u8 i3)),(.s (.str s2))] 123)],(hr f77 22),(bt.mk none false 0 [] 0)⟩
def adq(s1:ByteArray)(i1:Int)(i2:Int)(r1:List (CL bJ))(i3:Int)(s2:ByteArray):aR:=⟨sl 143 [(0,(.s (.str s1))),(4,(.vec 0)),(5,(.s (.int .i64 i1))),(6,(.ptr 1 0)),(7,(.s (.int .i64 i2)))],[(.vec (.ab bJ r1) 123),(.ad [(.s (.int .u8 i3)),(.s (.str s2))] 123)],(hr f77 31),(bt.mk none false 0 [] 0)⟩
def adr(s1:ByteArray)(i1:Int)(i2:Int)(r1:List (CL bJ))(i3:Int)(s2:ByteArray):aR:=⟨sl 143 [(0,(.s (.str s1))),(4,(.vec 0)),(5,(.s (.int .i64 i1))),(6,(.ptr 1 0)),(7,(.s (.int .i64 i2)))],[(.vec (.ab bJ r1) 123),(.ad [(.s (.int .u8 i3)),(.s (.str s2))] 123)],(hr f77 24),(bt.mk none false 0 [] 0)⟩
theorem auQ(dg lt:Int->Bool)(sg:ByteArray->Bool)(m:Int->ByteArray->Bool)(s:ByteArray):run P (my dg lt sg m).sum f77 kA (start f77 [.s (.str s)] [])=
 Tree.ite (decide ((↑s.size:Int)>100)) (.ret [] (.bO [.emp,.s (.aq .i64 40)])) (.at (akx s)):=by kernel_rfl
theorem ap3(dg lt:Int->Bool)(sg:ByteArray->Bool)(m:Int->ByteArray->Bool)(s1:ByteArray):run P (my dg lt sg m).sum f77 kA (akx s1)=
 Tree.at (abG s1 0 []):=by kernel_rfl
theorem ap4(dg lt:Int->Bool)(sg:ByteArray->Bool)(m:Int->ByteArray->Bool)(s1:ByteArray)(i1:Int)(r1:List (CL bJ)):run P (my dg lt sg m).sum f77 kA (abG s1 i1 r1)=
 Tree.ite (decide (i1<(↑s1.size:Int))) (.aa ((0:Int)<=i1) (.aa (i1<(↑s1.size:Int)) (.ite (b9 s1 i1.toNat==32) (.aa (aD (i1+1)) (.at (abG s1 (i1+1) r1))) (.at (aky s1 i1 r1))))) (.at (zG r1)):=by kernel_rfl
theorem ap5(dg lt:Int->Bool)(sg:ByteArray->Bool)(m:Int->ByteArray->Bool)(s1:ByteArray)(i1:Int)(r1:List (CL bJ)):run P (my dg lt sg m).sum f77 kA (aky s1 i1 r1)=
 Tree.aa (aD (i1+1)) (.aa ((0:Int)<=i1) (.aa (i1<(↑s1.size:Int)) (.ite (dg (b9 s1 i1.toNat)) (.at (zH s1 i1 (i1+1) r1 0 empty)) (.aa ((0:Int)<=i1) (.aa (i1<(↑s1.size:Int)) (.ite (lt (b9 s1 i1.toNat)) (.at (rU s1 i1 (i1+1) r1 0 empty)) (.aa ((0:Int)<=i1) (.aa (i1<(↑s1.size:Int)) (.ite (b9 s1 i1.toNat==39) (.at (zI s1 i1 (i1+1) r1 0 empty)) (.ite (decide (i1+1<(↑s1.size:Int))) (.aa (aD (i1+1+1)) (.aa ((0:Int)<=i1) (.aa (i1<=i1+1+1) (.aa (i1+1+1<=(↑s1.size:Int)) (.ite (sg (s1.extract i1.toNat (i1+1+1).toNat)) (.aa (aD (i1+1+1)) (.aa ((0:Int)<=i1) (.aa (i1<=i1+1+1) (.aa (i1+1+1<=(↑s1.size:Int)) (.at (nk s1 i1 (i1+1+1) r1 4 (s1.extract i1.toNat (i1+1+1).toNat))))))) (.aa ((0:Int)<=i1) (.aa (i1<=i1+1) (.aa (i1+1<=(↑s1.size:Int)) (.at (nk s1 i1 (i1+1) r1 4 (s1.extract i1.toNat (i1+1).toNat))))))))))) (.aa ((0:Int)<=i1) (.aa (i1<=i1+1) (.aa (i1+1<=(↑s1.size:Int)) (.at (nk s1 i1 (i1+1) r1 4 (s1.extract i1.toNat (i1+1).toNat)))))))))))))))):=by kernel_rfl
theorem amO(dg lt:Int->Bool)(sg:ByteArray->Bool)(m:Int->ByteArray->Bool)(r1:List (CL bJ)):run P (my dg lt sg m).sum f77 kA (zG r1)=
 Tree.ret [.vec (.ab bJ r1) 123] (.bO [.vec 0,.s (.aq .i64 0)]):=by kernel_rfl
theorem amP(dg lt:Int->Bool)(sg:ByteArray->Bool)(m:Int->ByteArray->Bool)(s1:ByteArray)(i1:Int)(i2:Int)(r1:List (CL bJ))(i3:Int)(s2:ByteArray):run P (my dg lt sg m).sum f77 kA (zH s1 i1 i2 r1 i3 s2)=
 Tree.ite (decide (i2<(↑s1.size:Int))) (.aa ((0:Int)<=i2) (.aa (i2<(↑s1.size:Int)) (.ite (dg (b9 s1 i2.toNat)) (.aa (aD (i2+1)) (.at (zH s1 i1 (i2+1) r1 i3 s2))) (.at (zJ s1 i1 i2 r1 i3 s2))))) (.at (zJ s1 i1 i2 r1 i3 s2)):=by kernel_rfl
theorem amQ(dg lt:Int->Bool)(sg:ByteArray->Bool)(m:Int->ByteArray->Bool)(s1:ByteArray)(i1:Int)(i2:Int)(r1:List (CL bJ))(i3:Int)(s2:ByteArray):run P (my dg lt sg m).sum f77 kA (rU s1 i1 i2 r1 i3 s2)=
 Tree.ite (decide (i2<(↑s1.size:Int))) (.aa ((0:Int)<=i2) (.aa (i2<(↑s1.size:Int)) (.ite (lt (b9 s1 i2.toNat)) (.aa (aD (i2+1)) (.at (rU s1 i1 (i2+1) r1 i3 s2))) (.aa ((0:Int)<=i2) (.aa (i2<(↑s1.size:Int)) (.ite (dg (b9 s1 i2.toNat)) (.aa (aD (i2+1)) (.at (rU s1 i1 (i2+1) r1 i3 s2))) (.aa ((0:Int)<=i2) (.aa (i2<(↑s1.size:Int)) (.ite (b9 s1 i2.toNat==95) (.aa (aD (i2+1)) (.at (rU s1 i1 (i2+1) r1 i3 s2))) (.at (zK s1 i1 i2 r1 i3 s2))))))))))) (.at (zK s1 i1 i2 r1 i3 s2)):=by kernel_rfl
theorem amR(dg lt:Int->Bool)(sg:ByteArray->Bool)(m:Int->ByteArray->Bool)(s1:ByteArray)(i1:Int)(i2:Int)(r1:List (CL bJ))(i3:Int)(s2:ByteArray):run P (my dg lt sg m).sum f77 kA (zI s1 i1 i2 r1 i3 s2)=
 Tree.ite (decide (i2<(↑s1.size:Int))) (.aa ((0:Int)<=i2) (.aa (i2<(↑s1.size:Int)) (.ite (b9 s1 i2.toNat !=39) (.aa (aD (i2+1)) (.at (zI s1 i1 (i2+1) r1 i3 s2))) (.at (zL s1 i1 i2 r1 i3 s2))))) (.at (zL s1 i1 i2 r1 i3 s2)):=by kernel_rfl
theorem amS(dg lt:Int->Bool)(sg:ByteArray->Bool)(m:Int->ByteArray->Bool)(s1:ByteArray)(i1:Int)(i2:Int)(r1:List (CL bJ))(i3:Int)(s2:ByteArray):run P (my dg lt sg m).sum f77 kA (nk s1 i1 i2 r1 i3 s2)=
 Tree.aa (s2.size<=100) (.ite (!m i3 s2) (.ret [.vec (.ab bJ r1) 123,.ad [.s (.int .u8 i3),.s (.str s2)] 123] (.bO [.emp,.s (.aq .i64 4)])) (.at (adq s1 i1 i2 r1 i3 s2))):=by kernel_rfl
theorem amT(dg lt:Int->Bool)(sg:ByteArray->Bool)(m:Int->ByteArray->Bool)(s1:ByteArray)(i1:Int)(i2:Int)(r1:List (CL bJ))(i3:Int)(s2:ByteArray):run P (my dg lt sg m).sum f77 kA (zJ s1 i1 i2 r1 i3 s2)=
 Tree.aa ((0:Int)<=i1) (.aa (i1<=i2) (.aa (i2<=(↑s1.size:Int)) (.at (nk s1 i1 i2 r1 1 (s1.extract i1.toNat i2.toNat))))):=by kernel_rfl
theorem amU(dg lt:Int->Bool)(sg:ByteArray->Bool)(m:Int->ByteArray->Bool)(s1:ByteArray)(i1:Int)(i2:Int)(r1:List (CL bJ))(i3:Int)(s2:ByteArray):run P (my dg lt sg m).sum f77 kA (zK s1 i1 i2 r1 i3 s2)=
 Tree.aa ((0:Int)<=i1) (.aa (i1<=i2) (.aa (i2<=(↑s1.size:Int)) (.at (nk s1 i1 i2 r1 2 (s1.extract i1.toNat i2.toNat))))):=by kernel_rfl
theorem amV(dg lt:Int->Bool)(sg:ByteArray->Bool)(m:Int->ByteArray->Bool)(s1:ByteArray)(i1:Int)(i2:Int)(r1:List (CL bJ))(i3:Int)(s2:ByteArray):run P (my dg lt sg m).sum f77 kA (zL s1 i1 i2 r1 i3 s2)=
 Tree.ite (i2==(↑s1.size:Int)) (.ret [.vec (.ab bJ r1) 123,.ad [.s (.int .u8 i3),.s (.str s2)] 123] (.bO [.emp,.s (.aq .i64 4)])) (.at (adr s1 i1 i2 r1 i3 s2)):=by kernel_rfl
theorem amW(dg lt:Int->Bool)(sg:ByteArray->Bool)(m:Int->ByteArray->Bool)(s1:ByteArray)(i1:Int)(i2:Int)(r1:List (CL bJ))(i3:Int)(s2:ByteArray):run P (my dg lt sg m).sum f77 kA (adq s1 i1 i2 r1 i3 s2)=
 Tree.aa ((r1.length+1)*(24:Nat)<=140737488355328) (.at (abG s1 i2 (r1++[tkO i3 s2]))):=by kernel_rfl
theorem amX(dg lt:Int->Bool)(sg:ByteArray->Bool)(m:Int->ByteArray->Bool)(s1:ByteArray)(i1:Int)(i2:Int)(r1:List (CL bJ))(i3:Int)(s2:ByteArray):run P (my dg lt sg m).sum f77 kA (adr s1 i1 i2 r1 i3 s2)=
 Tree.aa (aD (i1+1)) (.aa ((0:Int)<=i1+1) (.aa (i1+1<=i2) (.aa (i2<=(↑s1.size:Int)) (.aa (aD (i2+1)) (.at (nk s1 i1 (i2+1) r1 3 (s1.extract (i1+1).toNat i2.toNat))))))):=by kernel_rfl
theorem zM(s:ByteArray)(a b:Nat):(s.extract a b).size<=s.size:=by rw[ByteArray.size_extract];omega
theorem ads:iw []:=λ_ h=>by cases h
theorem zN{l:cA}(h:iw l)(k:Int){s:ByteArray}(hs:s.size<=100):iw (l++[tkO k s]):=λt ht=>by
 rcases mem_append.1 ht with h1|h1;exact h t h1;rcases List.mem_singleton.1 h1 with rfl;exact hs
abbrev j9(x:AL [bg])(c:aR):Prop:=ExC 77 [adp,bx] ((λ_ y=>qLx y) x) c
def zO(x:AL [bg])(N:Nat):Prop:=(∀(s1:ByteArray),1000000<N->(s1.size<=100)->j9 x (akx s1))/\(∀(s1:ByteArray) (i1:Int) (r1:List (CL bJ)),(1000*(101 - i1)).toNat+900<N->(iw r1/\(s1.size<=100/\0<=i1/\r1.length<=i1/\i1<=s1.size))->j9 x (abG s1 i1 r1))/\(∀(s1:ByteArray) (i1:Int) (r1:List (CL bJ)),(1000*(101 - i1)).toNat+800<N->(iw r1/\(s1.size<=100/\0<=i1/\r1.length<=i1/\i1<s1.size))->j9 x (aky s1 i1 r1))/\(∀(r1:List (CL bJ)),0<N->(iw r1/\r1.length<=100)->j9 x (zG r1))/\(∀(s1:ByteArray) (i1:Int) (i2:Int) (r1:List (CL bJ)) (i3:Int) (s2:ByteArray),(1000*(101 - i1)+700 - i2).toNat<N->(iw r1/\(s1.size<=100/\0<=i1/\r1.length<=i1/\i1<i2/\i2<=s1.size))->j9 x (zH s1 i1 i2 r1 i3 s2))/\(∀(s1:ByteArray) (i1:Int) (i2:Int) (r1:List (CL bJ)) (i3:Int) (s2:ByteArray),(1000*(101 - i1)+700 - i2).toNat<N->(iw r1/\(s1.size<=100/\0<=i1/\r1.length<=i1/\i1<i2/\i2<=s1.size))->j9 x (rU s1 i1 i2 r1 i3 s2))/\(∀(s1:ByteArray) (i1:Int) (i2:Int) (r1:List (CL bJ)) (i3:Int) (s2:ByteArray),(1000*(101 - i1)+700 - i2).toNat<N->(iw r1/\(s1.size<=100/\0<=i1/\r1.length<=i1/\i1<i2/\i2<=s1.size))->j9 x (zI s1 i1 i2 r1 i3 s2))/\(∀(s1:ByteArray) (i1:Int) (i2:Int) (r1:List (CL bJ)) (i3:Int) (s2:ByteArray),(1000*(101 - i1)+300).toNat<N->((iw r1/\s2.size<=100)/\(s1.size<=100/\0<=i1/\r1.length<=i1/\i1<i2/\i2<=s1.size))->j9 x (nk s1 i1 i2 r1 i3 s2))/\(∀(s1:ByteArray) (i1:Int) (i2:Int) (r1:List (CL bJ)) (i3:Int) (s2:ByteArray),(1000*(101 - i1)+500).toNat<N->(iw r1/\(s1.size<=100/\0<=i1/\r1.length<=i1/\i1<i2/\i2<=s1.size))->j9 x (zJ s1 i1 i2 r1 i3 s2))/\(∀(s1:ByteArray) (i1:Int) (i2:Int) (r1:List (CL bJ)) (i3:Int) (s2:ByteArray),(1000*(101 - i1)+500).toNat<N->(iw r1/\(s1.size<=100/\0<=i1/\r1.length<=i1/\i1<i2/\i2<=s1.size))->j9 x (zK s1 i1 i2 r1 i3 s2))/\(∀(s1:ByteArray) (i1:Int) (i2:Int) (r1:List (CL bJ)) (i3:Int) (s2:ByteArray),(1000*(101 - i1)+500).toNat<N->(iw r1/\(s1.size<=100/\0<=i1/\r1.length<=i1/\i1<i2/\i2<=s1.size))->j9 x (zL s1 i1 i2 r1 i3 s2))/\(∀(s1:ByteArray) (i1:Int) (i2:Int) (r1:List (CL bJ)) (i3:Int) (s2:ByteArray),(1000*(101 - i1)+200).toNat<N->((iw r1/\s2.size<=100)/\(s1.size<=100/\0<=i1/\r1.length<=i1/\i1<i2/\i2<=s1.size))->j9 x (adq s1 i1 i2 r1 i3 s2))/\(∀(s1:ByteArray) (i1:Int) (i2:Int) (r1:List (CL bJ)) (i3:Int) (s2:ByteArray),(1000*(101 - i1)+400).toNat<N->(iw r1/\(s1.size<=100/\0<=i1/\r1.length<=i1/\i1<i2/\i2<s1.size))->j9 x (adr s1 i1 i2 r1 i3 s2))
theorem agB{dg lt:Int->Bool}{sg:ByteArray->Bool}{m:Int->ByteArray->Bool}{x:AL [bg]}(hE:∀Z,(my dg lt sg m).Ok P Z){N:Nat}(ih:zO x N):∀(r1:List (CL bJ)),0<N+1->(iw r1/\r1.length<=100)->j9 x (zG r1):=by
 intro r1 hm hi;have⟨h0,h1,h2,h3,h4,h5,h6,h7,h8,h9,iz,oe,oW⟩:=ih
 first|have⟨hw,hi⟩:=hi|skip
 refine bC (λZ=>hE Z) func77 (amO dg lt sg m r1) ?_
 repeat' (with_reducible (first|refine kz ?_|refine fk ?_ ?_|refine ie (λ_=> ?_) (λ_=> ?_)|refine ig (λ_=> ?_) (λ_=> ?_)|refine ij (λ_=> ?_) (λ_=> ?_)|refine ik ?_|refine fP (λ_=> ?_) (λ_=> ?_)))
 all_goals first|exact kS (r1,0,()) ⟨by show List.length r1<=100;omega,hw⟩ (aL _ rfl (by kernel_rfl))|omega|exact⟨by omega,by omega⟩|assumption|with_reducible exact xb trivial|with_reducible exact xl trivial|exact kS ([],4,()) ⟨zero_le _,ads⟩ (aL _ rfl (by kernel_rfl))|exact hw.2|((with_reducible refine mq ?_)<;>(with_reducible first|apply h0|apply h1|apply h2|apply h3|apply h4|apply h5|apply h6|apply h7|apply h8|apply h9|apply iz|apply oe|apply oW)<;>first|omega|omega|exact⟨hw,by omega⟩|exact⟨ads,by simp;omega⟩|exact⟨⟨hw,le_trans (zM _ _ _) (by omega)⟩,by omega⟩|exact⟨zN hw.1 _ hw.2,by simp;omega⟩)
set_option maxHeartbeats 16000000 in
theorem ap6{dg lt:Int->Bool}{sg:ByteArray->Bool}{m:Int->ByteArray->Bool}{x:AL [bg]}(hE:∀Z,(my dg lt sg m).Ok P Z):∀N,zO x N:=by
 intro N
 induction N with
 |zero=>
  unfold zO
  and_intros<;>(intros;omega)
 |succ N ih=>
  have hh:=ih;have⟨h0,h1,h2,h3,h4,h5,h6,h7,h8,h9,iz,oe,oW⟩:=hh;unfold zO;refine⟨λ_ hm hi=>bC (λZ=>hE Z) func77 (ap3 ..) ?_,λ_ _ _ hm hi=>bC (λZ=>hE Z) func77 (ap4 ..) ?_,λ_ _ _ hm hi=>bC (λZ=>hE Z) func77 (ap5 ..) ?_,agB hE ih,λ_ _ _ _ _ _ hm hi=>bC (λZ=>hE Z) func77 (amP ..) ?_,λ_ _ _ _ _ _ hm hi=>bC (λZ=>hE Z) func77 (amQ ..) ?_,λ_ _ _ _ _ _ hm hi=>bC (λZ=>hE Z) func77 (amR ..) ?_,λ_ _ _ _ _ _ hm hi=>bC (λZ=>hE Z) func77 (amS ..) ?_,λ_ _ _ _ _ _ hm hi=>bC (λZ=>hE Z) func77 (amT ..) ?_,λ_ _ _ _ _ _ hm hi=>bC (λZ=>hE Z) func77 (amU ..) ?_,λ_ _ _ _ _ _ hm hi=>bC (λZ=>hE Z) func77 (amV ..) ?_,λ_ _ _ _ _ _ hm hi=>bC (λZ=>hE Z) func77 (amW ..) ?_,λ_ _ _ _ _ _ hm hi=>bC (λZ=>hE Z) func77 (amX ..) ?_⟩
  all_goals (first|have⟨hw,hi⟩:=hi|skip)
  all_goals repeat' (with_reducible (first|refine kz ?_|refine fk ?_ ?_|refine ie (λ_=> ?_) (λ_=> ?_)|refine ig (λ_=> ?_) (λ_=> ?_)|refine ij (λ_=> ?_) (λ_=> ?_)|refine ik ?_|refine fP (λ_=> ?_) (λ_=> ?_)))
  all_goals first|omega|exact⟨by omega,by omega⟩|assumption|with_reducible exact xb trivial|with_reducible exact xl trivial|exact kS ([],4,()) ⟨zero_le _,ads⟩ (aL _ rfl (by kernel_rfl))|exact hw.2|((with_reducible refine mq ?_)<;>(with_reducible first|apply h0|apply h1|apply h2|apply h3|apply h4|apply h5|apply h6|apply h7|apply h8|apply h9|apply iz|apply oe|apply oW)<;>first|omega|omega|exact⟨hw,by omega⟩|exact⟨ads,by simp;omega⟩|exact⟨⟨hw,le_trans (zM _ _ _) (by omega)⟩,by omega⟩|exact⟨zN hw.1 _ hw.2,by simp;omega⟩)
theorem asQ{dg lt:Int->Bool}{sg:ByteArray->Bool}{m:Int->ByteArray->Bool}(hE:∀Z,(my dg lt sg m).Ok P Z):∃F:AL [bg]->AL [adp,bx],(∀Z,cf P Z 77 [bg] [adp,bx] bI F)/\∀x,AL.ok [bg] x->bd (bI x)->(λ_ y=>qLx y) x (F x):=by
 refine fnE (rs:=[adp,bx]) (ts:=[bg]) (pre:=bI) (R:=(λ_ y=>qLx y)) ([],0,()) func77 (by kernel_rfl) (by kernel_rfl) ?_;rintro⟨(s:ByteArray),⟨⟩⟩ _ _;skip;have ih:=ap6 (x:=(s,())) hE 100000000;have⟨h0,h1,h2,h3,h4,h5,h6,h7,h8,h9,iz,oe,oW⟩:=ih;show j9 (s,()) _;refine bC (λZ=>hE Z) func77 (auQ dg lt sg m s) ?_
 repeat' (with_reducible (first|refine kz ?_|refine fk ?_ ?_|refine ie (λ_=> ?_) (λ_=> ?_)|refine ig (λ_=> ?_) (λ_=> ?_)|refine ij (λ_=> ?_) (λ_=> ?_)|refine ik ?_|refine fP (λ_=> ?_) (λ_=> ?_)))
 all_goals first|exact kS ([],40,()) ⟨zero_le _,ads⟩ (aL _ rfl (by kernel_rfl))|omega|exact⟨by omega,by omega⟩|assumption|with_reducible exact xb trivial|with_reducible exact xl trivial|exact kS ([],4,()) ⟨zero_le _,ads⟩ (aL _ rfl (by kernel_rfl))|exact hw.2|((with_reducible refine mq ?_)<;>(with_reducible first|apply h0|apply h1|apply h2|apply h3|apply h4|apply h5|apply h6|apply h7|apply h8|apply h9|apply iz|apply oe|apply oW)<;>first|omega|omega|exact⟨hw,by omega⟩|exact⟨ads,by simp;omega⟩|exact⟨⟨hw,le_trans (zM _ _ _) (by omega)⟩,by omega⟩|exact⟨zN hw.1 _ hw.2,by simp;omega⟩)
theorem E2:∃F:ByteArray->cA×Int,(∀Z,cf P Z 77 [bg] [adp,bx] bI (λ(s,())=>((F s).1,(F s).2,())))/\∀s,(F s).1.length<=100/\iw (F s).1:=by
 have⟨dg,lt,sg,m,hE,hm⟩:=E1
 have hE2:∀Z,(my dg lt sg m).Ok P Z:=λZ x hx=>by
  rcases mem_append.1 (show x∈mi dg lt sg++[(91,aoa m)]from hx)with h|h;exact hE Z x h;rcases List.mem_singleton.1 h with rfl;exact(hm Z).sum
 have⟨F,h,hq⟩:=asQ hE2;exact⟨λs=>((F (s,())).1,(F (s,())).2.1),λZ=>cf.cg (h Z) λ⟨s,⟨⟩⟩=>rfl,λs=>hq (s,()) ⟨trivial,trivial⟩ trivial⟩
end Ds
