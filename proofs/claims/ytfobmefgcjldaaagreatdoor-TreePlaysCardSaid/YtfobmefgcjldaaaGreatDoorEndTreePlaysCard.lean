/- Whatever the arguments: TreePlays returns true, and what it was handed reads as before. No condition. -/
import Derived.LaidMore
import Derived.Test.YtfobmefgcjldaaaGreatDoorRows
import Derived.Test.YtfobmefgcjldaaaGreatDoorCards
import Derived.Test.YtfobmefgcjldaaaGreatDoorTie
import Derived.SevenTiedAt
import Derived.Lib.LaidTab
import Derived.Stop.Joined
import Derived.Test.YtfobmefgcjldaaaGreatDoorPF
namespace Go.Proofs.YtfobmefgcjldaaaGreatDoor
open Go.ChangeShapes Go.WideShapes Go.ChangeAt Go.RowKit Go.Sx Ts
namespace treePlays
theorem ax7:Tryz.prog.globalNamed "math/bits.deBruijn64tab" =some 0:=by kernel_rfl
theorem anQ:(Tryz.prog.globals[0]?).map (·.type)=some 181:=by kernel_rfl
theorem azH{W:World}(h:laidMetH Tryz.prog [("math/bits.deBruijn64tab",Rows.laid_math_bits_deBruijn64tab)] W):Bx.cw.ok W:=by
 have ht:Lib.TabIs Tryz.prog W "math/bits.deBruijn64tab" .u8 (Lib.deBruijn64tab.map Int.ofNat):=Lib.tabIs_of_head (rest:=[]) ax7 anQ Tryz.underlying181 Tryz.underlying5 (by kernel_rfl) (by kernel_rfl) h;intro j hj;have h1:=ht.cell ax7 j (by simpa using hj);rw[h1];simp[List.getD,hj]
set_option maxRecDepth 100000 in
theorem anR(H:Type)(enc:TypeId×Value->H)(W:World)(base:Nat)(args:Array Value)(ds gs:List (DataW H))(before:List MemPlace)
 (jL:∀(j:Nat) t v,Tryz.f3.params[j]? =some t->args[j]? =some v->Value.okWide Tryz.prog W .any base t v)
 (hW:DataW.Whole enc Tryz.prog Tryz.f3.params.toList Rows.treePlaysSpec.vars false W args.toList ds gs before) (hL:laidMetH Tryz.prog Rows.treePlaysRow.laid W):
 Calls Tryz.prog 3 args W λe W'=>∃v,e=.returned v/\Rows.treePlaysSpec.post enc Tryz.prog Tryz.f3 false true false false W args v W':=by
 have hW':=hW;obtain⟨p,q,hA0,hV,rfl,hfz,iU⟩:=hW;have hA:DataW.TrodAll enc Tryz.prog W 0 (λ_=>true) true Tryz.f3.params.toList args.toList ds p:=hA0;rw[Tryz.params3]at hA jL;obtain⟨v0,vs0,d0,ds0,p0,q0,gb,rfl,rfl,h0,r0⟩:=trodAll_cons hA;obtain⟨v1,vs1,d1,ds1,p1,q1,rfl,rfl,rfl,h1,r1⟩:=trodAll_cons r0;obtain⟨v2,vs2,d2,ds2,p2,q2,rfl,rfl,rfl,h2,r2⟩:=trodAll_cons r1;obtain⟨rfl,rfl,rfl⟩:=trodAll_nil r2;obtain rfl:args= #[v0,v1,v2]:=by cases args;simp_all
 obtain⟨rfl,rfl⟩:=trodVars_none hV;clear hA0;obtain⟨x0,w0,e0⟩:∃x:Ty.V (.b (.int .i64)),Ty.wf (.b (.int .i64)) x/\ag (λ_=>undef) (λ_=>none) (λ_=>False) W (Ty.av (.b (.int .i64)) x) v0:=afa (by kernel_rfl) (jL 0 3 v0 rfl rfl) h0;obtain⟨x1,w1,e1⟩:∃x:Ty.V (.b (.row (.af .i64) 3)),Ty.wf (.b (.row (.af .i64) 3)) x/\ag (λ_=>undef) (λ_=>none) (λ_=>False) W (Ty.av (.b (.row (.af .i64) 3)) x) v1:=afa (by kernel_rfl) (jL 1 22 v1 rfl rfl) h1;obtain⟨x2,w2,e2⟩:∃x:Ty.V (.b (.row (.ah [.int .u8,.str,.str]) 45)),Ty.wf (.b (.row (.ah [.int .u8,.str,.str]) 45)) x/\ag (λ_=>undef) (λ_=>none) (λ_=>False) W (Ty.av (.b (.row (.ah [.int .u8,.str,.str]) 45)) x) v2:=afa (by kernel_rfl) (jL 2 23 v2 rfl rfl) h2;refine(wA (f:=3) (ts:=[.b (.int .i64),.b (.row (.af .i64) 3),.b (.row (.ah [.int .u8,.str,.str]) 45)]) abC (azH hL) (x:=(x0,x1,x2,())) (vs:=[v0,v1,v2]) (trivial) (aJ.2 ⟨v0,[v1,v2],rfl,e0,aJ.2 ⟨v1,[v2],rfl,e1,aJ.2 ⟨v2,[],rfl,e2,bp.2 rfl⟩⟩⟩)).mono ?_;rintro e W' ⟨rfl,agt⟩;exact⟨_,rfl,ait Hd.laidOut (by kernel_rfl) (show Tryz.f3.resultTypes= #[4]from by kernel_rfl) Tryz.underlying4 rfl rfl hW' agt⟩
theorem anS(os:Os)(args:Array Value):laidMetH Tryz.prog Rows.treePlaysRow.laid ((World.doorLaid Tryz.prog 400 os).forCall (λ_ _=>0) ⟨#[],args,[]⟩).memory:=
 laidMet_of_run' 8 (by kernel_rfl) (by kernel_rfl)
set_option maxRecDepth 100000 in
theorem lifted(os:Os)(started:os.Started)(H:Type)(enc:TypeId×Value->H):
 ReturnsInHanded {} Tryz.checked os 3 .any (λw args=>(Rows.treePlaysSpec.pre enc Tryz.prog Tryz.f3 [] false w args/\laidMetH Tryz.prog Rows.treePlaysRow.laid w)/\sizedMet enc Tryz.prog Tryz.f3 (OpenSpec.ofChange Rows.treePlaysSpec) false w args)
  (Rows.treePlaysSpec.post enc Tryz.prog Tryz.f3 false true false false):=by
 refine returnsInHanded_of_change_and (C:=Tryz.checked) (X:=λw _=>laidMetH Tryz.prog Rows.treePlaysRow.laid w) (λ_ _ _ hh h=>h.of_heap hh) Hd.ak started (by kernel_rfl) Tryz.func3
  (ChangeSpec.witness_shaped (enc:=enc) (C:=Tryz.checked) (os:=os) (X:=λw _=>laidMetH Tryz.prog Rows.treePlaysRow.laid w) false (World.doorLaid Tryz.prog 400 os) #[.int .i64 0,.slice none 0 0,.slice none 0 0] 8 rfl (World.shaped_of_RefB (by kernel_rfl) (by kernel_rfl)) (by kernel_rfl) (by kernel_rfl) (by kernel_rfl) (anS os _)) ?_
 intro W base args ds gs before jL hW _ _ hL _;exact anR H enc W base args ds gs before jL hW hL
theorem said:Rows.TreePlaysSaid:=
 OpenClaim.holds_of_wide 3 Tryz.f3 rfl rfl rfl rfl rfl rfl rfl ⟨rfl,rfl,rfl,rfl,rfl⟩ rfl rfl rfl rfl rfl (by kernel_rfl) Tryz.func3 (afb Hd.agv Hd.hb Hd.a3 Hd.a1 Hd.a2 Hd.a5 (by kernel_rfl))
  (of_decide_eq_true (by kernel_rfl)) (by unfold Func.isWrapper;first|(rw[if_pos (by decide +kernel)];kernel_rfl)|(rw[if_neg (by decide +kernel)];exact⟨rfl,rfl⟩))
  (λos started H enc _=>lifted os started H enc)
theorem plain(f:FuncId)(fn:Func)(hf:Tryz.pinned.checked.prog.funcNamed "callboard/callboardlaw07.TreePlays" =some f)(hfn:Tryz.pinned.checked.prog.funcs[f]? =some fn):
 false=Tryz.pinned.checked.prog.looks []/\∀(j:Nat) t,fn.params[j]? =some t->Tryz.pinned.checked.prog.wantsStandIn t=false:=by
 obtain rfl:f=3:=Option.some.inj ((show Tryz.prog.funcNamed "callboard/callboardlaw07.TreePlays" =some 3 by kernel_rfl).symm.trans hf) |>.symm;obtain rfl:fn=Tryz.f3:=(Option.some.inj (Tryz.func3.symm.trans hfn)).symm;refine⟨by kernel_rfl,λj t ht=> ?_⟩;have aaf:(Tryz.f3.params.toList.all λu=> !Tryz.prog.wantsStandIn u)=true:=by kernel_rfl
 have hm:=List.all_eq_true.1 aaf t (Array.mem_toList_iff.2 (Array.mem_of_getElem? ht));exact(show Tryz.prog.wantsStandIn t=false by simpa using hm)
theorem card:Rows.TreePlaysCardSaid:=
 Claim7.holds_tied_plain_at .later [] _ _ _ _ said (λ_ h=>by cases h) (by kernel_rfl) (λ_ h=>by cases h) treePlays_row_tie rfl ⟨rfl,rfl⟩ (by kernel_rfl) rfl plain (by kernel_rfl)
#print axioms card
end treePlays
end Go.Proofs.YtfobmefgcjldaaaGreatDoor
