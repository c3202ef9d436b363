/- Whatever the arguments: StoreCrash returns true, and what it was handed reads as before. No condition. -/
import Derived.LaidMore
import Derived.Test.YtgookenhmddbfaaGreatDoorRows
import Derived.Test.YtgookenhmddbfaaGreatDoorCards
import Derived.Test.YtgookenhmddbfaaGreatDoorTie
import Derived.SevenTiedAt
import Derived.Lib.LaidTab
import Derived.Stop.Joined
import Derived.Test.YtgookenhmddbfaaGreatDoorPF
namespace Go.Proofs.YtgookenhmddbfaaGreatDoor
open Go.ChangeShapes Go.WideShapes Go.ChangeAt Go.RowKit Go.Sx Ts
namespace storeCrash
theorem azb:Tryz.prog.globalNamed "math/bits.deBruijn64tab" =some 1:=by kernel_rfl
theorem aph:(Tryz.prog.globals[1]?).map (·.type)=some 59:=by kernel_rfl
theorem aBe{W:World}(h:laidMetH Tryz.prog [("math/bits.deBruijn64tab",Rows.laid_math_bits_deBruijn64tab)] W):Bx.bO.ok W:=by
 have ht:Lib.TabIs Tryz.prog W "math/bits.deBruijn64tab" .u8 (Lib.deBruijn64tab.map Int.ofNat):=Lib.tabIs_of_head (rest:=[]) azb aph Tryz.underlying59 Tryz.underlying5 (by kernel_rfl) (by kernel_rfl) h;intro j hj;have h1:=ht.cell azb j (by simpa using hj);rw[h1];simp[List.getD,hj]
set_option maxRecDepth 100000 in
theorem api(H:Type)(enc:TypeId×Value->H)(W:World)(base:Nat)(args:Array Value)(ds gs:List (DataW H))(before:List MemPlace)
 (kU:∀(j:Nat) t v,Tryz.f3.params[j]? =some t->args[j]? =some v->Value.okWide Tryz.prog W .any base t v)
 (hW:DataW.Whole enc Tryz.prog Tryz.f3.params.toList Rows.storeCrashSpec.vars false W args.toList ds gs before) (hL:laidMetH Tryz.prog Rows.storeCrashRow.laid W):
 Calls Tryz.prog 3 args W λe W'=>∃v,e=.returned v/\Rows.storeCrashSpec.post enc Tryz.prog Tryz.f3 false true false false W args v W':=by
 have hW':=hW;obtain⟨p,q,hA0,hV,rfl,hfz,iq⟩:=hW;have hA:DataW.TrodAll enc Tryz.prog W 0 (λ_=>true) true Tryz.f3.params.toList args.toList ds p:=hA0;rw[Tryz.params3]at hA kU;obtain⟨v0,vs0,d0,ds0,p0,q0,gu,rfl,rfl,h0,r0⟩:=trodAll_cons hA;obtain⟨v1,vs1,d1,ds1,p1,q1,rfl,rfl,rfl,h1,r1⟩:=trodAll_cons r0;obtain⟨rfl,rfl,rfl⟩:=trodAll_nil r1;obtain rfl:args= #[v0,v1]:=by cases args;simp_all
 obtain⟨rfl,rfl⟩:=trodVars_none hV;clear hA0;obtain⟨x0,w0,e0⟩:∃x:Ty.V (.b (.int .u8)),Ty.wf (.b (.int .u8)) x/\af (λ_=>undef) (λ_=>none) (λ_=>False) W (Ty.av (.b (.int .u8)) x) v0:=amd (by kernel_rfl) (kU 0 5 v0 rfl rfl) h0;obtain⟨x1,w1,e1⟩:∃x:Ty.V (.b (.row (.au [.int .u8,.str,.str,.int .i64,.bF,.int .i64,.int .i64]) 34)),Ty.wf (.b (.row (.au [.int .u8,.str,.str,.int .i64,.bF,.int .i64,.int .i64]) 34)) x/\af (λ_=>undef) (λ_=>none) (λ_=>False) W (Ty.av (.b (.row (.au [.int .u8,.str,.str,.int .i64,.bF,.int .i64,.int .i64]) 34)) x) v1:=amd (by kernel_rfl) (kU 1 22 v1 rfl rfl) h1;refine(xW (f:=3) (ts:=[.b (.int .u8),.b (.row (.au [.int .u8,.str,.str,.int .i64,.bF,.int .i64,.int .i64]) 34)]) zY (aBe hL) (x:=(x0,x1,())) (vs:=[v0,v1]) (⟨⟨w0,w1,trivial⟩,trivial⟩) (aD.2 ⟨v0,[v1],rfl,e0,aD.2 ⟨v1,[],rfl,e1,a8.2 rfl⟩⟩)).mono ?_;rintro e W' ⟨rfl,ahW⟩;exact⟨_,rfl,aj8 Hd.laidOut (by kernel_rfl) (show Tryz.f3.resultTypes= #[4]from by kernel_rfl) Tryz.underlying4 rfl rfl hW' ahW⟩
theorem apj(os:Os)(args:Array Value):laidMetH Tryz.prog Rows.storeCrashRow.laid ((World.doorLaid Tryz.prog 400 os).forCall (λ_ _=>0) ⟨#[],args,[]⟩).memory:=
 laidMet_of_run' 8 (by kernel_rfl) (by kernel_rfl)
set_option maxRecDepth 100000 in
theorem lifted(os:Os)(started:os.Started)(H:Type)(enc:TypeId×Value->H):
 ReturnsInHanded {} Tryz.checked os 3 .any (λw args=>(Rows.storeCrashSpec.pre enc Tryz.prog Tryz.f3 [] false w args/\laidMetH Tryz.prog Rows.storeCrashRow.laid w)/\sizedMet enc Tryz.prog Tryz.f3 (OpenSpec.ofChange Rows.storeCrashSpec) false w args)
  (Rows.storeCrashSpec.post enc Tryz.prog Tryz.f3 false true false false):=by
 refine returnsInHanded_of_change_and (C:=Tryz.checked) (X:=λw _=>laidMetH Tryz.prog Rows.storeCrashRow.laid w) (λ_ _ _ hh h=>h.of_heap hh) Hd.aq started (by kernel_rfl) Tryz.func3
  (ChangeSpec.witness_shaped (enc:=enc) (C:=Tryz.checked) (os:=os) (X:=λw _=>laidMetH Tryz.prog Rows.storeCrashRow.laid w) false (World.doorLaid Tryz.prog 400 os) #[.int .u8 0,.slice none 0 0] 8 rfl (World.shaped_of_RefB (by kernel_rfl) (by kernel_rfl)) (by kernel_rfl) (by kernel_rfl) (by kernel_rfl) (apj os _)) ?_
 intro W base args ds gs before kU hW _ _ hL _;exact api H enc W base args ds gs before kU hW hL
theorem said:Rows.StoreCrashSaid:=
 OpenClaim.holds_of_wide 3 Tryz.f3 rfl rfl rfl rfl rfl rfl rfl ⟨rfl,rfl,rfl,rfl,rfl⟩ rfl rfl rfl rfl rfl (by kernel_rfl) Tryz.func3 (ago Hd.ahY Hd.hb Hd.a3 Hd.a1 Hd.a2 Hd.a5 (by kernel_rfl))
  (of_decide_eq_true (by kernel_rfl)) (by unfold Func.isWrapper;first|(rw[if_pos (by decide +kernel)];kernel_rfl)|(rw[if_neg (by decide +kernel)];exact⟨rfl,rfl⟩))
  (λos started H enc _=>lifted os started H enc)
theorem plain(f:FuncId)(fn:Func)(hf:Tryz.pinned.checked.prog.funcNamed "callboard/callboardlaw08.StoreCrash" =some f)(hfn:Tryz.pinned.checked.prog.funcs[f]? =some fn):
 false=Tryz.pinned.checked.prog.looks []/\∀(j:Nat) t,fn.params[j]? =some t->Tryz.pinned.checked.prog.wantsStandIn t=false:=by
 obtain rfl:f=3:=Option.some.inj ((show Tryz.prog.funcNamed "callboard/callboardlaw08.StoreCrash" =some 3 by kernel_rfl).symm.trans hf) |>.symm;obtain rfl:fn=Tryz.f3:=(Option.some.inj (Tryz.func3.symm.trans hfn)).symm;refine⟨by kernel_rfl,λj t ht=> ?_⟩;have abu:(Tryz.f3.params.toList.all λu=> !Tryz.prog.wantsStandIn u)=true:=by kernel_rfl
 have hm:=List.all_eq_true.1 abu t (Array.mem_toList_iff.2 (Array.mem_of_getElem? ht));exact(show Tryz.prog.wantsStandIn t=false by simpa using hm)
theorem card:Rows.StoreCrashCardSaid:=
 Claim7.holds_tied_plain_at .later [] _ _ _ _ said (λ_ h=>by cases h) (by kernel_rfl) (λ_ h=>by cases h) storeCrash_row_tie rfl ⟨rfl,rfl⟩ (by kernel_rfl) rfl plain (by kernel_rfl)
#print axioms card
end storeCrash
end Go.Proofs.YtgookenhmddbfaaGreatDoor
