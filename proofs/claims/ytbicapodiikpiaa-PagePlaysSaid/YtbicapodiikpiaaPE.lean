/- Lemmas: H1, H0, H2, H3, H4, H5, H6, E2, E3. -/
import Derived.Test.YtbicapodiikpiaaPD

namespace Ds
open Go Go.Sx Go.Proofs Lf
/-! Pages: summaries, and the closed statements. -/
def mGs : List AV → RM ((Th × As × Int × Int × Bool × Int × Int) × List Nat)
  | [.ptr id 0, n, .agg [on, ep, pg]] => (mAs [.ptr id 0]).bind fun ((th, m, fu), σ) => match n.num?, on.truth?, ep.num?, pg.num? with
    | some (_, _, n), some (_, on), some (_, _, ep), some (_, _, pg) => .ret ((th, m, fu, n, on, ep, pg), σ)
    | _, _, _, _ => .fail "no number"
  | _ => .fail "no disk"
abbrev sumGR := sumS sGR mRd
abbrev sumGW := sumS sGW mWr
abbrev sumGo := sumS sGo mRd
abbrev sumGs := sumS sGs mGs
abbrev sumPn := sumS sPn mAs
abbrev avNil : AV := .s .nilp
theorem tnGR  : run P tab0.sum Try.f14 [] (start Try.f14 [avNil, avI 0] []) inG =
  Tree.ret [AObj.own [AV.s SV.nilp] (25 : Nat), AObj.own [AV.s (SV.str ByteArray.empty)] (9 : Nat), AObj.own [AV.s (SV.ilit IntKind.i64 (2 : Int))] (26 : Nat)] (AV.tup [AV.s (SV.str ByteArray.empty), AV.s (SV.ilit IntKind.i64 (2 : Int))]) := by kernel_rfl
theorem tnGW  : run P tab0.sum Try.f16 [] (start Try.f16 [avNil, avI 0, .s (.str ByteArray.empty)] []) inG =
  Tree.ret [AObj.own [AV.s SV.nilp] (25 : Nat), AObj.own [AV.s (SV.ilit IntKind.i64 (2 : Int))] (26 : Nat)] (AV.s (SV.ilit IntKind.i64 (2 : Int))) := by kernel_rfl
theorem tnGo  : run P tab0.sum Try.f13 [] (start Try.f13 [avNil, avI 0] []) inG =
  Tree.ret [AObj.own [AV.s (SV.blit false), AV.s (SV.ilit IntKind.i64 (0 : Int)), AV.s (SV.ilit IntKind.i64 (0 : Int))] (23 : Nat)] (AV.tup [AV.agg [AV.s (SV.blit false), AV.s (SV.ilit IntKind.i64 (0 : Int)), AV.s (SV.ilit IntKind.i64 (0 : Int))], AV.s (SV.ilit IntKind.i64 (2 : Int))]) := by kernel_rfl
theorem tnGs  : run P tab0.sum Try.f12 [] (start Try.f12 [avNil, avI 0, avM false 0 0] []) inG =
  Tree.ret [AObj.own [AV.s (SV.bool false), AV.s (SV.int IntKind.i64 (0 : Int)), AV.s (SV.int IntKind.i64 (0 : Int))] (23 : Nat)] (AV.s (SV.ilit IntKind.i64 (2 : Int))) := by kernel_rfl
theorem tnPn  : run P tab0.sum Try.f15 [] (start Try.f15 [avNil] []) inG =
  Tree.need ((4 : Int) ≠ (0 : Int)) (Tree.ret [] (AV.s (SV.ilit IntKind.i64 (0 : Int)))) := by kernel_rfl
abbrev nGR : Spec Unit := ⟨fun _ => [avNil, avI 0], fun _ => [], fun _ => [], fun _ => [], fun _ => .tup [.s (.str ByteArray.empty), avI 2]⟩
abbrev nGW : Spec Unit := ⟨fun _ => [avNil, avI 0, .s (.str ByteArray.empty)], fun _ => [], fun _ => [], fun _ => [], fun _ => avI 2⟩
abbrev nGo : Spec Unit := ⟨fun _ => [avNil, avI 0], fun _ => [], fun _ => [], fun _ => [], fun _ => .tup [avM false 0 0, avI 2]⟩
abbrev nGs : Spec Unit := ⟨fun _ => [avNil, avI 0, avM false 0 0], fun _ => [], fun _ => [], fun _ => [], fun _ => avI 2⟩
abbrev nPn : Spec Unit := ⟨fun _ => [avNil], fun _ => [], fun _ => [], fun _ => [], fun _ => avI 0⟩
def m0 : List AV → RM (Unit × List Nat) := fun _ => .ret ((), [])
def tabPg : Tab := [(15, sumIf (nilAt 0) (sumS nPn m0) sumPn), (16, sumIf (nilAt 0) (sumS nGW m0) sumGW), (12, sumIf (nilAt 0) (sumS nGs m0) sumGs), (13, sumIf (nilAt 0) (sumS nGo m0) sumGo), (14, sumIf (nilAt 0) (sumS nGR m0) sumGR),
  (41, sumRd), (33, sumWr), (23, sumFl), (24, sumCr), (36, sumFu), (26, sumAs), (40, sumSe)]
def nsAw : List (Nat × Norm) := [(midKey + 2009, ⟨[], [0, 1, 18, 19], 0, []⟩), (midKey + 2015, ⟨[], [0, 1, 23, 24, 25], 0, []⟩), (midKey + 4001, ⟨[], [0, 1, 30], 0, []⟩), (midKey + 5001, ⟨[], [0, 3, 4, 35], 0, []⟩)]
noncomputable def aw_c0 : Cfg := Sx.start Try.f10 [] []
theorem aw_t0 : run (P) (tabPg.sum) (Try.f10) (nsAw) aw_c0 ([(11 : FuncId)]) =
  Tree.need ((0 : Int) ≤ (8 : Int)) (Tree.need ((8 : Int) ≤ (8 : Int)) (Tree.need ((8 : Int) ≤ (1073741824 : Int)) (Tree.need (Slf (some [AV.ptr (0 : Nat) (0 : Nat)])) (Tree.need (Slf (some [AObj.own [AV.vec (1 : Nat), AV.mapv (2 : Nat), AV.s (SV.int IntKind.i64 (-1 : Int))] (90 : Nat), AObj.vec (Con.typ [CK.arr IntKind.u8 (64 : Nat)] (List.replicate (Int.toNat (8 : Int)) (CL.d [CK.arr IntKind.u8 (64 : Nat)]))) (108 : Nat), AObj.map (CK.arr IntKind.u8 (64 : Nat)) []])) (Tree.need (okD (List.replicate (Int.toNat (8 : Int)) (CL.d [CK.arr IntKind.u8 (64 : Nat)])) [] (-1 : Int)) (Tree.ite false (Tree.ret [AObj.vec (Con.typ [CK.arr IntKind.u8 (64 : Nat)] (List.replicate (Int.toNat (8 : Int)) (CL.d [CK.arr IntKind.u8 (64 : Nat)]))) (108 : Nat), AObj.map (CK.arr IntKind.u8 (64 : Nat)) [], AObj.own [AV.vec (0 : Nat), AV.mapv (1 : Nat), AV.s (SV.int IntKind.i64 (-1 : Int))] (90 : Nat)] (AV.s (SV.blit false))) (Tree.at (Cfg.mk (sl (65 : Nat) [((0 : Nat), AV.s (SV.bool false)), ((1 : Nat), AV.ptr (0 : Nat) (0 : Nat)), ((18 : Nat), AV.s (SV.bool false)), ((19 : Nat), AV.ptr (0 : Nat) (0 : Nat))]) [AObj.own [AV.vec (1 : Nat), AV.mapv (2 : Nat), AV.s (SV.int IntKind.i64 (-1 : Int))] (90 : Nat), AObj.vec (Con.typ [CK.arr IntKind.u8 (64 : Nat)] (List.replicate (Int.toNat (8 : Int)) (CL.d [CK.arr IntKind.u8 (64 : Nat)]))) (108 : Nat), AObj.map (CK.arr IntKind.u8 (64 : Nat)) []] (cal Try.f10 (2 : Nat) (9 : Nat)) (Stk.mk none false (0 : Nat) [] (2 : Nat)))))))))) := by kernel_rfl
noncomputable def aw_d0 : List (CL [CK.arr IntKind.u8 (64 : Nat)]) := List.replicate (Int.toNat (8 : Int)) (CL.d [CK.arr IntKind.u8 (64 : Nat)])
noncomputable def aw_c1 : Cfg := Cfg.mk (sl (65 : Nat) [((0 : Nat), AV.s (SV.bool false)), ((1 : Nat), AV.ptr (0 : Nat) (0 : Nat)), ((18 : Nat), AV.s (SV.bool false)), ((19 : Nat), AV.ptr (0 : Nat) (0 : Nat))]) [AObj.own [AV.vec (1 : Nat), AV.mapv (2 : Nat), AV.s (SV.int IntKind.i64 (-1 : Int))] (90 : Nat), AObj.vec (Con.typ [CK.arr IntKind.u8 (64 : Nat)] aw_d0) (108 : Nat), AObj.map (CK.arr IntKind.u8 (64 : Nat)) []] (cal Try.f10 (2 : Nat) (9 : Nat)) (Stk.mk none false (0 : Nat) [] (2 : Nat))
theorem aw_t1 : run (P) (tabPg.sum) (Try.f10) (nsAw) aw_c1 ([(11 : FuncId)]) =
  Tree.ite false (Tree.ret [AObj.own [AV.vec (1 : Nat), AV.mapv (2 : Nat), AV.s (SV.int IntKind.i64 (-1 : Int))] (90 : Nat), AObj.vec (Con.typ [CK.arr IntKind.u8 (64 : Nat)] aw_d0) (108 : Nat), AObj.map (CK.arr IntKind.u8 (64 : Nat)) []] (AV.s (SV.blit false))) (Tree.need (Slf (some [AV.ptr (0 : Nat) (0 : Nat), AV.s (SV.int IntKind.i64 (1 : Int)), AV.s (SV.str (ByteArray.mk #[(97 : UInt8), (98 : UInt8)]))])) (Tree.need (Slf (some [AObj.own [AV.vec (1 : Nat), AV.mapv (2 : Nat), AV.s (SV.int IntKind.i64 (-1 : Int))] (90 : Nat), AObj.vec (Con.typ [CK.arr IntKind.u8 (64 : Nat)] aw_d0) (108 : Nat), AObj.map (CK.arr IntKind.u8 (64 : Nat)) []])) (Tree.need (okD aw_d0 [] (-1 : Int)) (Tree.need (inI64 (1 : Int)) (Tree.ite false (Tree.ret [AObj.own [AV.vec (1 : Nat), AV.mapv (2 : Nat), AV.s (SV.int IntKind.i64 (gwR aw_d0 [] (-1 : Int) (1 : Int) (ByteArray.mk #[(97 : UInt8), (98 : UInt8)])).snd.fst)] (90 : Nat), AObj.vec (Con.typ [CK.arr IntKind.u8 (64 : Nat)] aw_d0) (108 : Nat), AObj.map (CK.arr IntKind.u8 (64 : Nat)) (gwR aw_d0 [] (-1 : Int) (1 : Int) (ByteArray.mk #[(97 : UInt8), (98 : UInt8)])).fst] (AV.s (SV.blit false))) (Tree.at (Cfg.mk (sl (65 : Nat) [((0 : Nat), AV.s (SV.bool false)), ((1 : Nat), AV.ptr (0 : Nat) (0 : Nat)), ((23 : Nat), AV.s (SV.bool false)), ((24 : Nat), AV.ptr (0 : Nat) (0 : Nat)), ((25 : Nat), AV.agg [AV.s (SV.bool true), AV.s (SV.int IntKind.i64 (5 : Int)), AV.s (SV.int IntKind.i64 (3 : Int))])]) [AObj.own [AV.vec (1 : Nat), AV.mapv (2 : Nat), AV.s (SV.int IntKind.i64 (gwR aw_d0 [] (-1 : Int) (1 : Int) (ByteArray.mk #[(97 : UInt8), (98 : UInt8)])).snd.fst)] (90 : Nat), AObj.vec (Con.typ [CK.arr IntKind.u8 (64 : Nat)] aw_d0) (108 : Nat), AObj.map (CK.arr IntKind.u8 (64 : Nat)) (gwR aw_d0 [] (-1 : Int) (1 : Int) (ByteArray.mk #[(97 : UInt8), (98 : UInt8)])).fst] (cal Try.f10 (2 : Nat) (15 : Nat)) (Stk.mk none false (0 : Nat) [] (2 : Nat))))))))) := by kernel_rfl
noncomputable def aw_d1 : Int := (gwR aw_d0 [] (-1 : Int) (1 : Int) (ByteArray.mk #[(97 : UInt8), (98 : UInt8)])).snd.fst
noncomputable def aw_d2 : As := (gwR aw_d0 [] (-1 : Int) (1 : Int) (ByteArray.mk #[(97 : UInt8), (98 : UInt8)])).fst
noncomputable def aw_c2 : Cfg := Cfg.mk (sl (65 : Nat) [((0 : Nat), AV.s (SV.bool false)), ((1 : Nat), AV.ptr (0 : Nat) (0 : Nat)), ((23 : Nat), AV.s (SV.bool false)), ((24 : Nat), AV.ptr (0 : Nat) (0 : Nat)), ((25 : Nat), AV.agg [AV.s (SV.bool true), AV.s (SV.int IntKind.i64 (5 : Int)), AV.s (SV.int IntKind.i64 (3 : Int))])]) [AObj.own [AV.vec (1 : Nat), AV.mapv (2 : Nat), AV.s (SV.int IntKind.i64 aw_d1)] (90 : Nat), AObj.vec (Con.typ [CK.arr IntKind.u8 (64 : Nat)] aw_d0) (108 : Nat), AObj.map (CK.arr IntKind.u8 (64 : Nat)) aw_d2] (cal Try.f10 (2 : Nat) (15 : Nat)) (Stk.mk none false (0 : Nat) [] (2 : Nat))
theorem aw_t2 : run (P) (tabPg.sum) (Try.f10) (nsAw) aw_c2 ([(11 : FuncId)]) =
  Tree.ite false (Tree.ret [AObj.own [AV.vec (1 : Nat), AV.mapv (2 : Nat), AV.s (SV.int IntKind.i64 aw_d1)] (90 : Nat), AObj.vec (Con.typ [CK.arr IntKind.u8 (64 : Nat)] aw_d0) (108 : Nat), AObj.map (CK.arr IntKind.u8 (64 : Nat)) aw_d2] (AV.s (SV.blit false))) (Tree.need (Slf (some [AV.ptr (0 : Nat) (0 : Nat), AV.s (SV.int IntKind.i64 (0 : Int)), AV.agg [AV.s (SV.bool true), AV.s (SV.int IntKind.i64 (5 : Int)), AV.s (SV.int IntKind.i64 (3 : Int))]])) (Tree.need (Slf (some [AObj.own [AV.vec (1 : Nat), AV.mapv (2 : Nat), AV.s (SV.int IntKind.i64 aw_d1)] (90 : Nat), AObj.vec (Con.typ [CK.arr IntKind.u8 (64 : Nat)] aw_d0) (108 : Nat), AObj.map (CK.arr IntKind.u8 (64 : Nat)) aw_d2])) (Tree.need (okD aw_d0 aw_d2 aw_d1) (Tree.need (inI64 (0 : Int)) (Tree.ite false (Tree.ret [AObj.own [AV.vec (1 : Nat), AV.mapv (2 : Nat), AV.s (SV.int IntKind.i64 (srF aw_d0 aw_d1 (0 : Int) true (5 : Int) (3 : Int)))] (90 : Nat), AObj.vec (Con.typ [CK.arr IntKind.u8 (64 : Nat)] aw_d0) (108 : Nat), AObj.map (CK.arr IntKind.u8 (64 : Nat)) (srM aw_d0 aw_d2 aw_d1 (0 : Int) true (5 : Int) (3 : Int))] (AV.s (SV.blit false))) (Tree.at (Cfg.mk (sl (65 : Nat) [((0 : Nat), AV.s (SV.bool false)), ((1 : Nat), AV.ptr (0 : Nat) (0 : Nat)), ((30 : Nat), AV.ptr (0 : Nat) (0 : Nat))]) [AObj.own [AV.vec (1 : Nat), AV.mapv (2 : Nat), AV.s (SV.int IntKind.i64 (srF aw_d0 aw_d1 (0 : Int) true (5 : Int) (3 : Int)))] (90 : Nat), AObj.vec (Con.typ [CK.arr IntKind.u8 (64 : Nat)] aw_d0) (108 : Nat), AObj.map (CK.arr IntKind.u8 (64 : Nat)) (srM aw_d0 aw_d2 aw_d1 (0 : Int) true (5 : Int) (3 : Int))] (cal Try.f10 (4 : Nat) (1 : Nat)) (Stk.mk none false (0 : Nat) [] (4 : Nat))))))))) := by kernel_rfl
noncomputable def aw_d3 : Int := srF aw_d0 aw_d1 (0 : Int) true (5 : Int) (3 : Int)
noncomputable def aw_d4 : As := srM aw_d0 aw_d2 aw_d1 (0 : Int) true (5 : Int) (3 : Int)
noncomputable def aw_c3 : Cfg := Cfg.mk (sl (65 : Nat) [((0 : Nat), AV.s (SV.bool false)), ((1 : Nat), AV.ptr (0 : Nat) (0 : Nat)), ((30 : Nat), AV.ptr (0 : Nat) (0 : Nat))]) [AObj.own [AV.vec (1 : Nat), AV.mapv (2 : Nat), AV.s (SV.int IntKind.i64 aw_d3)] (90 : Nat), AObj.vec (Con.typ [CK.arr IntKind.u8 (64 : Nat)] aw_d0) (108 : Nat), AObj.map (CK.arr IntKind.u8 (64 : Nat)) aw_d4] (cal Try.f10 (4 : Nat) (1 : Nat)) (Stk.mk none false (0 : Nat) [] (4 : Nat))
theorem aw_t3 : run (P) (tabPg.sum) (Try.f10) (nsAw) aw_c3 ([(11 : FuncId)]) =
  Tree.need (Slf (some [AV.ptr (0 : Nat) (0 : Nat), AV.s (SV.int IntKind.i64 (4 : Int))])) (Tree.need (Slf (some [AObj.own [AV.vec (1 : Nat), AV.mapv (2 : Nat), AV.s (SV.int IntKind.i64 aw_d3)] (90 : Nat), AObj.vec (Con.typ [CK.arr IntKind.u8 (64 : Nat)] aw_d0) (108 : Nat), AObj.map (CK.arr IntKind.u8 (64 : Nat)) aw_d4])) (Tree.need (okD aw_d0 aw_d4 aw_d3) (Tree.at (Cfg.mk (sl (65 : Nat) [((0 : Nat), AV.s (SV.bool false)), ((3 : Nat), AV.s (SV.str (rdS aw_d0 aw_d4 (4 : Int)))), ((4 : Nat), AV.s (SV.int IntKind.i64 (0 : Int))), ((35 : Nat), AV.ptr (0 : Nat) (0 : Nat))]) [AObj.own [AV.vec (1 : Nat), AV.mapv (2 : Nat), AV.s (SV.int IntKind.i64 aw_d3)] (90 : Nat), AObj.vec (Con.typ [CK.arr IntKind.u8 (64 : Nat)] aw_d0) (108 : Nat), AObj.map (CK.arr IntKind.u8 (64 : Nat)) aw_d4] (cal Try.f10 (5 : Nat) (1 : Nat)) (Stk.mk none false (0 : Nat) [] (5 : Nat)))))) := by kernel_rfl
noncomputable def aw_c4 : Cfg := Cfg.mk (sl (65 : Nat) [((0 : Nat), AV.s (SV.bool false)), ((3 : Nat), AV.s (SV.str (rdS aw_d0 aw_d4 (4 : Int)))), ((4 : Nat), AV.s (SV.int IntKind.i64 (0 : Int))), ((35 : Nat), AV.ptr (0 : Nat) (0 : Nat))]) [AObj.own [AV.vec (1 : Nat), AV.mapv (2 : Nat), AV.s (SV.int IntKind.i64 aw_d3)] (90 : Nat), AObj.vec (Con.typ [CK.arr IntKind.u8 (64 : Nat)] aw_d0) (108 : Nat), AObj.map (CK.arr IntKind.u8 (64 : Nat)) aw_d4] (cal Try.f10 (5 : Nat) (1 : Nat)) (Stk.mk none false (0 : Nat) [] (5 : Nat))
theorem aw_t4 : run (P) (tabPg.sum) (Try.f10) (nsAw) aw_c4 ([(11 : FuncId)]) =
  Tree.need (Slf (some [AV.ptr (0 : Nat) (0 : Nat), AV.s (SV.int IntKind.i64 (0 : Int))])) (Tree.need (Slf (some [AObj.own [AV.vec (1 : Nat), AV.mapv (2 : Nat), AV.s (SV.int IntKind.i64 aw_d3)] (90 : Nat), AObj.vec (Con.typ [CK.arr IntKind.u8 (64 : Nat)] aw_d0) (108 : Nat), AObj.map (CK.arr IntKind.u8 (64 : Nat)) aw_d4])) (Tree.need (okD aw_d0 aw_d4 aw_d3) (Tree.ite true (Tree.ite true (Tree.ite true (Tree.ite true (Tree.need ((0 : Int) ≤ (0 : Int)) (Tree.need ((0 : Int) ≤ (4 : Int)) (Tree.need ((4 : Int) ≤ (↑(rdS aw_d0 aw_d4 (4 : Int)).size : Int)) (Tree.ite true (Tree.need ((0 : Int) ≤ (0 : Int)) (Tree.need ((0 : Int) ≤ (11 : Int)) (Tree.need ((11 : Int) ≤ (↑(rdS aw_d0 aw_d4 (0 : Int)).size : Int)) (Tree.ret [AObj.own [AV.vec (1 : Nat), AV.mapv (2 : Nat), AV.s (SV.int IntKind.i64 aw_d3)] (90 : Nat), AObj.vec (Con.typ [CK.arr IntKind.u8 (64 : Nat)] aw_d0) (108 : Nat), AObj.map (CK.arr IntKind.u8 (64 : Nat)) aw_d4] (AV.s (SV.bool true)))))) (Tree.ret [AObj.own [AV.vec (1 : Nat), AV.mapv (2 : Nat), AV.s (SV.int IntKind.i64 aw_d3)] (90 : Nat), AObj.vec (Con.typ [CK.arr IntKind.u8 (64 : Nat)] aw_d0) (108 : Nat), AObj.map (CK.arr IntKind.u8 (64 : Nat)) aw_d4] (AV.s (SV.blit false))))))) (Tree.ret [AObj.own [AV.vec (1 : Nat), AV.mapv (2 : Nat), AV.s (SV.int IntKind.i64 aw_d3)] (90 : Nat), AObj.vec (Con.typ [CK.arr IntKind.u8 (64 : Nat)] aw_d0) (108 : Nat), AObj.map (CK.arr IntKind.u8 (64 : Nat)) aw_d4] (AV.s (SV.blit false)))) (Tree.ret [AObj.own [AV.vec (1 : Nat), AV.mapv (2 : Nat), AV.s (SV.int IntKind.i64 aw_d3)] (90 : Nat), AObj.vec (Con.typ [CK.arr IntKind.u8 (64 : Nat)] aw_d0) (108 : Nat), AObj.map (CK.arr IntKind.u8 (64 : Nat)) aw_d4] (AV.s (SV.blit false)))) (Tree.ret [AObj.own [AV.vec (1 : Nat), AV.mapv (2 : Nat), AV.s (SV.int IntKind.i64 aw_d3)] (90 : Nat), AObj.vec (Con.typ [CK.arr IntKind.u8 (64 : Nat)] aw_d0) (108 : Nat), AObj.map (CK.arr IntKind.u8 (64 : Nat)) aw_d4] (AV.s (SV.blit false)))) (Tree.ret [AObj.own [AV.vec (1 : Nat), AV.mapv (2 : Nat), AV.s (SV.int IntKind.i64 aw_d3)] (90 : Nat), AObj.vec (Con.typ [CK.arr IntKind.u8 (64 : Nat)] aw_d0) (108 : Nat), AObj.map (CK.arr IntKind.u8 (64 : Nat)) aw_d4] (AV.s (SV.blit false)))))) := by kernel_rfl
abbrev sumAw := sumOf [] [tBool] (fun _ => []) (fun _ => (true, ()))
def tabPl : Tab := (10, sumAw) :: tabPg
def nsPN : List (Nat × Norm) := [(midKey + 1000, ⟨[], [0], 0, []⟩), (midKey + 2000, ⟨[], [0, 2], 0, []⟩), (midKey + 6001, ⟨[], [0, 2, 4, 5, 35], 0, []⟩), (midKey + 7001, ⟨[], [0, 2, 4, 5, 8, 40], 0, []⟩), (midKey + 8001, ⟨[], [0, 2, 4, 5, 8, 10, 45], 0, []⟩), (midKey + 9001, ⟨[], [0, 2, 4, 5, 8, 10, 12, 50], 0, []⟩), (midKey + 11006, ⟨[], [0, 2, 4, 5, 8, 10, 12, 14, 15, 59, 60, 61], 0, []⟩), (midKey + 11013, ⟨[], [0, 2, 4, 5, 8, 10, 12, 14, 65, 66, 68], 0, []⟩), (midKey + 11018, ⟨[], [0, 2, 4, 5, 8, 10, 12, 14, 72, 73], 0, []⟩), (midKey + 11024, ⟨[], [0, 2, 4, 5, 8, 10, 12, 14, 77, 78, 79], 0, []⟩), (midKey + 11030, ⟨[], [0, 2, 4, 5, 8, 10, 12, 14, 83, 84, 85], 0, []⟩), (midKey + 11036, ⟨[], [0, 2, 4, 5, 8, 10, 12, 14, 89, 90, 91], 0, []⟩), (midKey + 11042, ⟨[], [0, 2, 4, 5, 8, 10, 12, 14, 95, 96, 97], 0, []⟩), (midKey + 11048, ⟨[], [0, 2, 4, 5, 8, 10, 12, 14, 101, 102, 103], 0, []⟩), (midKey + 11054, ⟨[], [0, 2, 4, 5, 8, 10, 12, 14, 107, 108, 109], 0, []⟩), (midKey + 13001, ⟨[], [0, 2, 4, 5, 8, 10, 12, 14, 114], 0, []⟩), (midKey + 14001, ⟨[], [0, 2, 4, 8, 10, 12, 14, 16, 17, 119], 0, []⟩), (midKey + 15009, ⟨[], [0, 8, 10, 12, 14, 16, 17, 19, 131], 0, []⟩), (midKey + 15014, ⟨[], [0, 8, 10, 12, 14, 16, 17, 19, 135, 136], 0, []⟩), (midKey + 15051, ⟨[], [0, 173], 0, []⟩)]
noncomputable def pn_c0 : Cfg := Sx.start Try.f4 [] []
theorem pn_t0 : run (P) (tabPl.sum) (Try.f4) (nsPN) pn_c0 ([(11 : FuncId)]) =
  Tree.at (Cfg.mk (sl (176 : Nat) [((0 : Nat), AV.s (SV.bool false))]) [] (cal Try.f4 (1 : Nat) (0 : Nat)) (Stk.mk none false (0 : Nat) [] (1 : Nat))) := by kernel_rfl
noncomputable def pn_c1 : Cfg := Cfg.mk (sl (176 : Nat) [((0 : Nat), AV.s (SV.bool false))]) [] (cal Try.f4 (1 : Nat) (0 : Nat)) (Stk.mk none false (0 : Nat) [] (1 : Nat))
theorem pn_t1 : run (P) (tabPl.sum) (Try.f4) (nsPN) pn_c1 ([(11 : FuncId)]) =
  Tree.need (Slf (some [AV.s SV.nilp, AV.s (SV.int IntKind.i64 (0 : Int))])) (Tree.need NoObj (Tree.at (Cfg.mk (sl (176 : Nat) [((0 : Nat), AV.s (SV.bool false)), ((2 : Nat), AV.s (SV.int IntKind.i64 (2 : Int)))]) [] (cal Try.f4 (2 : Nat) (0 : Nat)) (Stk.mk none false (0 : Nat) [] (2 : Nat))))) := by kernel_rfl
noncomputable def pn_c2 : Cfg := Cfg.mk (sl (176 : Nat) [((0 : Nat), AV.s (SV.bool false)), ((2 : Nat), AV.s (SV.int IntKind.i64 (2 : Int)))]) [] (cal Try.f4 (2 : Nat) (0 : Nat)) (Stk.mk none false (0 : Nat) [] (2 : Nat))
theorem pn_t2 : run (P) (tabPl.sum) (Try.f4) (nsPN) pn_c2 ([(11 : FuncId)]) =
  Tree.need (Slf (some [AV.s SV.nilp, AV.s (SV.int IntKind.i64 (0 : Int))])) (Tree.need NoObj (Tree.need ((0 : Int) ≤ (11 : Int)) (Tree.need ((11 : Int) ≤ (11 : Int)) (Tree.need ((11 : Int) ≤ (1073741824 : Int)) (Tree.at (Cfg.mk (sl (176 : Nat) [((0 : Nat), AV.s (SV.bool false)), ((2 : Nat), AV.s (SV.int IntKind.i64 (2 : Int))), ((4 : Nat), AV.s (SV.int IntKind.i64 (2 : Int))), ((5 : Nat), AV.ptr (0 : Nat) (0 : Nat)), ((35 : Nat), AV.ptr (0 : Nat) (0 : Nat))]) [AObj.own [AV.vec (1 : Nat), AV.mapv (2 : Nat), AV.s (SV.int IntKind.i64 (-1 : Int))] (90 : Nat), AObj.vec (Con.typ [CK.arr IntKind.u8 (64 : Nat)] (List.replicate (Int.toNat (11 : Int)) (CL.d [CK.arr IntKind.u8 (64 : Nat)]))) (108 : Nat), AObj.map (CK.arr IntKind.u8 (64 : Nat)) []] (cal Try.f4 (6 : Nat) (1 : Nat)) (Stk.mk none false (0 : Nat) [] (6 : Nat)))))))) := by kernel_rfl
noncomputable def pn_d0 : List (CL [CK.arr IntKind.u8 (64 : Nat)]) := List.replicate (Int.toNat (11 : Int)) (CL.d [CK.arr IntKind.u8 (64 : Nat)])
noncomputable def pn_c3 : Cfg := Cfg.mk (sl (176 : Nat) [((0 : Nat), AV.s (SV.bool false)), ((2 : Nat), AV.s (SV.int IntKind.i64 (2 : Int))), ((4 : Nat), AV.s (SV.int IntKind.i64 (2 : Int))), ((5 : Nat), AV.ptr (0 : Nat) (0 : Nat)), ((35 : Nat), AV.ptr (0 : Nat) (0 : Nat))]) [AObj.own [AV.vec (1 : Nat), AV.mapv (2 : Nat), AV.s (SV.int IntKind.i64 (-1 : Int))] (90 : Nat), AObj.vec (Con.typ [CK.arr IntKind.u8 (64 : Nat)] pn_d0) (108 : Nat), AObj.map (CK.arr IntKind.u8 (64 : Nat)) []] (cal Try.f4 (6 : Nat) (1 : Nat)) (Stk.mk none false (0 : Nat) [] (6 : Nat))
theorem pn_t3 : run (P) (tabPl.sum) (Try.f4) (nsPN) pn_c3 ([(11 : FuncId)]) =
  Tree.need (Slf (some [AV.ptr (0 : Nat) (0 : Nat), AV.s (SV.int IntKind.i64 (2 : Int))])) (Tree.need (Slf (some [AObj.own [AV.vec (1 : Nat), AV.mapv (2 : Nat), AV.s (SV.int IntKind.i64 (-1 : Int))] (90 : Nat), AObj.vec (Con.typ [CK.arr IntKind.u8 (64 : Nat)] pn_d0) (108 : Nat), AObj.map (CK.arr IntKind.u8 (64 : Nat)) []])) (Tree.need (okD pn_d0 [] (-1 : Int)) (Tree.need (inI64 (2 : Int)) (Tree.at (Cfg.mk (sl (176 : Nat) [((0 : Nat), AV.s (SV.bool false)), ((2 : Nat), AV.s (SV.int IntKind.i64 (2 : Int))), ((4 : Nat), AV.s (SV.int IntKind.i64 (2 : Int))), ((5 : Nat), AV.ptr (0 : Nat) (0 : Nat)), ((8 : Nat), AV.s (SV.int IntKind.i64 (5 : Int))), ((40 : Nat), AV.ptr (0 : Nat) (0 : Nat))]) [AObj.own [AV.vec (1 : Nat), AV.mapv (2 : Nat), AV.s (SV.int IntKind.i64 (-1 : Int))] (90 : Nat), AObj.vec (Con.typ [CK.arr IntKind.u8 (64 : Nat)] pn_d0) (108 : Nat), AObj.map (CK.arr IntKind.u8 (64 : Nat)) []] (cal Try.f4 (7 : Nat) (1 : Nat)) (Stk.mk none false (0 : Nat) [] (7 : Nat))))))) := by kernel_rfl
noncomputable def pn_c4 : Cfg := Cfg.mk (sl (176 : Nat) [((0 : Nat), AV.s (SV.bool false)), ((2 : Nat), AV.s (SV.int IntKind.i64 (2 : Int))), ((4 : Nat), AV.s (SV.int IntKind.i64 (2 : Int))), ((5 : Nat), AV.ptr (0 : Nat) (0 : Nat)), ((8 : Nat), AV.s (SV.int IntKind.i64 (5 : Int))), ((40 : Nat), AV.ptr (0 : Nat) (0 : Nat))]) [AObj.own [AV.vec (1 : Nat), AV.mapv (2 : Nat), AV.s (SV.int IntKind.i64 (-1 : Int))] (90 : Nat), AObj.vec (Con.typ [CK.arr IntKind.u8 (64 : Nat)] pn_d0) (108 : Nat), AObj.map (CK.arr IntKind.u8 (64 : Nat)) []] (cal Try.f4 (7 : Nat) (1 : Nat)) (Stk.mk none false (0 : Nat) [] (7 : Nat))
theorem pn_t4 : run (P) (tabPl.sum) (Try.f4) (nsPN) pn_c4 ([(11 : FuncId)]) =
  Tree.need (Slf (some [AV.ptr (0 : Nat) (0 : Nat), AV.s (SV.int IntKind.i64 (-1 : Int))])) (Tree.need (Slf (some [AObj.own [AV.vec (1 : Nat), AV.mapv (2 : Nat), AV.s (SV.int IntKind.i64 (-1 : Int))] (90 : Nat), AObj.vec (Con.typ [CK.arr IntKind.u8 (64 : Nat)] pn_d0) (108 : Nat), AObj.map (CK.arr IntKind.u8 (64 : Nat)) []])) (Tree.need (okD pn_d0 [] (-1 : Int)) (Tree.need (inI64 (-1 : Int)) (Tree.at (Cfg.mk (sl (176 : Nat) [((0 : Nat), AV.s (SV.bool false)), ((2 : Nat), AV.s (SV.int IntKind.i64 (2 : Int))), ((4 : Nat), AV.s (SV.int IntKind.i64 (2 : Int))), ((5 : Nat), AV.ptr (0 : Nat) (0 : Nat)), ((8 : Nat), AV.s (SV.int IntKind.i64 (5 : Int))), ((10 : Nat), AV.s (SV.int IntKind.i64 (5 : Int))), ((45 : Nat), AV.ptr (0 : Nat) (0 : Nat))]) [AObj.own [AV.vec (1 : Nat), AV.mapv (2 : Nat), AV.s (SV.int IntKind.i64 (-1 : Int))] (90 : Nat), AObj.vec (Con.typ [CK.arr IntKind.u8 (64 : Nat)] pn_d0) (108 : Nat), AObj.map (CK.arr IntKind.u8 (64 : Nat)) []] (cal Try.f4 (8 : Nat) (1 : Nat)) (Stk.mk none false (0 : Nat) [] (8 : Nat))))))) := by kernel_rfl
noncomputable def pn_c5 : Cfg := Cfg.mk (sl (176 : Nat) [((0 : Nat), AV.s (SV.bool false)), ((2 : Nat), AV.s (SV.int IntKind.i64 (2 : Int))), ((4 : Nat), AV.s (SV.int IntKind.i64 (2 : Int))), ((5 : Nat), AV.ptr (0 : Nat) (0 : Nat)), ((8 : Nat), AV.s (SV.int IntKind.i64 (5 : Int))), ((10 : Nat), AV.s (SV.int IntKind.i64 (5 : Int))), ((45 : Nat), AV.ptr (0 : Nat) (0 : Nat))]) [AObj.own [AV.vec (1 : Nat), AV.mapv (2 : Nat), AV.s (SV.int IntKind.i64 (-1 : Int))] (90 : Nat), AObj.vec (Con.typ [CK.arr IntKind.u8 (64 : Nat)] pn_d0) (108 : Nat), AObj.map (CK.arr IntKind.u8 (64 : Nat)) []] (cal Try.f4 (8 : Nat) (1 : Nat)) (Stk.mk none false (0 : Nat) [] (8 : Nat))
theorem pn_t5 : run (P) (tabPl.sum) (Try.f4) (nsPN) pn_c5 ([(11 : FuncId)]) =
  Tree.need (Slf (some [AV.ptr (0 : Nat) (0 : Nat), AV.s (SV.int IntKind.i64 (2 : Int))])) (Tree.need (Slf (some [AObj.own [AV.vec (1 : Nat), AV.mapv (2 : Nat), AV.s (SV.int IntKind.i64 (-1 : Int))] (90 : Nat), AObj.vec (Con.typ [CK.arr IntKind.u8 (64 : Nat)] pn_d0) (108 : Nat), AObj.map (CK.arr IntKind.u8 (64 : Nat)) []])) (Tree.need (okD pn_d0 [] (-1 : Int)) (Tree.need (inI64 (2 : Int)) (Tree.at (Cfg.mk (sl (176 : Nat) [((0 : Nat), AV.s (SV.bool false)), ((2 : Nat), AV.s (SV.int IntKind.i64 (2 : Int))), ((4 : Nat), AV.s (SV.int IntKind.i64 (2 : Int))), ((5 : Nat), AV.ptr (0 : Nat) (0 : Nat)), ((8 : Nat), AV.s (SV.int IntKind.i64 (5 : Int))), ((10 : Nat), AV.s (SV.int IntKind.i64 (5 : Int))), ((12 : Nat), AV.s (SV.int IntKind.i64 (5 : Int))), ((50 : Nat), AV.ptr (0 : Nat) (0 : Nat))]) [AObj.own [AV.vec (1 : Nat), AV.mapv (2 : Nat), AV.s (SV.int IntKind.i64 (-1 : Int))] (90 : Nat), AObj.vec (Con.typ [CK.arr IntKind.u8 (64 : Nat)] pn_d0) (108 : Nat), AObj.map (CK.arr IntKind.u8 (64 : Nat)) []] (cal Try.f4 (9 : Nat) (1 : Nat)) (Stk.mk none false (0 : Nat) [] (9 : Nat))))))) := by kernel_rfl
noncomputable def pn_c6 : Cfg := Cfg.mk (sl (176 : Nat) [((0 : Nat), AV.s (SV.bool false)), ((2 : Nat), AV.s (SV.int IntKind.i64 (2 : Int))), ((4 : Nat), AV.s (SV.int IntKind.i64 (2 : Int))), ((5 : Nat), AV.ptr (0 : Nat) (0 : Nat)), ((8 : Nat), AV.s (SV.int IntKind.i64 (5 : Int))), ((10 : Nat), AV.s (SV.int IntKind.i64 (5 : Int))), ((12 : Nat), AV.s (SV.int IntKind.i64 (5 : Int))), ((50 : Nat), AV.ptr (0 : Nat) (0 : Nat))]) [AObj.own [AV.vec (1 : Nat), AV.mapv (2 : Nat), AV.s (SV.int IntKind.i64 (-1 : Int))] (90 : Nat), AObj.vec (Con.typ [CK.arr IntKind.u8 (64 : Nat)] pn_d0) (108 : Nat), AObj.map (CK.arr IntKind.u8 (64 : Nat)) []] (cal Try.f4 (9 : Nat) (1 : Nat)) (Stk.mk none false (0 : Nat) [] (9 : Nat))
theorem pn_t6 : run (P) (tabPl.sum) (Try.f4) (nsPN) pn_c6 ([(11 : FuncId)]) =
  Tree.need (Slf (some [AV.ptr (0 : Nat) (0 : Nat), AV.s (SV.int IntKind.i64 (-1 : Int))])) (Tree.need (Slf (some [AObj.own [AV.vec (1 : Nat), AV.mapv (2 : Nat), AV.s (SV.int IntKind.i64 (-1 : Int))] (90 : Nat), AObj.vec (Con.typ [CK.arr IntKind.u8 (64 : Nat)] pn_d0) (108 : Nat), AObj.map (CK.arr IntKind.u8 (64 : Nat)) []])) (Tree.need (okD pn_d0 [] (-1 : Int)) (Tree.need (inI64 (-1 : Int)) (Tree.need ((0 : Int) ≤ (254 : Int)) (Tree.need ((254 : Int) ≤ (254 : Int)) (Tree.need ((254 : Int) ≤ (1073741824 : Int)) (Tree.need (Slf (some [AV.ptr (0 : Nat) (0 : Nat)])) (Tree.need (Slf (some [AObj.own [AV.vec (1 : Nat), AV.mapv (2 : Nat), AV.s (SV.int IntKind.i64 (-1 : Int))] (90 : Nat), AObj.vec (Con.typ [CK.arr IntKind.u8 (64 : Nat)] pn_d0) (108 : Nat), AObj.map (CK.arr IntKind.u8 (64 : Nat)) []])) (Tree.need (okD pn_d0 [] (-1 : Int)) (Tree.ite false (Tree.ret [AObj.own [AV.vec (1 : Nat), AV.mapv (2 : Nat), AV.s (SV.int IntKind.i64 (-1 : Int))] (90 : Nat), AObj.vec (Con.typ [CK.arr IntKind.u8 (64 : Nat)] pn_d0) (108 : Nat), AObj.map (CK.arr IntKind.u8 (64 : Nat)) [], AObj.own [AV.s (SV.bool false), AV.s (SV.int IntKind.i64 (0 : Int)), AV.s (SV.int IntKind.i64 (0 : Int))] (23 : Nat), AObj.vec (Con.ints IntKind.u8 (List.replicate (Int.toNat (254 : Int)) (0 : Int))) (5 : Nat)] (AV.s (SV.blit false))) (Tree.at (Cfg.mk (sl (176 : Nat) [((0 : Nat), AV.s (SV.bool false)), ((2 : Nat), AV.s (SV.int IntKind.i64 (2 : Int))), ((4 : Nat), AV.s (SV.int IntKind.i64 (2 : Int))), ((5 : Nat), AV.ptr (0 : Nat) (0 : Nat)), ((8 : Nat), AV.s (SV.int IntKind.i64 (5 : Int))), ((10 : Nat), AV.s (SV.int IntKind.i64 (5 : Int))), ((12 : Nat), AV.s (SV.int IntKind.i64 (5 : Int))), ((14 : Nat), AV.s (SV.int IntKind.i64 (5 : Int))), ((15 : Nat), AV.s (SV.str (bytesStr (List.replicate (Int.toNat (254 : Int)) (0 : Int))))), ((59 : Nat), AV.s (SV.bool false)), ((60 : Nat), AV.ptr (0 : Nat) (0 : Nat)), ((61 : Nat), AV.s (SV.str (bytesStr (List.replicate (Int.toNat (254 : Int)) (0 : Int)))))]) [AObj.own [AV.vec (1 : Nat), AV.mapv (2 : Nat), AV.s (SV.int IntKind.i64 (-1 : Int))] (90 : Nat), AObj.vec (Con.typ [CK.arr IntKind.u8 (64 : Nat)] pn_d0) (108 : Nat), AObj.map (CK.arr IntKind.u8 (64 : Nat)) []] (cal Try.f4 (11 : Nat) (6 : Nat)) (Stk.mk none false (0 : Nat) [] (11 : Nat)))))))))))))) := by kernel_rfl
noncomputable def pn_d1 : ByteArray := bytesStr (List.replicate (Int.toNat (254 : Int)) (0 : Int))
noncomputable def pn_c7 : Cfg := Cfg.mk (sl (176 : Nat) [((0 : Nat), AV.s (SV.bool false)), ((2 : Nat), AV.s (SV.int IntKind.i64 (2 : Int))), ((4 : Nat), AV.s (SV.int IntKind.i64 (2 : Int))), ((5 : Nat), AV.ptr (0 : Nat) (0 : Nat)), ((8 : Nat), AV.s (SV.int IntKind.i64 (5 : Int))), ((10 : Nat), AV.s (SV.int IntKind.i64 (5 : Int))), ((12 : Nat), AV.s (SV.int IntKind.i64 (5 : Int))), ((14 : Nat), AV.s (SV.int IntKind.i64 (5 : Int))), ((15 : Nat), AV.s (SV.str pn_d1)), ((59 : Nat), AV.s (SV.bool false)), ((60 : Nat), AV.ptr (0 : Nat) (0 : Nat)), ((61 : Nat), AV.s (SV.str pn_d1))]) [AObj.own [AV.vec (1 : Nat), AV.mapv (2 : Nat), AV.s (SV.int IntKind.i64 (-1 : Int))] (90 : Nat), AObj.vec (Con.typ [CK.arr IntKind.u8 (64 : Nat)] pn_d0) (108 : Nat), AObj.map (CK.arr IntKind.u8 (64 : Nat)) []] (cal Try.f4 (11 : Nat) (6 : Nat)) (Stk.mk none false (0 : Nat) [] (11 : Nat))
theorem pn_t7 : run (P) (tabPl.sum) (Try.f4) (nsPN) pn_c7 ([(11 : FuncId)]) =
  Tree.ite false (Tree.ret [AObj.own [AV.vec (1 : Nat), AV.mapv (2 : Nat), AV.s (SV.int IntKind.i64 (-1 : Int))] (90 : Nat), AObj.vec (Con.typ [CK.arr IntKind.u8 (64 : Nat)] pn_d0) (108 : Nat), AObj.map (CK.arr IntKind.u8 (64 : Nat)) []] (AV.s (SV.blit false))) (Tree.need (Slf (some [AV.ptr (0 : Nat) (0 : Nat), AV.s (SV.int IntKind.i64 (1 : Int)), AV.s (SV.str pn_d1)])) (Tree.need (Slf (some [AObj.own [AV.vec (1 : Nat), AV.mapv (2 : Nat), AV.s (SV.int IntKind.i64 (-1 : Int))] (90 : Nat), AObj.vec (Con.typ [CK.arr IntKind.u8 (64 : Nat)] pn_d0) (108 : Nat), AObj.map (CK.arr IntKind.u8 (64 : Nat)) []])) (Tree.need (okD pn_d0 [] (-1 : Int)) (Tree.need (inI64 (1 : Int)) (Tree.ite false (Tree.ret [AObj.own [AV.vec (1 : Nat), AV.mapv (2 : Nat), AV.s (SV.int IntKind.i64 (gwR pn_d0 [] (-1 : Int) (1 : Int) pn_d1).snd.fst)] (90 : Nat), AObj.vec (Con.typ [CK.arr IntKind.u8 (64 : Nat)] pn_d0) (108 : Nat), AObj.map (CK.arr IntKind.u8 (64 : Nat)) (gwR pn_d0 [] (-1 : Int) (1 : Int) pn_d1).fst] (AV.s (SV.blit false))) (Tree.need (pn_d1.size + (ByteArray.mk #[(120 : UInt8)]).size ≤ (4611686018427387904 : Nat)) (Tree.at (Cfg.mk (sl (176 : Nat) [((0 : Nat), AV.s (SV.bool false)), ((2 : Nat), AV.s (SV.int IntKind.i64 (2 : Int))), ((4 : Nat), AV.s (SV.int IntKind.i64 (2 : Int))), ((5 : Nat), AV.ptr (0 : Nat) (0 : Nat)), ((8 : Nat), AV.s (SV.int IntKind.i64 (5 : Int))), ((10 : Nat), AV.s (SV.int IntKind.i64 (5 : Int))), ((12 : Nat), AV.s (SV.int IntKind.i64 (5 : Int))), ((14 : Nat), AV.s (SV.int IntKind.i64 (5 : Int))), ((65 : Nat), AV.s (SV.bool false)), ((66 : Nat), AV.ptr (0 : Nat) (0 : Nat)), ((68 : Nat), AV.s (SV.str (pn_d1 ++ ByteArray.mk #[(120 : UInt8)])))]) [AObj.own [AV.vec (1 : Nat), AV.mapv (2 : Nat), AV.s (SV.int IntKind.i64 (gwR pn_d0 [] (-1 : Int) (1 : Int) pn_d1).snd.fst)] (90 : Nat), AObj.vec (Con.typ [CK.arr IntKind.u8 (64 : Nat)] pn_d0) (108 : Nat), AObj.map (CK.arr IntKind.u8 (64 : Nat)) (gwR pn_d0 [] (-1 : Int) (1 : Int) pn_d1).fst] (cal Try.f4 (11 : Nat) (13 : Nat)) (Stk.mk none false (0 : Nat) [] (11 : Nat)))))))))) := by kernel_rfl
noncomputable def pn_d2 : Int := (gwR pn_d0 [] (-1 : Int) (1 : Int) pn_d1).snd.fst
noncomputable def pn_d3 : As := (gwR pn_d0 [] (-1 : Int) (1 : Int) pn_d1).fst
noncomputable def pn_c8 : Cfg := Cfg.mk (sl (176 : Nat) [((0 : Nat), AV.s (SV.bool false)), ((2 : Nat), AV.s (SV.int IntKind.i64 (2 : Int))), ((4 : Nat), AV.s (SV.int IntKind.i64 (2 : Int))), ((5 : Nat), AV.ptr (0 : Nat) (0 : Nat)), ((8 : Nat), AV.s (SV.int IntKind.i64 (5 : Int))), ((10 : Nat), AV.s (SV.int IntKind.i64 (5 : Int))), ((12 : Nat), AV.s (SV.int IntKind.i64 (5 : Int))), ((14 : Nat), AV.s (SV.int IntKind.i64 (5 : Int))), ((65 : Nat), AV.s (SV.bool false)), ((66 : Nat), AV.ptr (0 : Nat) (0 : Nat)), ((68 : Nat), AV.s (SV.str (pn_d1 ++ ByteArray.mk #[(120 : UInt8)])))]) [AObj.own [AV.vec (1 : Nat), AV.mapv (2 : Nat), AV.s (SV.int IntKind.i64 pn_d2)] (90 : Nat), AObj.vec (Con.typ [CK.arr IntKind.u8 (64 : Nat)] pn_d0) (108 : Nat), AObj.map (CK.arr IntKind.u8 (64 : Nat)) pn_d3] (cal Try.f4 (11 : Nat) (13 : Nat)) (Stk.mk none false (0 : Nat) [] (11 : Nat))
theorem pn_t8 : run (P) (tabPl.sum) (Try.f4) (nsPN) pn_c8 ([(11 : FuncId)]) =
  Tree.ite false (Tree.ret [AObj.own [AV.vec (1 : Nat), AV.mapv (2 : Nat), AV.s (SV.int IntKind.i64 pn_d2)] (90 : Nat), AObj.vec (Con.typ [CK.arr IntKind.u8 (64 : Nat)] pn_d0) (108 : Nat), AObj.map (CK.arr IntKind.u8 (64 : Nat)) pn_d3] (AV.s (SV.blit false))) (Tree.need (Slf (some [AV.ptr (0 : Nat) (0 : Nat), AV.s (SV.int IntKind.i64 (1 : Int)), AV.s (SV.str (pn_d1 ++ ByteArray.mk #[(120 : UInt8)]))])) (Tree.need (Slf (some [AObj.own [AV.vec (1 : Nat), AV.mapv (2 : Nat), AV.s (SV.int IntKind.i64 pn_d2)] (90 : Nat), AObj.vec (Con.typ [CK.arr IntKind.u8 (64 : Nat)] pn_d0) (108 : Nat), AObj.map (CK.arr IntKind.u8 (64 : Nat)) pn_d3])) (Tree.need (okD pn_d0 pn_d3 pn_d2) (Tree.need (inI64 (1 : Int)) (Tree.ite false (Tree.ret [AObj.own [AV.vec (1 : Nat), AV.mapv (2 : Nat), AV.s (SV.int IntKind.i64 (gwR pn_d0 pn_d3 pn_d2 (1 : Int) (pn_d1 ++ ByteArray.mk #[(120 : UInt8)])).snd.fst)] (90 : Nat), AObj.vec (Con.typ [CK.arr IntKind.u8 (64 : Nat)] pn_d0) (108 : Nat), AObj.map (CK.arr IntKind.u8 (64 : Nat)) (gwR pn_d0 pn_d3 pn_d2 (1 : Int) (pn_d1 ++ ByteArray.mk #[(120 : UInt8)])).fst] (AV.s (SV.blit false))) (Tree.at (Cfg.mk (sl (176 : Nat) [((0 : Nat), AV.s (SV.bool false)), ((2 : Nat), AV.s (SV.int IntKind.i64 (2 : Int))), ((4 : Nat), AV.s (SV.int IntKind.i64 (2 : Int))), ((5 : Nat), AV.ptr (0 : Nat) (0 : Nat)), ((8 : Nat), AV.s (SV.int IntKind.i64 (5 : Int))), ((10 : Nat), AV.s (SV.int IntKind.i64 (5 : Int))), ((12 : Nat), AV.s (SV.int IntKind.i64 (5 : Int))), ((14 : Nat), AV.s (SV.int IntKind.i64 (5 : Int))), ((72 : Nat), AV.s (SV.bool false)), ((73 : Nat), AV.ptr (0 : Nat) (0 : Nat))]) [AObj.own [AV.vec (1 : Nat), AV.mapv (2 : Nat), AV.s (SV.int IntKind.i64 (gwR pn_d0 pn_d3 pn_d2 (1 : Int) (pn_d1 ++ ByteArray.mk #[(120 : UInt8)])).snd.fst)] (90 : Nat), AObj.vec (Con.typ [CK.arr IntKind.u8 (64 : Nat)] pn_d0) (108 : Nat), AObj.map (CK.arr IntKind.u8 (64 : Nat)) (gwR pn_d0 pn_d3 pn_d2 (1 : Int) (pn_d1 ++ ByteArray.mk #[(120 : UInt8)])).fst] (cal Try.f4 (11 : Nat) (18 : Nat)) (Stk.mk none false (0 : Nat) [] (11 : Nat))))))))) := by kernel_rfl
noncomputable def pn_d4 : Int := (gwR pn_d0 pn_d3 pn_d2 (1 : Int) (pn_d1 ++ ByteArray.mk #[(120 : UInt8)])).snd.fst
noncomputable def pn_d5 : As := (gwR pn_d0 pn_d3 pn_d2 (1 : Int) (pn_d1 ++ ByteArray.mk #[(120 : UInt8)])).fst
noncomputable def pn_c9 : Cfg := Cfg.mk (sl (176 : Nat) [((0 : Nat), AV.s (SV.bool false)), ((2 : Nat), AV.s (SV.int IntKind.i64 (2 : Int))), ((4 : Nat), AV.s (SV.int IntKind.i64 (2 : Int))), ((5 : Nat), AV.ptr (0 : Nat) (0 : Nat)), ((8 : Nat), AV.s (SV.int IntKind.i64 (5 : Int))), ((10 : Nat), AV.s (SV.int IntKind.i64 (5 : Int))), ((12 : Nat), AV.s (SV.int IntKind.i64 (5 : Int))), ((14 : Nat), AV.s (SV.int IntKind.i64 (5 : Int))), ((72 : Nat), AV.s (SV.bool false)), ((73 : Nat), AV.ptr (0 : Nat) (0 : Nat))]) [AObj.own [AV.vec (1 : Nat), AV.mapv (2 : Nat), AV.s (SV.int IntKind.i64 pn_d4)] (90 : Nat), AObj.vec (Con.typ [CK.arr IntKind.u8 (64 : Nat)] pn_d0) (108 : Nat), AObj.map (CK.arr IntKind.u8 (64 : Nat)) pn_d5] (cal Try.f4 (11 : Nat) (18 : Nat)) (Stk.mk none false (0 : Nat) [] (11 : Nat))
theorem pn_t9 : run (P) (tabPl.sum) (Try.f4) (nsPN) pn_c9 ([(11 : FuncId)]) =
  Tree.ite false (Tree.ret [AObj.own [AV.vec (1 : Nat), AV.mapv (2 : Nat), AV.s (SV.int IntKind.i64 pn_d4)] (90 : Nat), AObj.vec (Con.typ [CK.arr IntKind.u8 (64 : Nat)] pn_d0) (108 : Nat), AObj.map (CK.arr IntKind.u8 (64 : Nat)) pn_d5] (AV.s (SV.blit false))) (Tree.need (Slf (some [AV.ptr (0 : Nat) (0 : Nat), AV.s (SV.int IntKind.i64 (2 : Int)), AV.s (SV.str ByteArray.empty)])) (Tree.need (Slf (some [AObj.own [AV.vec (1 : Nat), AV.mapv (2 : Nat), AV.s (SV.int IntKind.i64 pn_d4)] (90 : Nat), AObj.vec (Con.typ [CK.arr IntKind.u8 (64 : Nat)] pn_d0) (108 : Nat), AObj.map (CK.arr IntKind.u8 (64 : Nat)) pn_d5])) (Tree.need (okD pn_d0 pn_d5 pn_d4) (Tree.need (inI64 (2 : Int)) (Tree.ite false (Tree.ret [AObj.own [AV.vec (1 : Nat), AV.mapv (2 : Nat), AV.s (SV.int IntKind.i64 (gwR pn_d0 pn_d5 pn_d4 (2 : Int) ByteArray.empty).snd.fst)] (90 : Nat), AObj.vec (Con.typ [CK.arr IntKind.u8 (64 : Nat)] pn_d0) (108 : Nat), AObj.map (CK.arr IntKind.u8 (64 : Nat)) (gwR pn_d0 pn_d5 pn_d4 (2 : Int) ByteArray.empty).fst] (AV.s (SV.blit false))) (Tree.at (Cfg.mk (sl (176 : Nat) [((0 : Nat), AV.s (SV.bool false)), ((2 : Nat), AV.s (SV.int IntKind.i64 (2 : Int))), ((4 : Nat), AV.s (SV.int IntKind.i64 (2 : Int))), ((5 : Nat), AV.ptr (0 : Nat) (0 : Nat)), ((8 : Nat), AV.s (SV.int IntKind.i64 (5 : Int))), ((10 : Nat), AV.s (SV.int IntKind.i64 (5 : Int))), ((12 : Nat), AV.s (SV.int IntKind.i64 (5 : Int))), ((14 : Nat), AV.s (SV.int IntKind.i64 (5 : Int))), ((77 : Nat), AV.s (SV.bool false)), ((78 : Nat), AV.ptr (0 : Nat) (0 : Nat)), ((79 : Nat), AV.agg [AV.s (SV.bool false), AV.s (SV.int IntKind.i64 (0 : Int)), AV.s (SV.int IntKind.i64 (0 : Int))])]) [AObj.own [AV.vec (1 : Nat), AV.mapv (2 : Nat), AV.s (SV.int IntKind.i64 (gwR pn_d0 pn_d5 pn_d4 (2 : Int) ByteArray.empty).snd.fst)] (90 : Nat), AObj.vec (Con.typ [CK.arr IntKind.u8 (64 : Nat)] pn_d0) (108 : Nat), AObj.map (CK.arr IntKind.u8 (64 : Nat)) (gwR pn_d0 pn_d5 pn_d4 (2 : Int) ByteArray.empty).fst] (cal Try.f4 (11 : Nat) (24 : Nat)) (Stk.mk none false (0 : Nat) [] (11 : Nat))))))))) := by kernel_rfl
noncomputable def pn_d6 : Int := (gwR pn_d0 pn_d5 pn_d4 (2 : Int) ByteArray.empty).snd.fst
noncomputable def pn_d7 : As := (gwR pn_d0 pn_d5 pn_d4 (2 : Int) ByteArray.empty).fst
noncomputable def pn_c10 : Cfg := Cfg.mk (sl (176 : Nat) [((0 : Nat), AV.s (SV.bool false)), ((2 : Nat), AV.s (SV.int IntKind.i64 (2 : Int))), ((4 : Nat), AV.s (SV.int IntKind.i64 (2 : Int))), ((5 : Nat), AV.ptr (0 : Nat) (0 : Nat)), ((8 : Nat), AV.s (SV.int IntKind.i64 (5 : Int))), ((10 : Nat), AV.s (SV.int IntKind.i64 (5 : Int))), ((12 : Nat), AV.s (SV.int IntKind.i64 (5 : Int))), ((14 : Nat), AV.s (SV.int IntKind.i64 (5 : Int))), ((77 : Nat), AV.s (SV.bool false)), ((78 : Nat), AV.ptr (0 : Nat) (0 : Nat)), ((79 : Nat), AV.agg [AV.s (SV.bool false), AV.s (SV.int IntKind.i64 (0 : Int)), AV.s (SV.int IntKind.i64 (0 : Int))])]) [AObj.own [AV.vec (1 : Nat), AV.mapv (2 : Nat), AV.s (SV.int IntKind.i64 pn_d6)] (90 : Nat), AObj.vec (Con.typ [CK.arr IntKind.u8 (64 : Nat)] pn_d0) (108 : Nat), AObj.map (CK.arr IntKind.u8 (64 : Nat)) pn_d7] (cal Try.f4 (11 : Nat) (24 : Nat)) (Stk.mk none false (0 : Nat) [] (11 : Nat))
theorem pn_t10 : run (P) (tabPl.sum) (Try.f4) (nsPN) pn_c10 ([(11 : FuncId)]) =
  Tree.ite false (Tree.ret [AObj.own [AV.vec (1 : Nat), AV.mapv (2 : Nat), AV.s (SV.int IntKind.i64 pn_d6)] (90 : Nat), AObj.vec (Con.typ [CK.arr IntKind.u8 (64 : Nat)] pn_d0) (108 : Nat), AObj.map (CK.arr IntKind.u8 (64 : Nat)) pn_d7] (AV.s (SV.blit false))) (Tree.need (Slf (some [AV.ptr (0 : Nat) (0 : Nat), AV.s (SV.int IntKind.i64 (2 : Int)), AV.agg [AV.s (SV.bool false), AV.s (SV.int IntKind.i64 (0 : Int)), AV.s (SV.int IntKind.i64 (0 : Int))]])) (Tree.need (Slf (some [AObj.own [AV.vec (1 : Nat), AV.mapv (2 : Nat), AV.s (SV.int IntKind.i64 pn_d6)] (90 : Nat), AObj.vec (Con.typ [CK.arr IntKind.u8 (64 : Nat)] pn_d0) (108 : Nat), AObj.map (CK.arr IntKind.u8 (64 : Nat)) pn_d7])) (Tree.need (okD pn_d0 pn_d7 pn_d6) (Tree.need (inI64 (2 : Int)) (Tree.ite false (Tree.ret [AObj.own [AV.vec (1 : Nat), AV.mapv (2 : Nat), AV.s (SV.int IntKind.i64 (srF pn_d0 pn_d6 (2 : Int) false (0 : Int) (0 : Int)))] (90 : Nat), AObj.vec (Con.typ [CK.arr IntKind.u8 (64 : Nat)] pn_d0) (108 : Nat), AObj.map (CK.arr IntKind.u8 (64 : Nat)) (srM pn_d0 pn_d7 pn_d6 (2 : Int) false (0 : Int) (0 : Int))] (AV.s (SV.blit false))) (Tree.at (Cfg.mk (sl (176 : Nat) [((0 : Nat), AV.s (SV.bool false)), ((2 : Nat), AV.s (SV.int IntKind.i64 (2 : Int))), ((4 : Nat), AV.s (SV.int IntKind.i64 (2 : Int))), ((5 : Nat), AV.ptr (0 : Nat) (0 : Nat)), ((8 : Nat), AV.s (SV.int IntKind.i64 (5 : Int))), ((10 : Nat), AV.s (SV.int IntKind.i64 (5 : Int))), ((12 : Nat), AV.s (SV.int IntKind.i64 (5 : Int))), ((14 : Nat), AV.s (SV.int IntKind.i64 (5 : Int))), ((83 : Nat), AV.s (SV.bool false)), ((84 : Nat), AV.ptr (0 : Nat) (0 : Nat)), ((85 : Nat), AV.agg [AV.s (SV.bool false), AV.s (SV.int IntKind.i64 (-1 : Int)), AV.s (SV.int IntKind.i64 (0 : Int))])]) [AObj.own [AV.vec (1 : Nat), AV.mapv (2 : Nat), AV.s (SV.int IntKind.i64 (srF pn_d0 pn_d6 (2 : Int) false (0 : Int) (0 : Int)))] (90 : Nat), AObj.vec (Con.typ [CK.arr IntKind.u8 (64 : Nat)] pn_d0) (108 : Nat), AObj.map (CK.arr IntKind.u8 (64 : Nat)) (srM pn_d0 pn_d7 pn_d6 (2 : Int) false (0 : Int) (0 : Int))] (cal Try.f4 (11 : Nat) (30 : Nat)) (Stk.mk none false (0 : Nat) [] (11 : Nat))))))))) := by kernel_rfl
noncomputable def pn_d8 : Int := srF pn_d0 pn_d6 (2 : Int) false (0 : Int) (0 : Int)
noncomputable def pn_d9 : As := srM pn_d0 pn_d7 pn_d6 (2 : Int) false (0 : Int) (0 : Int)
noncomputable def pn_c11 : Cfg := Cfg.mk (sl (176 : Nat) [((0 : Nat), AV.s (SV.bool false)), ((2 : Nat), AV.s (SV.int IntKind.i64 (2 : Int))), ((4 : Nat), AV.s (SV.int IntKind.i64 (2 : Int))), ((5 : Nat), AV.ptr (0 : Nat) (0 : Nat)), ((8 : Nat), AV.s (SV.int IntKind.i64 (5 : Int))), ((10 : Nat), AV.s (SV.int IntKind.i64 (5 : Int))), ((12 : Nat), AV.s (SV.int IntKind.i64 (5 : Int))), ((14 : Nat), AV.s (SV.int IntKind.i64 (5 : Int))), ((83 : Nat), AV.s (SV.bool false)), ((84 : Nat), AV.ptr (0 : Nat) (0 : Nat)), ((85 : Nat), AV.agg [AV.s (SV.bool false), AV.s (SV.int IntKind.i64 (-1 : Int)), AV.s (SV.int IntKind.i64 (0 : Int))])]) [AObj.own [AV.vec (1 : Nat), AV.mapv (2 : Nat), AV.s (SV.int IntKind.i64 pn_d8)] (90 : Nat), AObj.vec (Con.typ [CK.arr IntKind.u8 (64 : Nat)] pn_d0) (108 : Nat), AObj.map (CK.arr IntKind.u8 (64 : Nat)) pn_d9] (cal Try.f4 (11 : Nat) (30 : Nat)) (Stk.mk none false (0 : Nat) [] (11 : Nat))
theorem pn_t11 : run (P) (tabPl.sum) (Try.f4) (nsPN) pn_c11 ([(11 : FuncId)]) =
  Tree.ite false (Tree.ret [AObj.own [AV.vec (1 : Nat), AV.mapv (2 : Nat), AV.s (SV.int IntKind.i64 pn_d8)] (90 : Nat), AObj.vec (Con.typ [CK.arr IntKind.u8 (64 : Nat)] pn_d0) (108 : Nat), AObj.map (CK.arr IntKind.u8 (64 : Nat)) pn_d9] (AV.s (SV.blit false))) (Tree.need (Slf (some [AV.ptr (0 : Nat) (0 : Nat), AV.s (SV.int IntKind.i64 (0 : Int)), AV.agg [AV.s (SV.bool false), AV.s (SV.int IntKind.i64 (-1 : Int)), AV.s (SV.int IntKind.i64 (0 : Int))]])) (Tree.need (Slf (some [AObj.own [AV.vec (1 : Nat), AV.mapv (2 : Nat), AV.s (SV.int IntKind.i64 pn_d8)] (90 : Nat), AObj.vec (Con.typ [CK.arr IntKind.u8 (64 : Nat)] pn_d0) (108 : Nat), AObj.map (CK.arr IntKind.u8 (64 : Nat)) pn_d9])) (Tree.need (okD pn_d0 pn_d9 pn_d8) (Tree.need (inI64 (0 : Int)) (Tree.ite false (Tree.ret [AObj.own [AV.vec (1 : Nat), AV.mapv (2 : Nat), AV.s (SV.int IntKind.i64 (srF pn_d0 pn_d8 (0 : Int) false (-1 : Int) (0 : Int)))] (90 : Nat), AObj.vec (Con.typ [CK.arr IntKind.u8 (64 : Nat)] pn_d0) (108 : Nat), AObj.map (CK.arr IntKind.u8 (64 : Nat)) (srM pn_d0 pn_d9 pn_d8 (0 : Int) false (-1 : Int) (0 : Int))] (AV.s (SV.blit false))) (Tree.at (Cfg.mk (sl (176 : Nat) [((0 : Nat), AV.s (SV.bool false)), ((2 : Nat), AV.s (SV.int IntKind.i64 (2 : Int))), ((4 : Nat), AV.s (SV.int IntKind.i64 (2 : Int))), ((5 : Nat), AV.ptr (0 : Nat) (0 : Nat)), ((8 : Nat), AV.s (SV.int IntKind.i64 (5 : Int))), ((10 : Nat), AV.s (SV.int IntKind.i64 (5 : Int))), ((12 : Nat), AV.s (SV.int IntKind.i64 (5 : Int))), ((14 : Nat), AV.s (SV.int IntKind.i64 (5 : Int))), ((89 : Nat), AV.s (SV.bool false)), ((90 : Nat), AV.ptr (0 : Nat) (0 : Nat)), ((91 : Nat), AV.agg [AV.s (SV.bool false), AV.s (SV.int IntKind.i64 (1099511627777 : Int)), AV.s (SV.int IntKind.i64 (0 : Int))])]) [AObj.own [AV.vec (1 : Nat), AV.mapv (2 : Nat), AV.s (SV.int IntKind.i64 (srF pn_d0 pn_d8 (0 : Int) false (-1 : Int) (0 : Int)))] (90 : Nat), AObj.vec (Con.typ [CK.arr IntKind.u8 (64 : Nat)] pn_d0) (108 : Nat), AObj.map (CK.arr IntKind.u8 (64 : Nat)) (srM pn_d0 pn_d9 pn_d8 (0 : Int) false (-1 : Int) (0 : Int))] (cal Try.f4 (11 : Nat) (36 : Nat)) (Stk.mk none false (0 : Nat) [] (11 : Nat))))))))) := by kernel_rfl
noncomputable def pn_d10 : Int := srF pn_d0 pn_d8 (0 : Int) false (-1 : Int) (0 : Int)
noncomputable def pn_d11 : As := srM pn_d0 pn_d9 pn_d8 (0 : Int) false (-1 : Int) (0 : Int)
noncomputable def pn_c12 : Cfg := Cfg.mk (sl (176 : Nat) [((0 : Nat), AV.s (SV.bool false)), ((2 : Nat), AV.s (SV.int IntKind.i64 (2 : Int))), ((4 : Nat), AV.s (SV.int IntKind.i64 (2 : Int))), ((5 : Nat), AV.ptr (0 : Nat) (0 : Nat)), ((8 : Nat), AV.s (SV.int IntKind.i64 (5 : Int))), ((10 : Nat), AV.s (SV.int IntKind.i64 (5 : Int))), ((12 : Nat), AV.s (SV.int IntKind.i64 (5 : Int))), ((14 : Nat), AV.s (SV.int IntKind.i64 (5 : Int))), ((89 : Nat), AV.s (SV.bool false)), ((90 : Nat), AV.ptr (0 : Nat) (0 : Nat)), ((91 : Nat), AV.agg [AV.s (SV.bool false), AV.s (SV.int IntKind.i64 (1099511627777 : Int)), AV.s (SV.int IntKind.i64 (0 : Int))])]) [AObj.own [AV.vec (1 : Nat), AV.mapv (2 : Nat), AV.s (SV.int IntKind.i64 pn_d10)] (90 : Nat), AObj.vec (Con.typ [CK.arr IntKind.u8 (64 : Nat)] pn_d0) (108 : Nat), AObj.map (CK.arr IntKind.u8 (64 : Nat)) pn_d11] (cal Try.f4 (11 : Nat) (36 : Nat)) (Stk.mk none false (0 : Nat) [] (11 : Nat))
theorem pn_t12 : run (P) (tabPl.sum) (Try.f4) (nsPN) pn_c12 ([(11 : FuncId)]) =
  Tree.ite false (Tree.ret [AObj.own [AV.vec (1 : Nat), AV.mapv (2 : Nat), AV.s (SV.int IntKind.i64 pn_d10)] (90 : Nat), AObj.vec (Con.typ [CK.arr IntKind.u8 (64 : Nat)] pn_d0) (108 : Nat), AObj.map (CK.arr IntKind.u8 (64 : Nat)) pn_d11] (AV.s (SV.blit false))) (Tree.need (Slf (some [AV.ptr (0 : Nat) (0 : Nat), AV.s (SV.int IntKind.i64 (0 : Int)), AV.agg [AV.s (SV.bool false), AV.s (SV.int IntKind.i64 (1099511627777 : Int)), AV.s (SV.int IntKind.i64 (0 : Int))]])) (Tree.need (Slf (some [AObj.own [AV.vec (1 : Nat), AV.mapv (2 : Nat), AV.s (SV.int IntKind.i64 pn_d10)] (90 : Nat), AObj.vec (Con.typ [CK.arr IntKind.u8 (64 : Nat)] pn_d0) (108 : Nat), AObj.map (CK.arr IntKind.u8 (64 : Nat)) pn_d11])) (Tree.need (okD pn_d0 pn_d11 pn_d10) (Tree.need (inI64 (0 : Int)) (Tree.ite false (Tree.ret [AObj.own [AV.vec (1 : Nat), AV.mapv (2 : Nat), AV.s (SV.int IntKind.i64 (srF pn_d0 pn_d10 (0 : Int) false (1099511627777 : Int) (0 : Int)))] (90 : Nat), AObj.vec (Con.typ [CK.arr IntKind.u8 (64 : Nat)] pn_d0) (108 : Nat), AObj.map (CK.arr IntKind.u8 (64 : Nat)) (srM pn_d0 pn_d11 pn_d10 (0 : Int) false (1099511627777 : Int) (0 : Int))] (AV.s (SV.blit false))) (Tree.at (Cfg.mk (sl (176 : Nat) [((0 : Nat), AV.s (SV.bool false)), ((2 : Nat), AV.s (SV.int IntKind.i64 (2 : Int))), ((4 : Nat), AV.s (SV.int IntKind.i64 (2 : Int))), ((5 : Nat), AV.ptr (0 : Nat) (0 : Nat)), ((8 : Nat), AV.s (SV.int IntKind.i64 (5 : Int))), ((10 : Nat), AV.s (SV.int IntKind.i64 (5 : Int))), ((12 : Nat), AV.s (SV.int IntKind.i64 (5 : Int))), ((14 : Nat), AV.s (SV.int IntKind.i64 (5 : Int))), ((95 : Nat), AV.s (SV.bool false)), ((96 : Nat), AV.ptr (0 : Nat) (0 : Nat)), ((97 : Nat), AV.agg [AV.s (SV.bool false), AV.s (SV.int IntKind.i64 (0 : Int)), AV.s (SV.int IntKind.i64 (1024 : Int))])]) [AObj.own [AV.vec (1 : Nat), AV.mapv (2 : Nat), AV.s (SV.int IntKind.i64 (srF pn_d0 pn_d10 (0 : Int) false (1099511627777 : Int) (0 : Int)))] (90 : Nat), AObj.vec (Con.typ [CK.arr IntKind.u8 (64 : Nat)] pn_d0) (108 : Nat), AObj.map (CK.arr IntKind.u8 (64 : Nat)) (srM pn_d0 pn_d11 pn_d10 (0 : Int) false (1099511627777 : Int) (0 : Int))] (cal Try.f4 (11 : Nat) (42 : Nat)) (Stk.mk none false (0 : Nat) [] (11 : Nat))))))))) := by kernel_rfl
noncomputable def pn_d12 : Int := srF pn_d0 pn_d10 (0 : Int) false (1099511627777 : Int) (0 : Int)
noncomputable def pn_d13 : As := srM pn_d0 pn_d11 pn_d10 (0 : Int) false (1099511627777 : Int) (0 : Int)
noncomputable def pn_c13 : Cfg := Cfg.mk (sl (176 : Nat) [((0 : Nat), AV.s (SV.bool false)), ((2 : Nat), AV.s (SV.int IntKind.i64 (2 : Int))), ((4 : Nat), AV.s (SV.int IntKind.i64 (2 : Int))), ((5 : Nat), AV.ptr (0 : Nat) (0 : Nat)), ((8 : Nat), AV.s (SV.int IntKind.i64 (5 : Int))), ((10 : Nat), AV.s (SV.int IntKind.i64 (5 : Int))), ((12 : Nat), AV.s (SV.int IntKind.i64 (5 : Int))), ((14 : Nat), AV.s (SV.int IntKind.i64 (5 : Int))), ((95 : Nat), AV.s (SV.bool false)), ((96 : Nat), AV.ptr (0 : Nat) (0 : Nat)), ((97 : Nat), AV.agg [AV.s (SV.bool false), AV.s (SV.int IntKind.i64 (0 : Int)), AV.s (SV.int IntKind.i64 (1024 : Int))])]) [AObj.own [AV.vec (1 : Nat), AV.mapv (2 : Nat), AV.s (SV.int IntKind.i64 pn_d12)] (90 : Nat), AObj.vec (Con.typ [CK.arr IntKind.u8 (64 : Nat)] pn_d0) (108 : Nat), AObj.map (CK.arr IntKind.u8 (64 : Nat)) pn_d13] (cal Try.f4 (11 : Nat) (42 : Nat)) (Stk.mk none false (0 : Nat) [] (11 : Nat))
theorem pn_t13 : run (P) (tabPl.sum) (Try.f4) (nsPN) pn_c13 ([(11 : FuncId)]) =
  Tree.ite false (Tree.ret [AObj.own [AV.vec (1 : Nat), AV.mapv (2 : Nat), AV.s (SV.int IntKind.i64 pn_d12)] (90 : Nat), AObj.vec (Con.typ [CK.arr IntKind.u8 (64 : Nat)] pn_d0) (108 : Nat), AObj.map (CK.arr IntKind.u8 (64 : Nat)) pn_d13] (AV.s (SV.blit false))) (Tree.need (Slf (some [AV.ptr (0 : Nat) (0 : Nat), AV.s (SV.int IntKind.i64 (0 : Int)), AV.agg [AV.s (SV.bool false), AV.s (SV.int IntKind.i64 (0 : Int)), AV.s (SV.int IntKind.i64 (1024 : Int))]])) (Tree.need (Slf (some [AObj.own [AV.vec (1 : Nat), AV.mapv (2 : Nat), AV.s (SV.int IntKind.i64 pn_d12)] (90 : Nat), AObj.vec (Con.typ [CK.arr IntKind.u8 (64 : Nat)] pn_d0) (108 : Nat), AObj.map (CK.arr IntKind.u8 (64 : Nat)) pn_d13])) (Tree.need (okD pn_d0 pn_d13 pn_d12) (Tree.need (inI64 (0 : Int)) (Tree.ite false (Tree.ret [AObj.own [AV.vec (1 : Nat), AV.mapv (2 : Nat), AV.s (SV.int IntKind.i64 (srF pn_d0 pn_d12 (0 : Int) false (0 : Int) (1024 : Int)))] (90 : Nat), AObj.vec (Con.typ [CK.arr IntKind.u8 (64 : Nat)] pn_d0) (108 : Nat), AObj.map (CK.arr IntKind.u8 (64 : Nat)) (srM pn_d0 pn_d13 pn_d12 (0 : Int) false (0 : Int) (1024 : Int))] (AV.s (SV.blit false))) (Tree.at (Cfg.mk (sl (176 : Nat) [((0 : Nat), AV.s (SV.bool false)), ((2 : Nat), AV.s (SV.int IntKind.i64 (2 : Int))), ((4 : Nat), AV.s (SV.int IntKind.i64 (2 : Int))), ((5 : Nat), AV.ptr (0 : Nat) (0 : Nat)), ((8 : Nat), AV.s (SV.int IntKind.i64 (5 : Int))), ((10 : Nat), AV.s (SV.int IntKind.i64 (5 : Int))), ((12 : Nat), AV.s (SV.int IntKind.i64 (5 : Int))), ((14 : Nat), AV.s (SV.int IntKind.i64 (5 : Int))), ((101 : Nat), AV.s (SV.bool false)), ((102 : Nat), AV.ptr (0 : Nat) (0 : Nat)), ((103 : Nat), AV.agg [AV.s (SV.bool false), AV.s (SV.int IntKind.i64 (0 : Int)), AV.s (SV.int IntKind.i64 (-1 : Int))])]) [AObj.own [AV.vec (1 : Nat), AV.mapv (2 : Nat), AV.s (SV.int IntKind.i64 (srF pn_d0 pn_d12 (0 : Int) false (0 : Int) (1024 : Int)))] (90 : Nat), AObj.vec (Con.typ [CK.arr IntKind.u8 (64 : Nat)] pn_d0) (108 : Nat), AObj.map (CK.arr IntKind.u8 (64 : Nat)) (srM pn_d0 pn_d13 pn_d12 (0 : Int) false (0 : Int) (1024 : Int))] (cal Try.f4 (11 : Nat) (48 : Nat)) (Stk.mk none false (0 : Nat) [] (11 : Nat))))))))) := by kernel_rfl
noncomputable def pn_d14 : Int := srF pn_d0 pn_d12 (0 : Int) false (0 : Int) (1024 : Int)
noncomputable def pn_d15 : As := srM pn_d0 pn_d13 pn_d12 (0 : Int) false (0 : Int) (1024 : Int)
noncomputable def pn_c14 : Cfg := Cfg.mk (sl (176 : Nat) [((0 : Nat), AV.s (SV.bool false)), ((2 : Nat), AV.s (SV.int IntKind.i64 (2 : Int))), ((4 : Nat), AV.s (SV.int IntKind.i64 (2 : Int))), ((5 : Nat), AV.ptr (0 : Nat) (0 : Nat)), ((8 : Nat), AV.s (SV.int IntKind.i64 (5 : Int))), ((10 : Nat), AV.s (SV.int IntKind.i64 (5 : Int))), ((12 : Nat), AV.s (SV.int IntKind.i64 (5 : Int))), ((14 : Nat), AV.s (SV.int IntKind.i64 (5 : Int))), ((101 : Nat), AV.s (SV.bool false)), ((102 : Nat), AV.ptr (0 : Nat) (0 : Nat)), ((103 : Nat), AV.agg [AV.s (SV.bool false), AV.s (SV.int IntKind.i64 (0 : Int)), AV.s (SV.int IntKind.i64 (-1 : Int))])]) [AObj.own [AV.vec (1 : Nat), AV.mapv (2 : Nat), AV.s (SV.int IntKind.i64 pn_d14)] (90 : Nat), AObj.vec (Con.typ [CK.arr IntKind.u8 (64 : Nat)] pn_d0) (108 : Nat), AObj.map (CK.arr IntKind.u8 (64 : Nat)) pn_d15] (cal Try.f4 (11 : Nat) (48 : Nat)) (Stk.mk none false (0 : Nat) [] (11 : Nat))
theorem pn_t14 : run (P) (tabPl.sum) (Try.f4) (nsPN) pn_c14 ([(11 : FuncId)]) =
  Tree.ite false (Tree.ret [AObj.own [AV.vec (1 : Nat), AV.mapv (2 : Nat), AV.s (SV.int IntKind.i64 pn_d14)] (90 : Nat), AObj.vec (Con.typ [CK.arr IntKind.u8 (64 : Nat)] pn_d0) (108 : Nat), AObj.map (CK.arr IntKind.u8 (64 : Nat)) pn_d15] (AV.s (SV.blit false))) (Tree.need (Slf (some [AV.ptr (0 : Nat) (0 : Nat), AV.s (SV.int IntKind.i64 (0 : Int)), AV.agg [AV.s (SV.bool false), AV.s (SV.int IntKind.i64 (0 : Int)), AV.s (SV.int IntKind.i64 (-1 : Int))]])) (Tree.need (Slf (some [AObj.own [AV.vec (1 : Nat), AV.mapv (2 : Nat), AV.s (SV.int IntKind.i64 pn_d14)] (90 : Nat), AObj.vec (Con.typ [CK.arr IntKind.u8 (64 : Nat)] pn_d0) (108 : Nat), AObj.map (CK.arr IntKind.u8 (64 : Nat)) pn_d15])) (Tree.need (okD pn_d0 pn_d15 pn_d14) (Tree.need (inI64 (0 : Int)) (Tree.ite false (Tree.ret [AObj.own [AV.vec (1 : Nat), AV.mapv (2 : Nat), AV.s (SV.int IntKind.i64 (srF pn_d0 pn_d14 (0 : Int) false (0 : Int) (-1 : Int)))] (90 : Nat), AObj.vec (Con.typ [CK.arr IntKind.u8 (64 : Nat)] pn_d0) (108 : Nat), AObj.map (CK.arr IntKind.u8 (64 : Nat)) (srM pn_d0 pn_d15 pn_d14 (0 : Int) false (0 : Int) (-1 : Int))] (AV.s (SV.blit false))) (Tree.at (Cfg.mk (sl (176 : Nat) [((0 : Nat), AV.s (SV.bool false)), ((2 : Nat), AV.s (SV.int IntKind.i64 (2 : Int))), ((4 : Nat), AV.s (SV.int IntKind.i64 (2 : Int))), ((5 : Nat), AV.ptr (0 : Nat) (0 : Nat)), ((8 : Nat), AV.s (SV.int IntKind.i64 (5 : Int))), ((10 : Nat), AV.s (SV.int IntKind.i64 (5 : Int))), ((12 : Nat), AV.s (SV.int IntKind.i64 (5 : Int))), ((14 : Nat), AV.s (SV.int IntKind.i64 (5 : Int))), ((107 : Nat), AV.s (SV.bool false)), ((108 : Nat), AV.ptr (0 : Nat) (0 : Nat)), ((109 : Nat), AV.agg [AV.s (SV.bool true), AV.s (SV.int IntKind.i64 (1099511627776 : Int)), AV.s (SV.int IntKind.i64 (1023 : Int))])]) [AObj.own [AV.vec (1 : Nat), AV.mapv (2 : Nat), AV.s (SV.int IntKind.i64 (srF pn_d0 pn_d14 (0 : Int) false (0 : Int) (-1 : Int)))] (90 : Nat), AObj.vec (Con.typ [CK.arr IntKind.u8 (64 : Nat)] pn_d0) (108 : Nat), AObj.map (CK.arr IntKind.u8 (64 : Nat)) (srM pn_d0 pn_d15 pn_d14 (0 : Int) false (0 : Int) (-1 : Int))] (cal Try.f4 (11 : Nat) (54 : Nat)) (Stk.mk none false (0 : Nat) [] (11 : Nat))))))))) := by kernel_rfl
noncomputable def pn_d16 : Int := srF pn_d0 pn_d14 (0 : Int) false (0 : Int) (-1 : Int)
noncomputable def pn_d17 : As := srM pn_d0 pn_d15 pn_d14 (0 : Int) false (0 : Int) (-1 : Int)
noncomputable def pn_c15 : Cfg := Cfg.mk (sl (176 : Nat) [((0 : Nat), AV.s (SV.bool false)), ((2 : Nat), AV.s (SV.int IntKind.i64 (2 : Int))), ((4 : Nat), AV.s (SV.int IntKind.i64 (2 : Int))), ((5 : Nat), AV.ptr (0 : Nat) (0 : Nat)), ((8 : Nat), AV.s (SV.int IntKind.i64 (5 : Int))), ((10 : Nat), AV.s (SV.int IntKind.i64 (5 : Int))), ((12 : Nat), AV.s (SV.int IntKind.i64 (5 : Int))), ((14 : Nat), AV.s (SV.int IntKind.i64 (5 : Int))), ((107 : Nat), AV.s (SV.bool false)), ((108 : Nat), AV.ptr (0 : Nat) (0 : Nat)), ((109 : Nat), AV.agg [AV.s (SV.bool true), AV.s (SV.int IntKind.i64 (1099511627776 : Int)), AV.s (SV.int IntKind.i64 (1023 : Int))])]) [AObj.own [AV.vec (1 : Nat), AV.mapv (2 : Nat), AV.s (SV.int IntKind.i64 pn_d16)] (90 : Nat), AObj.vec (Con.typ [CK.arr IntKind.u8 (64 : Nat)] pn_d0) (108 : Nat), AObj.map (CK.arr IntKind.u8 (64 : Nat)) pn_d17] (cal Try.f4 (11 : Nat) (54 : Nat)) (Stk.mk none false (0 : Nat) [] (11 : Nat))
theorem pn_t15 : run (P) (tabPl.sum) (Try.f4) (nsPN) pn_c15 ([(11 : FuncId)]) =
  Tree.ite false (Tree.ret [AObj.own [AV.vec (1 : Nat), AV.mapv (2 : Nat), AV.s (SV.int IntKind.i64 pn_d16)] (90 : Nat), AObj.vec (Con.typ [CK.arr IntKind.u8 (64 : Nat)] pn_d0) (108 : Nat), AObj.map (CK.arr IntKind.u8 (64 : Nat)) pn_d17] (AV.s (SV.blit false))) (Tree.need (Slf (some [AV.ptr (0 : Nat) (0 : Nat), AV.s (SV.int IntKind.i64 (1 : Int)), AV.agg [AV.s (SV.bool true), AV.s (SV.int IntKind.i64 (1099511627776 : Int)), AV.s (SV.int IntKind.i64 (1023 : Int))]])) (Tree.need (Slf (some [AObj.own [AV.vec (1 : Nat), AV.mapv (2 : Nat), AV.s (SV.int IntKind.i64 pn_d16)] (90 : Nat), AObj.vec (Con.typ [CK.arr IntKind.u8 (64 : Nat)] pn_d0) (108 : Nat), AObj.map (CK.arr IntKind.u8 (64 : Nat)) pn_d17])) (Tree.need (okD pn_d0 pn_d17 pn_d16) (Tree.need (inI64 (1 : Int)) (Tree.ite false (Tree.ret [AObj.own [AV.vec (1 : Nat), AV.mapv (2 : Nat), AV.s (SV.int IntKind.i64 (srF pn_d0 pn_d16 (1 : Int) true (1099511627776 : Int) (1023 : Int)))] (90 : Nat), AObj.vec (Con.typ [CK.arr IntKind.u8 (64 : Nat)] pn_d0) (108 : Nat), AObj.map (CK.arr IntKind.u8 (64 : Nat)) (srM pn_d0 pn_d17 pn_d16 (1 : Int) true (1099511627776 : Int) (1023 : Int))] (AV.s (SV.blit false))) (Tree.at (Cfg.mk (sl (176 : Nat) [((0 : Nat), AV.s (SV.bool false)), ((2 : Nat), AV.s (SV.int IntKind.i64 (2 : Int))), ((4 : Nat), AV.s (SV.int IntKind.i64 (2 : Int))), ((5 : Nat), AV.ptr (0 : Nat) (0 : Nat)), ((8 : Nat), AV.s (SV.int IntKind.i64 (5 : Int))), ((10 : Nat), AV.s (SV.int IntKind.i64 (5 : Int))), ((12 : Nat), AV.s (SV.int IntKind.i64 (5 : Int))), ((14 : Nat), AV.s (SV.int IntKind.i64 (5 : Int))), ((114 : Nat), AV.ptr (0 : Nat) (0 : Nat))]) [AObj.own [AV.vec (1 : Nat), AV.mapv (2 : Nat), AV.s (SV.int IntKind.i64 (srF pn_d0 pn_d16 (1 : Int) true (1099511627776 : Int) (1023 : Int)))] (90 : Nat), AObj.vec (Con.typ [CK.arr IntKind.u8 (64 : Nat)] pn_d0) (108 : Nat), AObj.map (CK.arr IntKind.u8 (64 : Nat)) (srM pn_d0 pn_d17 pn_d16 (1 : Int) true (1099511627776 : Int) (1023 : Int))] (cal Try.f4 (13 : Nat) (1 : Nat)) (Stk.mk none false (0 : Nat) [] (13 : Nat))))))))) := by kernel_rfl
noncomputable def pn_d18 : Int := srF pn_d0 pn_d16 (1 : Int) true (1099511627776 : Int) (1023 : Int)
noncomputable def pn_d19 : As := srM pn_d0 pn_d17 pn_d16 (1 : Int) true (1099511627776 : Int) (1023 : Int)
noncomputable def pn_c16 : Cfg := Cfg.mk (sl (176 : Nat) [((0 : Nat), AV.s (SV.bool false)), ((2 : Nat), AV.s (SV.int IntKind.i64 (2 : Int))), ((4 : Nat), AV.s (SV.int IntKind.i64 (2 : Int))), ((5 : Nat), AV.ptr (0 : Nat) (0 : Nat)), ((8 : Nat), AV.s (SV.int IntKind.i64 (5 : Int))), ((10 : Nat), AV.s (SV.int IntKind.i64 (5 : Int))), ((12 : Nat), AV.s (SV.int IntKind.i64 (5 : Int))), ((14 : Nat), AV.s (SV.int IntKind.i64 (5 : Int))), ((114 : Nat), AV.ptr (0 : Nat) (0 : Nat))]) [AObj.own [AV.vec (1 : Nat), AV.mapv (2 : Nat), AV.s (SV.int IntKind.i64 pn_d18)] (90 : Nat), AObj.vec (Con.typ [CK.arr IntKind.u8 (64 : Nat)] pn_d0) (108 : Nat), AObj.map (CK.arr IntKind.u8 (64 : Nat)) pn_d19] (cal Try.f4 (13 : Nat) (1 : Nat)) (Stk.mk none false (0 : Nat) [] (13 : Nat))
theorem pn_t16 : run (P) (tabPl.sum) (Try.f4) (nsPN) pn_c16 ([(11 : FuncId)]) =
  Tree.need (Slf (some [AV.ptr (0 : Nat) (0 : Nat), AV.s (SV.int IntKind.i64 (1 : Int))])) (Tree.need (Slf (some [AObj.own [AV.vec (1 : Nat), AV.mapv (2 : Nat), AV.s (SV.int IntKind.i64 pn_d18)] (90 : Nat), AObj.vec (Con.typ [CK.arr IntKind.u8 (64 : Nat)] pn_d0) (108 : Nat), AObj.map (CK.arr IntKind.u8 (64 : Nat)) pn_d19])) (Tree.need (okD pn_d0 pn_d19 pn_d18) (Tree.need (inI64 (1 : Int)) (Tree.at (Cfg.mk (sl (176 : Nat) [((0 : Nat), AV.s (SV.bool false)), ((2 : Nat), AV.s (SV.int IntKind.i64 (2 : Int))), ((4 : Nat), AV.s (SV.int IntKind.i64 (2 : Int))), ((8 : Nat), AV.s (SV.int IntKind.i64 (5 : Int))), ((10 : Nat), AV.s (SV.int IntKind.i64 (5 : Int))), ((12 : Nat), AV.s (SV.int IntKind.i64 (5 : Int))), ((14 : Nat), AV.s (SV.int IntKind.i64 (5 : Int))), ((16 : Nat), AV.ptr (0 : Nat) (0 : Nat)), ((17 : Nat), AV.s (SV.int IntKind.i64 (0 : Int))), ((119 : Nat), AV.ptr (1 : Nat) (0 : Nat))]) [AObj.own [AV.s (SV.bool true), AV.s (SV.int IntKind.i64 (1099511627776 : Int)), AV.s (SV.int IntKind.i64 (1023 : Int))] (23 : Nat), AObj.own [AV.vec (2 : Nat), AV.mapv (3 : Nat), AV.s (SV.int IntKind.i64 pn_d18)] (90 : Nat), AObj.vec (Con.typ [CK.arr IntKind.u8 (64 : Nat)] pn_d0) (108 : Nat), AObj.map (CK.arr IntKind.u8 (64 : Nat)) pn_d19] (cal Try.f4 (14 : Nat) (1 : Nat)) (Stk.mk none false (0 : Nat) [] (14 : Nat))))))) := by kernel_rfl
noncomputable def pn_c17 : Cfg := Cfg.mk (sl (176 : Nat) [((0 : Nat), AV.s (SV.bool false)), ((2 : Nat), AV.s (SV.int IntKind.i64 (2 : Int))), ((4 : Nat), AV.s (SV.int IntKind.i64 (2 : Int))), ((8 : Nat), AV.s (SV.int IntKind.i64 (5 : Int))), ((10 : Nat), AV.s (SV.int IntKind.i64 (5 : Int))), ((12 : Nat), AV.s (SV.int IntKind.i64 (5 : Int))), ((14 : Nat), AV.s (SV.int IntKind.i64 (5 : Int))), ((16 : Nat), AV.ptr (0 : Nat) (0 : Nat)), ((17 : Nat), AV.s (SV.int IntKind.i64 (0 : Int))), ((119 : Nat), AV.ptr (1 : Nat) (0 : Nat))]) [AObj.own [AV.s (SV.bool true), AV.s (SV.int IntKind.i64 (1099511627776 : Int)), AV.s (SV.int IntKind.i64 (1023 : Int))] (23 : Nat), AObj.own [AV.vec (2 : Nat), AV.mapv (3 : Nat), AV.s (SV.int IntKind.i64 pn_d18)] (90 : Nat), AObj.vec (Con.typ [CK.arr IntKind.u8 (64 : Nat)] pn_d0) (108 : Nat), AObj.map (CK.arr IntKind.u8 (64 : Nat)) pn_d19] (cal Try.f4 (14 : Nat) (1 : Nat)) (Stk.mk none false (0 : Nat) [] (14 : Nat))
theorem pn_t17 : run (P) (tabPl.sum) (Try.f4) (nsPN) pn_c17 ([(11 : FuncId)]) =
  Tree.need (Slf (some [AV.ptr (0 : Nat) (0 : Nat), AV.s (SV.int IntKind.i64 (1 : Int))])) (Tree.need (Slf (some [AObj.own [AV.vec (1 : Nat), AV.mapv (2 : Nat), AV.s (SV.int IntKind.i64 pn_d18)] (90 : Nat), AObj.vec (Con.typ [CK.arr IntKind.u8 (64 : Nat)] pn_d0) (108 : Nat), AObj.map (CK.arr IntKind.u8 (64 : Nat)) pn_d19])) (Tree.need (okD pn_d0 pn_d19 pn_d18) (Tree.need (inI64 (1 : Int)) (Tree.ite true (Tree.ite true (Tree.at (Cfg.mk (sl (176 : Nat) [((0 : Nat), AV.s (SV.bool false)), ((8 : Nat), AV.s (SV.int IntKind.i64 (5 : Int))), ((10 : Nat), AV.s (SV.int IntKind.i64 (5 : Int))), ((12 : Nat), AV.s (SV.int IntKind.i64 (5 : Int))), ((14 : Nat), AV.s (SV.int IntKind.i64 (5 : Int))), ((16 : Nat), AV.ptr (0 : Nat) (0 : Nat)), ((17 : Nat), AV.s (SV.int IntKind.i64 (0 : Int))), ((19 : Nat), AV.s (SV.int IntKind.i64 (4 : Int))), ((131 : Nat), AV.s (SV.bool true))]) [AObj.own [AV.s (SV.bool true), AV.s (SV.int IntKind.i64 (1099511627776 : Int)), AV.s (SV.int IntKind.i64 (1023 : Int))] (23 : Nat)] (cal Try.f4 (15 : Nat) (9 : Nat)) (Stk.mk none false (0 : Nat) [] (15 : Nat)))) (Tree.ret [AObj.own [AV.s (SV.bool true), AV.s (SV.int IntKind.i64 (1099511627776 : Int)), AV.s (SV.int IntKind.i64 (1023 : Int))] (23 : Nat), AObj.own [AV.vec (2 : Nat), AV.mapv (3 : Nat), AV.s (SV.int IntKind.i64 pn_d18)] (90 : Nat), AObj.vec (Con.typ [CK.arr IntKind.u8 (64 : Nat)] pn_d0) (108 : Nat), AObj.map (CK.arr IntKind.u8 (64 : Nat)) pn_d19] (AV.s (SV.blit false)))) (Tree.ret [AObj.own [AV.s (SV.bool true), AV.s (SV.int IntKind.i64 (1099511627776 : Int)), AV.s (SV.int IntKind.i64 (1023 : Int))] (23 : Nat), AObj.own [AV.vec (2 : Nat), AV.mapv (3 : Nat), AV.s (SV.int IntKind.i64 pn_d18)] (90 : Nat), AObj.vec (Con.typ [CK.arr IntKind.u8 (64 : Nat)] pn_d0) (108 : Nat), AObj.map (CK.arr IntKind.u8 (64 : Nat)) pn_d19] (AV.s (SV.blit false))))))) := by kernel_rfl
noncomputable def pn_c18 : Cfg := Cfg.mk (sl (176 : Nat) [((0 : Nat), AV.s (SV.bool false)), ((8 : Nat), AV.s (SV.int IntKind.i64 (5 : Int))), ((10 : Nat), AV.s (SV.int IntKind.i64 (5 : Int))), ((12 : Nat), AV.s (SV.int IntKind.i64 (5 : Int))), ((14 : Nat), AV.s (SV.int IntKind.i64 (5 : Int))), ((16 : Nat), AV.ptr (0 : Nat) (0 : Nat)), ((17 : Nat), AV.s (SV.int IntKind.i64 (0 : Int))), ((19 : Nat), AV.s (SV.int IntKind.i64 (4 : Int))), ((131 : Nat), AV.s (SV.bool true))]) [AObj.own [AV.s (SV.bool true), AV.s (SV.int IntKind.i64 (1099511627776 : Int)), AV.s (SV.int IntKind.i64 (1023 : Int))] (23 : Nat)] (cal Try.f4 (15 : Nat) (9 : Nat)) (Stk.mk none false (0 : Nat) [] (15 : Nat))
theorem pn_t18 : run (P) (tabPl.sum) (Try.f4) (nsPN) pn_c18 ([(11 : FuncId)]) =
  Tree.ite true (Tree.need (Slf (some [AV.s SV.nilp, AV.s (SV.int IntKind.i64 (0 : Int)), AV.s (SV.str ByteArray.empty)])) (Tree.need NoObj (Tree.ite true (Tree.at (Cfg.mk (sl (176 : Nat) [((0 : Nat), AV.s (SV.bool false)), ((8 : Nat), AV.s (SV.int IntKind.i64 (5 : Int))), ((10 : Nat), AV.s (SV.int IntKind.i64 (5 : Int))), ((12 : Nat), AV.s (SV.int IntKind.i64 (5 : Int))), ((14 : Nat), AV.s (SV.int IntKind.i64 (5 : Int))), ((16 : Nat), AV.ptr (0 : Nat) (0 : Nat)), ((17 : Nat), AV.s (SV.int IntKind.i64 (0 : Int))), ((19 : Nat), AV.s (SV.int IntKind.i64 (4 : Int))), ((135 : Nat), AV.s (SV.bool true)), ((136 : Nat), AV.agg [AV.s (SV.bool false), AV.s (SV.int IntKind.i64 (0 : Int)), AV.s (SV.int IntKind.i64 (0 : Int))])]) [AObj.own [AV.s (SV.bool true), AV.s (SV.int IntKind.i64 (1099511627776 : Int)), AV.s (SV.int IntKind.i64 (1023 : Int))] (23 : Nat)] (cal Try.f4 (15 : Nat) (14 : Nat)) (Stk.mk none false (0 : Nat) [] (15 : Nat)))) (Tree.ret [AObj.own [AV.s (SV.bool true), AV.s (SV.int IntKind.i64 (1099511627776 : Int)), AV.s (SV.int IntKind.i64 (1023 : Int))] (23 : Nat)] (AV.s (SV.blit false)))))) (Tree.ret [AObj.own [AV.s (SV.bool true), AV.s (SV.int IntKind.i64 (1099511627776 : Int)), AV.s (SV.int IntKind.i64 (1023 : Int))] (23 : Nat)] (AV.s (SV.blit false))) := by kernel_rfl
noncomputable def pn_c19 : Cfg := Cfg.mk (sl (176 : Nat) [((0 : Nat), AV.s (SV.bool false)), ((8 : Nat), AV.s (SV.int IntKind.i64 (5 : Int))), ((10 : Nat), AV.s (SV.int IntKind.i64 (5 : Int))), ((12 : Nat), AV.s (SV.int IntKind.i64 (5 : Int))), ((14 : Nat), AV.s (SV.int IntKind.i64 (5 : Int))), ((16 : Nat), AV.ptr (0 : Nat) (0 : Nat)), ((17 : Nat), AV.s (SV.int IntKind.i64 (0 : Int))), ((19 : Nat), AV.s (SV.int IntKind.i64 (4 : Int))), ((135 : Nat), AV.s (SV.bool true)), ((136 : Nat), AV.agg [AV.s (SV.bool false), AV.s (SV.int IntKind.i64 (0 : Int)), AV.s (SV.int IntKind.i64 (0 : Int))])]) [AObj.own [AV.s (SV.bool true), AV.s (SV.int IntKind.i64 (1099511627776 : Int)), AV.s (SV.int IntKind.i64 (1023 : Int))] (23 : Nat)] (cal Try.f4 (15 : Nat) (14 : Nat)) (Stk.mk none false (0 : Nat) [] (15 : Nat))
theorem pn_t19 : run (P) (tabPl.sum) (Try.f4) (nsPN) pn_c19 ([(11 : FuncId)]) =
  Tree.ite true (Tree.need (Slf (some [AV.s SV.nilp, AV.s (SV.int IntKind.i64 (0 : Int)), AV.agg [AV.s (SV.bool false), AV.s (SV.int IntKind.i64 (0 : Int)), AV.s (SV.int IntKind.i64 (0 : Int))]])) (Tree.need NoObj (Tree.ite true (Tree.need (Slf (some [AV.s SV.nilp])) (Tree.need NoObj (Tree.ite true (Tree.ite true (Tree.ite true (Tree.ite true (Tree.ite true (Tree.ite true (Tree.ite true (Tree.ite true (Tree.at (Cfg.mk (sl (176 : Nat) [((0 : Nat), AV.s (SV.bool false)), ((173 : Nat), AV.s (SV.bool true))]) [] (cal Try.f4 (15 : Nat) (51 : Nat)) (Stk.mk none false (0 : Nat) [] (15 : Nat)))) (Tree.ret [AObj.own [AV.s (SV.bool true), AV.s (SV.int IntKind.i64 (1099511627776 : Int)), AV.s (SV.int IntKind.i64 (1023 : Int))] (23 : Nat)] (AV.s (SV.blit false)))) (Tree.ret [AObj.own [AV.s (SV.bool true), AV.s (SV.int IntKind.i64 (1099511627776 : Int)), AV.s (SV.int IntKind.i64 (1023 : Int))] (23 : Nat)] (AV.s (SV.blit false)))) (Tree.ret [AObj.own [AV.s (SV.bool true), AV.s (SV.int IntKind.i64 (1099511627776 : Int)), AV.s (SV.int IntKind.i64 (1023 : Int))] (23 : Nat)] (AV.s (SV.blit false)))) (Tree.ret [AObj.own [AV.s (SV.bool true), AV.s (SV.int IntKind.i64 (1099511627776 : Int)), AV.s (SV.int IntKind.i64 (1023 : Int))] (23 : Nat)] (AV.s (SV.blit false)))) (Tree.ret [AObj.own [AV.s (SV.bool true), AV.s (SV.int IntKind.i64 (1099511627776 : Int)), AV.s (SV.int IntKind.i64 (1023 : Int))] (23 : Nat)] (AV.s (SV.blit false)))) (Tree.ret [AObj.own [AV.s (SV.bool true), AV.s (SV.int IntKind.i64 (1099511627776 : Int)), AV.s (SV.int IntKind.i64 (1023 : Int))] (23 : Nat)] (AV.s (SV.blit false)))) (Tree.ret [AObj.own [AV.s (SV.bool true), AV.s (SV.int IntKind.i64 (1099511627776 : Int)), AV.s (SV.int IntKind.i64 (1023 : Int))] (23 : Nat)] (AV.s (SV.blit false)))) (Tree.ret [AObj.own [AV.s (SV.bool true), AV.s (SV.int IntKind.i64 (1099511627776 : Int)), AV.s (SV.int IntKind.i64 (1023 : Int))] (23 : Nat)] (AV.s (SV.blit false)))))) (Tree.ret [AObj.own [AV.s (SV.bool true), AV.s (SV.int IntKind.i64 (1099511627776 : Int)), AV.s (SV.int IntKind.i64 (1023 : Int))] (23 : Nat)] (AV.s (SV.blit false)))))) (Tree.ret [AObj.own [AV.s (SV.bool true), AV.s (SV.int IntKind.i64 (1099511627776 : Int)), AV.s (SV.int IntKind.i64 (1023 : Int))] (23 : Nat)] (AV.s (SV.blit false))) := by kernel_rfl
noncomputable def pn_c20 : Cfg := Cfg.mk (sl (176 : Nat) [((0 : Nat), AV.s (SV.bool false)), ((173 : Nat), AV.s (SV.bool true))]) [] (cal Try.f4 (15 : Nat) (51 : Nat)) (Stk.mk none false (0 : Nat) [] (15 : Nat))
theorem pn_t20 : run (P) (tabPl.sum) (Try.f4) (nsPN) pn_c20 ([(11 : FuncId)]) =
  Tree.ite true (Tree.ret [] (AV.s (SV.bool true))) (Tree.ret [] (AV.s (SV.blit false))) := by kernel_rfl
theorem nGR_ok {Z : Glob} : FnS P Z 14 nGR := by
  refine fnS_of_safe Try.func14 (by kernel_rfl) (fun x => Nat.le_of_ble_eq_true (by kernel_rfl)) ?_
  rintro ⟨⟩ _ X hX hz
  exact goS hz hX (by simp) Tab.Ok.nil Try.func14 tnGR (endS 0 rfl (Nat.le_refl _) rfl rfl)
theorem nGW_ok {Z : Glob} : FnS P Z 16 nGW := by
  refine fnS_of_safe Try.func16 (by kernel_rfl) (fun x => Nat.le_of_ble_eq_true (by kernel_rfl)) ?_
  rintro ⟨⟩ _ X hX hz
  exact goS hz hX (by simp) Tab.Ok.nil Try.func16 tnGW (endS 0 rfl (Nat.le_refl _) rfl rfl)
theorem nGo_ok {Z : Glob} : FnS P Z 13 nGo := by
  refine fnS_of_safe Try.func13 (by kernel_rfl) (fun x => Nat.le_of_ble_eq_true (by kernel_rfl)) ?_
  rintro ⟨⟩ _ X hX hz
  exact goS hz hX (by simp) Tab.Ok.nil Try.func13 tnGo (endS 0 rfl (Nat.le_refl _) rfl rfl)
theorem nGs_ok {Z : Glob} : FnS P Z 12 nGs := by
  refine fnS_of_safe Try.func12 (by kernel_rfl) (fun x => Nat.le_of_ble_eq_true (by kernel_rfl)) ?_
  rintro ⟨⟩ _ X hX hz
  exact goS hz hX (by simp) Tab.Ok.nil Try.func12 tnGs (endS 0 rfl (Nat.le_refl _) rfl rfl)
theorem nPn_ok {Z : Glob} : FnS P Z 15 nPn := by
  refine fnS_of_safe Try.func15 (by kernel_rfl) (fun x => Nat.le_of_ble_eq_true (by kernel_rfl)) ?_
  rintro ⟨⟩ _ X hX hz
  exact goS hz hX (by simp) Tab.Ok.nil Try.func15 tnPn ⟨by decide, endS 0 rfl (Nat.le_refl _) rfl rfl⟩
theorem tabPg_ok {Z : Glob} : tabPg.Ok P Z := Tab.Ok.cons (sumIf_ok (nPn_ok.sum m0) (pn_ok.sum mAs)) (Tab.Ok.cons (sumIf_ok (nGW_ok.sum m0) (gw_ok.sum mWr)) (Tab.Ok.cons (sumIf_ok (nGs_ok.sum m0) (gs_ok.sum mGs)) (Tab.Ok.cons (sumIf_ok (nGo_ok.sum m0) (go_ok.sum mRd)) (Tab.Ok.cons (sumIf_ok (nGR_ok.sum m0) (gr_ok.sum mRd))
  (Tab.Ok.cons (read_ok.sum mRd) (Tab.Ok.cons (write_ok.sum mWr) (Tab.Ok.cons (flush_ok.sum mAs) (Tab.Ok.cons (sumFrz_ok (crash_ok.sum mCr) 1 (.bools [])) (Tab.Ok.cons (fuse_ok.sum mFu) (Tab.Ok.cons (aside_ok.sum mAs) (Tab.Ok.cons (sectors_ok.sum mAs) Tab.Ok.nil)))))))))))
theorem aw_ok {Z : Glob} : FnOk P Z 10 [] [tBool] (fun _ => []) (fun _ => (true, ())) := by
  refine fnOk_of_safe Try.func10 (by kernel_rfl) (by kernel_rfl) ?_
  rintro ⟨⟩ _ _ X hX hz
  show Safe P 10 X (Ends [tBool] (true, ())) _
  refine go hz hX tabPg_ok Try.func10 aw_t0 ?_
  refine h_need (by first | exact Nat.le_of_ble_eq_true (by kernel_rfl) | exact okD_of (by kernel_rfl) | decide | exact ⟨by decide, by decide⟩) ?_
  refine h_need (by first | exact Nat.le_of_ble_eq_true (by kernel_rfl) | exact okD_of (by kernel_rfl) | decide | exact ⟨by decide, by decide⟩) ?_
  refine h_need (by first | exact Nat.le_of_ble_eq_true (by kernel_rfl) | exact okD_of (by kernel_rfl) | decide | exact ⟨by decide, by decide⟩) ?_
  refine h_eq ?_
  refine h_eq ?_
  refine h_need (by first | exact Nat.le_of_ble_eq_true (by kernel_rfl) | exact okD_of (by kernel_rfl) | decide | exact ⟨by decide, by decide⟩) ?_
  refine h_ff ?_
  refine h_at ?_
  refine go hz hX tabPg_ok Try.func10 aw_t1 ?_
  refine h_ff ?_
  refine h_eq ?_
  refine h_eq ?_
  refine h_need (by first | exact Nat.le_of_ble_eq_true (by kernel_rfl) | exact okD_of (by kernel_rfl) | decide | exact ⟨by decide, by decide⟩) ?_
  refine h_need (by first | exact Nat.le_of_ble_eq_true (by kernel_rfl) | exact okD_of (by kernel_rfl) | decide | exact ⟨by decide, by decide⟩) ?_
  refine h_ff ?_
  refine h_at ?_
  refine go hz hX tabPg_ok Try.func10 aw_t2 ?_
  refine h_ff ?_
  refine h_eq ?_
  refine h_eq ?_
  refine h_need (by first | exact Nat.le_of_ble_eq_true (by kernel_rfl) | exact okD_of (by kernel_rfl) | decide | exact ⟨by decide, by decide⟩) ?_
  refine h_need (by first | exact Nat.le_of_ble_eq_true (by kernel_rfl) | exact okD_of (by kernel_rfl) | decide | exact ⟨by decide, by decide⟩) ?_
  refine h_ff ?_
  refine h_at ?_
  refine go hz hX tabPg_ok Try.func10 aw_t3 ?_
  refine h_eq ?_
  refine h_eq ?_
  refine h_need (by first | exact Nat.le_of_ble_eq_true (by kernel_rfl) | exact okD_of (by kernel_rfl) | decide | exact ⟨by decide, by decide⟩) ?_
  refine h_at ?_
  refine go hz hX tabPg_ok Try.func10 aw_t4 ?_
  refine h_eq ?_
  refine h_eq ?_
  refine h_need (by first | exact Nat.le_of_ble_eq_true (by kernel_rfl) | exact okD_of (by kernel_rfl) | decide | exact ⟨by decide, by decide⟩) ?_
  refine h_tt ?_
  refine h_tt ?_
  refine h_tt ?_
  refine h_tt ?_
  refine h_need (by first | exact Nat.le_of_ble_eq_true (by kernel_rfl) | exact okD_of (by kernel_rfl) | decide | exact ⟨by decide, by decide⟩) ?_
  refine h_need (by first | exact Nat.le_of_ble_eq_true (by kernel_rfl) | exact okD_of (by kernel_rfl) | decide | exact ⟨by decide, by decide⟩) ?_
  refine h_need (by first | exact Nat.le_of_ble_eq_true (by kernel_rfl) | exact okD_of (by kernel_rfl) | decide | exact ⟨by decide, by decide⟩) ?_
  refine h_tt ?_
  refine h_need (by first | exact Nat.le_of_ble_eq_true (by kernel_rfl) | exact okD_of (by kernel_rfl) | decide | exact ⟨by decide, by decide⟩) ?_
  refine h_need (by first | exact Nat.le_of_ble_eq_true (by kernel_rfl) | exact okD_of (by kernel_rfl) | decide | exact ⟨by decide, by decide⟩) ?_
  refine h_need (by first | exact Nat.le_of_ble_eq_true (by kernel_rfl) | exact okD_of (by kernel_rfl) | decide | exact ⟨by decide, by decide⟩) ?_
  refine h_ret ?_
  exact ends_bl
theorem tabPl_ok {Z : Glob} : tabPl.Ok P Z := Tab.Ok.cons aw_ok.sum tabPg_ok
theorem pageNames_ok {Z : Glob} : FnOk P Z 4 [] [tBool] (fun _ => []) (fun _ => (true, ())) := by
  refine fnOk_of_safe Try.func4 (by kernel_rfl) (by kernel_rfl) ?_
  rintro ⟨⟩ _ _ X hX hz
  show Safe P 4 X (Ends [tBool] (true, ())) _
  refine go hz hX tabPl_ok Try.func4 pn_t0 ?_
  refine h_at ?_
  refine go hz hX tabPl_ok Try.func4 pn_t1 ?_
  refine h_eq ?_
  refine h_eq ?_
  refine h_at ?_
  refine go hz hX tabPl_ok Try.func4 pn_t2 ?_
  refine h_eq ?_
  refine h_eq ?_
  refine h_need (by first | exact Nat.le_of_ble_eq_true (by kernel_rfl) | exact okD_of (by kernel_rfl) | decide | exact ⟨by decide, by decide⟩) ?_
  refine h_need (by first | exact Nat.le_of_ble_eq_true (by kernel_rfl) | exact okD_of (by kernel_rfl) | decide | exact ⟨by decide, by decide⟩) ?_
  refine h_need (by first | exact Nat.le_of_ble_eq_true (by kernel_rfl) | exact okD_of (by kernel_rfl) | decide | exact ⟨by decide, by decide⟩) ?_
  refine h_at ?_
  refine go hz hX tabPl_ok Try.func4 pn_t3 ?_
  refine h_eq ?_
  refine h_eq ?_
  refine h_need (by first | exact Nat.le_of_ble_eq_true (by kernel_rfl) | exact okD_of (by kernel_rfl) | decide | exact ⟨by decide, by decide⟩) ?_
  refine h_need (by first | exact Nat.le_of_ble_eq_true (by kernel_rfl) | exact okD_of (by kernel_rfl) | decide | exact ⟨by decide, by decide⟩) ?_
  refine h_at ?_
  refine go hz hX tabPl_ok Try.func4 pn_t4 ?_
  refine h_eq ?_
  refine h_eq ?_
  refine h_need (by first | exact Nat.le_of_ble_eq_true (by kernel_rfl) | exact okD_of (by kernel_rfl) | decide | exact ⟨by decide, by decide⟩) ?_
  refine h_need (by first | exact Nat.le_of_ble_eq_true (by kernel_rfl) | exact okD_of (by kernel_rfl) | decide | exact ⟨by decide, by decide⟩) ?_
  refine h_at ?_
  refine go hz hX tabPl_ok Try.func4 pn_t5 ?_
  refine h_eq ?_
  refine h_eq ?_
  refine h_need (by first | exact Nat.le_of_ble_eq_true (by kernel_rfl) | exact okD_of (by kernel_rfl) | decide | exact ⟨by decide, by decide⟩) ?_
  refine h_need (by first | exact Nat.le_of_ble_eq_true (by kernel_rfl) | exact okD_of (by kernel_rfl) | decide | exact ⟨by decide, by decide⟩) ?_
  refine h_at ?_
  refine go hz hX tabPl_ok Try.func4 pn_t6 ?_
  refine h_eq ?_
  refine h_eq ?_
  refine h_need (by first | exact Nat.le_of_ble_eq_true (by kernel_rfl) | exact okD_of (by kernel_rfl) | decide | exact ⟨by decide, by decide⟩) ?_
  refine h_need (by first | exact Nat.le_of_ble_eq_true (by kernel_rfl) | exact okD_of (by kernel_rfl) | decide | exact ⟨by decide, by decide⟩) ?_
  refine h_need (by first | exact Nat.le_of_ble_eq_true (by kernel_rfl) | exact okD_of (by kernel_rfl) | decide | exact ⟨by decide, by decide⟩) ?_
  refine h_need (by first | exact Nat.le_of_ble_eq_true (by kernel_rfl) | exact okD_of (by kernel_rfl) | decide | exact ⟨by decide, by decide⟩) ?_
  refine h_need (by first | exact Nat.le_of_ble_eq_true (by kernel_rfl) | exact okD_of (by kernel_rfl) | decide | exact ⟨by decide, by decide⟩) ?_
  refine h_eq ?_
  refine h_eq ?_
  refine h_need (by first | exact Nat.le_of_ble_eq_true (by kernel_rfl) | exact okD_of (by kernel_rfl) | decide | exact ⟨by decide, by decide⟩) ?_
  refine h_ff ?_
  refine h_at ?_
  refine go hz hX tabPl_ok Try.func4 pn_t7 ?_
  refine h_ff ?_
  refine h_eq ?_
  refine h_eq ?_
  refine h_need (by first | exact Nat.le_of_ble_eq_true (by kernel_rfl) | exact okD_of (by kernel_rfl) | decide | exact ⟨by decide, by decide⟩) ?_
  refine h_need (by first | exact Nat.le_of_ble_eq_true (by kernel_rfl) | exact okD_of (by kernel_rfl) | decide | exact ⟨by decide, by decide⟩) ?_
  refine h_ff ?_
  refine h_need (by first | exact Nat.le_of_ble_eq_true (by kernel_rfl) | exact okD_of (by kernel_rfl) | decide | exact ⟨by decide, by decide⟩) ?_
  refine h_at ?_
  refine go hz hX tabPl_ok Try.func4 pn_t8 ?_
  refine h_ff ?_
  refine h_eq ?_
  refine h_eq ?_
  refine h_need (by first | exact Nat.le_of_ble_eq_true (by kernel_rfl) | exact okD_of (by kernel_rfl) | decide | exact ⟨by decide, by decide⟩) ?_
  refine h_need (by first | exact Nat.le_of_ble_eq_true (by kernel_rfl) | exact okD_of (by kernel_rfl) | decide | exact ⟨by decide, by decide⟩) ?_
  refine h_ff ?_
  refine h_at ?_
  refine go hz hX tabPl_ok Try.func4 pn_t9 ?_
  refine h_ff ?_
  refine h_eq ?_
  refine h_eq ?_
  refine h_need (by first | exact Nat.le_of_ble_eq_true (by kernel_rfl) | exact okD_of (by kernel_rfl) | decide | exact ⟨by decide, by decide⟩) ?_
  refine h_need (by first | exact Nat.le_of_ble_eq_true (by kernel_rfl) | exact okD_of (by kernel_rfl) | decide | exact ⟨by decide, by decide⟩) ?_
  refine h_ff ?_
  refine h_at ?_
  refine go hz hX tabPl_ok Try.func4 pn_t10 ?_
  refine h_ff ?_
  refine h_eq ?_
  refine h_eq ?_
  refine h_need (by first | exact Nat.le_of_ble_eq_true (by kernel_rfl) | exact okD_of (by kernel_rfl) | decide | exact ⟨by decide, by decide⟩) ?_
  refine h_need (by first | exact Nat.le_of_ble_eq_true (by kernel_rfl) | exact okD_of (by kernel_rfl) | decide | exact ⟨by decide, by decide⟩) ?_
  refine h_ff ?_
  refine h_at ?_
  refine go hz hX tabPl_ok Try.func4 pn_t11 ?_
  refine h_ff ?_
  refine h_eq ?_
  refine h_eq ?_
  refine h_need (by first | exact Nat.le_of_ble_eq_true (by kernel_rfl) | exact okD_of (by kernel_rfl) | decide | exact ⟨by decide, by decide⟩) ?_
  refine h_need (by first | exact Nat.le_of_ble_eq_true (by kernel_rfl) | exact okD_of (by kernel_rfl) | decide | exact ⟨by decide, by decide⟩) ?_
  refine h_ff ?_
  refine h_at ?_
  refine go hz hX tabPl_ok Try.func4 pn_t12 ?_
  refine h_ff ?_
  refine h_eq ?_
  refine h_eq ?_
  refine h_need (by first | exact Nat.le_of_ble_eq_true (by kernel_rfl) | exact okD_of (by kernel_rfl) | decide | exact ⟨by decide, by decide⟩) ?_
  refine h_need (by first | exact Nat.le_of_ble_eq_true (by kernel_rfl) | exact okD_of (by kernel_rfl) | decide | exact ⟨by decide, by decide⟩) ?_
  refine h_ff ?_
  refine h_at ?_
  refine go hz hX tabPl_ok Try.func4 pn_t13 ?_
  refine h_ff ?_
  refine h_eq ?_
  refine h_eq ?_
  refine h_need (by first | exact Nat.le_of_ble_eq_true (by kernel_rfl) | exact okD_of (by kernel_rfl) | decide | exact ⟨by decide, by decide⟩) ?_
  refine h_need (by first | exact Nat.le_of_ble_eq_true (by kernel_rfl) | exact okD_of (by kernel_rfl) | decide | exact ⟨by decide, by decide⟩) ?_
  refine h_ff ?_
  refine h_at ?_
  refine go hz hX tabPl_ok Try.func4 pn_t14 ?_
  refine h_ff ?_
  refine h_eq ?_
  refine h_eq ?_
  refine h_need (by first | exact Nat.le_of_ble_eq_true (by kernel_rfl) | exact okD_of (by kernel_rfl) | decide | exact ⟨by decide, by decide⟩) ?_
  refine h_need (by first | exact Nat.le_of_ble_eq_true (by kernel_rfl) | exact okD_of (by kernel_rfl) | decide | exact ⟨by decide, by decide⟩) ?_
  refine h_ff ?_
  refine h_at ?_
  refine go hz hX tabPl_ok Try.func4 pn_t15 ?_
  refine h_ff ?_
  refine h_eq ?_
  refine h_eq ?_
  refine h_need (by first | exact Nat.le_of_ble_eq_true (by kernel_rfl) | exact okD_of (by kernel_rfl) | decide | exact ⟨by decide, by decide⟩) ?_
  refine h_need (by first | exact Nat.le_of_ble_eq_true (by kernel_rfl) | exact okD_of (by kernel_rfl) | decide | exact ⟨by decide, by decide⟩) ?_
  refine h_ff ?_
  refine h_at ?_
  refine go hz hX tabPl_ok Try.func4 pn_t16 ?_
  refine h_eq ?_
  refine h_eq ?_
  refine h_need (by first | exact Nat.le_of_ble_eq_true (by kernel_rfl) | exact okD_of (by kernel_rfl) | decide | exact ⟨by decide, by decide⟩) ?_
  refine h_need (by first | exact Nat.le_of_ble_eq_true (by kernel_rfl) | exact okD_of (by kernel_rfl) | decide | exact ⟨by decide, by decide⟩) ?_
  refine h_at ?_
  refine go hz hX tabPl_ok Try.func4 pn_t17 ?_
  refine h_eq ?_
  refine h_eq ?_
  refine h_need (by first | exact Nat.le_of_ble_eq_true (by kernel_rfl) | exact okD_of (by kernel_rfl) | decide | exact ⟨by decide, by decide⟩) ?_
  refine h_need (by first | exact Nat.le_of_ble_eq_true (by kernel_rfl) | exact okD_of (by kernel_rfl) | decide | exact ⟨by decide, by decide⟩) ?_
  refine h_tt ?_
  refine h_tt ?_
  refine h_at ?_
  refine go hz hX tabPl_ok Try.func4 pn_t18 ?_
  refine h_tt ?_
  refine h_eq ?_
  refine h_eq ?_
  refine h_tt ?_
  refine h_at ?_
  refine go hz hX tabPl_ok Try.func4 pn_t19 ?_
  refine h_tt ?_
  refine h_eq ?_
  refine h_eq ?_
  refine h_tt ?_
  refine h_eq ?_
  refine h_eq ?_
  refine h_tt ?_
  refine h_tt ?_
  refine h_tt ?_
  refine h_tt ?_
  refine h_tt ?_
  refine h_tt ?_
  refine h_tt ?_
  refine h_tt ?_
  refine h_at ?_
  refine go hz hX tabPl_ok Try.func4 pn_t20 ?_
  refine h_tt ?_
  refine h_ret ?_
  exact ends_bl
end Ds

/-! Pages and roots, plain laws: what is read behind what was set. -/
namespace Ds
open Go Go.Sx Go.Proofs Lf
def okMk (ep pg : Int) : Prop := 0 ≤ ep ∧ ep ≤ 1099511627776 ∧ 0 ≤ pg ∧ pg < 1024
theorem u64_nn (n : Int) : 0 ≤ IntKind.u64.wrap n := by
  show 0 ≤ n % 18446744073709551616
  omega
theorem byteAt_bytes {ws : List Int} {i : Nat} (hi : i < ws.length) (h : 0 ≤ ws.getD i 0 ∧ ws.getD i 0 ≤ 255) : byteAt (bytesStr ws) i = ws.getD i 0 := by
  have e : byteAt (bytesStr ws) i = (((ws.map fun n => UInt8.ofNat n.toNat).getD i 0).toNat : Int) := rfl
  have e2 : (ws.map fun n => UInt8.ofNat n.toNat).getD i 0 = UInt8.ofNat (ws.getD i 0).toNat := by
    rw [getD_lt (by simpa using hi), getD_lt hi, List.getElem_map]
  rw [e, e2, UInt8.toNat_ofNat']
  omega
theorem strInts_bytes {ws : List Int} (h : ∀ x ∈ ws, 0 ≤ x ∧ x ≤ 255) : strInts (bytesStr ws) = ws := by
  simp only [bytesStr, strInts, List.map_map]
  refine (List.map_congr_left fun b hb => ?_).trans (List.map_id ws)
  have := h b hb
  simp only [Function.comp, UInt8.toNat_ofNat', id]
  omega
theorem mkB_byte (on : Bool) (ep pg : Int) : ∀ x ∈ mkB on ep pg, 0 ≤ x ∧ x ≤ 255 := by
  intro x hx
  simp only [mkB, List.mem_append, List.mem_cons, List.mem_replicate, List.not_mem_nil, or_false] at hx
  rcases hx with (rfl | rfl | rfl | rfl | rfl | rfl | rfl | rfl | rfl | rfl | rfl) | ⟨_, rfl⟩
  · split <;> omega
  all_goals omega
theorem mk_byte (on : Bool) (ep pg : Int) {i : Nat} (hi : i < 64) : byteAt (mkS on ep pg) i = (mkB on ep pg).getD i 0 := by
  have hl : i < (mkB on ep pg).length := hi
  refine byteAt_bytes hl ?_
  rw [getD_lt hl]
  exact mkB_byte on ep pg _ (List.getElem_mem hl)
theorem rt_mk {on : Bool} {ep pg : Int} (h : okMk ep pg) : rtOn (mkS on ep pg) = on ∧ rtEp (mkS on ep pg) = ep ∧ rtPg (mkS on ep pg) = pg := by
  obtain ⟨h0, h1, h2, h3⟩ := h
  have b := fun (i : Nat) (hi : i < 64) => mk_byte on ep pg hi
  have e8 : epN (mkS on ep pg) 8 = ep := by
    simp only [epN, b 1 (by decide), b 2 (by decide), b 3 (by decide), b 4 (by decide), b 5 (by decide), b 6 (by decide), b 7 (by decide), b 8 (by decide)]
    show ((((((((0 * 256 + ep / 72057594037927936 % 256) * 256 + ep / 281474976710656 % 256) * 256 + ep / 1099511627776 % 256) * 256 + ep / 4294967296 % 256) * 256 + ep / 16777216 % 256) * 256 + ep / 65536 % 256) * 256 + ep / 256 % 256) * 256 + ep % 256) = ep
    omega
  have et : pgT (mkS on ep pg) = pg := by
    unfold pgT
    rw [b 9 (by decide), b 10 (by decide)]
    show pg / 256 % 256 * 256 + pg % 256 = pg
    omega
  refine ⟨?_, ?_, ?_⟩
  · unfold rtOn
    rw [b 0 (by decide)]
    show ((if on = true then 1 else 0 : Int) == 1) = on
    cases on <;> rfl
  · unfold rtEp; rw [e8, if_neg (by omega)]
  · unfold rtPg; rw [et, if_neg (by omega)]
theorem ro_of {th : Th} {m : As} {k : Int} {s : ByteArray} (hr : roC th k = 0) (hs : rdS th m (k * 4) = s) : roOn th m k = rtOn s ∧ roEp th m k = rtEp s ∧ roPg th m k = rtPg s := by
  unfold roOn roEp roPg
  rw [hr, hs, if_pos rfl, if_pos rfl]
  exact ⟨by simp, rfl, rfl⟩
theorem roC_zero {th : Th} {k : Int} : roC th k = 0 ↔ 0 ≤ k ∧ k ≤ 1 ∧ k < pgN th := by
  unfold roC
  split
  · rename_i h; simp [h]
  · rename_i h; exact ⟨fun h2 => absurd h2 (by decide), fun h2 => absurd h2 h⟩
theorem roC_in {th : Th} {k : Int} (h : roC th k = 0) : inTh th (k * 4) = true := by
  obtain ⟨h0, h1, h2⟩ := roC_zero.1 h
  have := pgN_le th
  exact inTh_iff.2 ⟨by omega, by omega⟩
theorem sr_yes {th : Th} {m : As} {fu k ep pg : Int} {on : Bool} (hd : okD th m fu) (hf : fu ≠ 0) (hk : roC th k = 0) (h : okMk ep pg) :
    srE th fu k on ep pg = 0 ∧ srF th fu k on ep pg = burnF fu ∧ ∀ x, rdS th (srM th m fu k on ep pg) x = if x = k * 4 then mkS on ep pg else rdS th m x := by
  obtain ⟨h0, h1, h2, h3⟩ := h
  have hc : srC th k ep pg = 0 := by unfold srC; rw [hk, if_pos rfl, if_neg (by omega)]
  have hin := roC_in hk
  have hw : wrE th fu (k * 4) (mkS on ep pg) = 0 := wrE_zero.2 ⟨hin, mkS_size _ _ _, hf⟩
  unfold srE srF srM
  rw [hc, if_pos rfl, if_pos rfl, if_pos rfl]
  refine ⟨hw, ?_, fun x => ?_⟩
  · unfold wrF; rw [if_pos ⟨hin, mkS_size _ _ _⟩]
  · rw [rd_wr hd]
    by_cases hx : x = k * 4
    · rw [if_pos ⟨hw, hx⟩, if_pos hx]
    · rw [if_neg (fun h => hx h.2), if_neg hx]
theorem sr_no {th : Th} {m : As} {fu k ep pg : Int} {on : Bool} (hk : roC th k = 0) (h : ¬ okMk ep pg) :
    srE th fu k on ep pg = 1 ∧ srF th fu k on ep pg = fu ∧ srM th m fu k on ep pg = m := by
  have hc : srC th k ep pg = 1 := by unfold srC; rw [hk, if_pos rfl, if_pos (by unfold okMk at h; omega)]
  unfold srE srF srM
  rw [hc, if_neg (by decide), if_neg (by decide), if_neg (by decide)]
  exact ⟨rfl, rfl, rfl⟩
theorem rd_zero {n : Nat} {x : Int} (h0 : 0 ≤ x) (h1 : x < (n : Int)) : rdS (List.replicate n (CL.d cS)) [] x = bytesStr (List.replicate 64 0) := by
  unfold rdS
  rw [if_pos (inTh_iff.2 ⟨h0, by simpa using h1⟩)]
  have : nowS (List.replicate n (CL.d cS)) [] x = arrOf ((List.replicate n (CL.d cS)).getD x.toNat (CL.d cS)) := rfl
  rw [this, getD_lt (by simp; omega), List.getElem_replicate]
  rfl
theorem rt_zero : rtOn (bytesStr (List.replicate 64 0)) = false ∧ rtEp (bytesStr (List.replicate 64 0)) = 0 ∧ rtPg (bytesStr (List.replicate 64 0)) = 0 := ⟨by kernel_rfl, by kernel_rfl, by kernel_rfl⟩
theorem pgN_of {th : Th} {n : Nat} (h : th.length = n) : pgN th = (n : Int) / 4 := by
  unfold pgN; rw [h, Int.tdiv_eq_ediv_of_nonneg (by omega)]
theorem burn_live : burnF (-1) = -1 := rfl
end Ds

namespace Ds
open Go Go.Sx Go.Proofs Lf
/-! PageRoots -/
abbrev tMk : Ty := .st [.bool, .int .i64, .int .i64]
abbrev inN : List FuncId := [11, 25]
abbrev eMk : TypeId := 23
abbrev obM (on : Bool) (ep pg : Int) : AObj := .own [.s (.bool on), avI ep, avI pg] eMk
def nsPr : List (Nat × Norm) := [(7, ⟨[], [3, 4, 7, 9, 10], 0, []⟩), (8, ⟨[], [3, 4, 7, 9, 10, 11, 12], 0, []⟩), (10, ⟨[], [3, 4, 11, 12, 13, 14, 15, 16], 0, []⟩), (12, ⟨[], [3, 4, 11, 12, 13, 15], 0, []⟩)]
theorem trPr (on : Bool) (ep pg : Int) (on' : Bool) (ep' pg' : Int) (k : Int) : run P tabPl.sum Try.f3 nsPr (start Try.f3 [avM on ep pg, avM on' ep' pg', .s (.int .u8 k)] []) inN =
  Tree.ite false (Tree.ret [AObj.own [AV.s (SV.bool on), AV.s (SV.int IntKind.i64 ep), AV.s (SV.int IntKind.i64 pg)] (23 : Nat), AObj.own [AV.s (SV.bool on'), AV.s (SV.int IntKind.i64 ep'), AV.s (SV.int IntKind.i64 pg')] (23 : Nat)] (AV.s (SV.blit false))) (Tree.need ((0 : Int) ≤ (12 : Int)) (Tree.need ((12 : Int) ≤ (12 : Int)) (Tree.need ((12 : Int) ≤ (1073741824 : Int)) (Tree.need ((2 : Int) ≠ (0 : Int)) (Tree.need (inI64 (k.tmod (2 : Int))) (Tree.need ((2 : Int) ≠ (0 : Int)) (Tree.need (inI64 (IntKind.u8.wrap ((1 : Int) - k.tmod (2 : Int)))) (Tree.at (Cfg.mk (sl (107 : Nat) [((3 : Nat), AV.ptr (0 : Nat) (0 : Nat)), ((4 : Nat), AV.ptr (1 : Nat) (0 : Nat)), ((7 : Nat), AV.ptr (2 : Nat) (0 : Nat)), ((9 : Nat), AV.s (SV.int IntKind.i64 (k.tmod (2 : Int)))), ((10 : Nat), AV.s (SV.int IntKind.i64 (IntKind.u8.wrap ((1 : Int) - k.tmod (2 : Int)))))]) [AObj.own [AV.s (SV.bool on), AV.s (SV.int IntKind.i64 ep), AV.s (SV.int IntKind.i64 pg)] (23 : Nat), AObj.own [AV.s (SV.bool on'), AV.s (SV.int IntKind.i64 ep'), AV.s (SV.int IntKind.i64 pg')] (23 : Nat), AObj.own [AV.vec (3 : Nat), AV.mapv (4 : Nat), AV.s (SV.int IntKind.i64 (-1 : Int))] (90 : Nat), AObj.vec (Con.typ [CK.arr IntKind.u8 (64 : Nat)] (List.replicate (Int.toNat (12 : Int)) (CL.d [CK.arr IntKind.u8 (64 : Nat)]))) (108 : Nat), AObj.map (CK.arr IntKind.u8 (64 : Nat)) []] (hr Try.f3 (7 : Nat)) (Stk.mk none false (0 : Nat) [] (0 : Nat))))))))))) := by kernel_rfl
noncomputable def cPr7 (on : Bool) (ep pg : Int) (on' : Bool) (ep' pg' : Int) (th : Th) (a b : Int) : Cfg := ⟨sl 107 [(3, .ptr 0 0), (4, .ptr 1 0), (7, .ptr 2 0), (9, avI a), (10, avI b)], [obM on ep pg, obM on' ep' pg', obD 3 4 (-1), .vec (.typ cS th) eS, .map kS []], hr Try.f3 7, {}⟩
theorem trPr7 (on : Bool) (ep pg : Int) (on' : Bool) (ep' pg' : Int) (th : Th) (a b : Int) : run P tabPl.sum Try.f3 nsPr (cPr7 on ep pg on' ep' pg' th a b) inN =
  Tree.need (Slf (some [AV.ptr (0 : Nat) (0 : Nat), AV.s (SV.int IntKind.i64 a), AV.agg [AV.s (SV.bool on), AV.s (SV.int IntKind.i64 ep), AV.s (SV.int IntKind.i64 pg)]])) (Tree.need (Slf (some [AObj.own [AV.vec (1 : Nat), AV.mapv (2 : Nat), AV.s (SV.int IntKind.i64 (-1 : Int))] (90 : Nat), AObj.vec (Con.typ [CK.arr IntKind.u8 (64 : Nat)] th) (108 : Nat), AObj.map (CK.arr IntKind.u8 (64 : Nat)) []])) (Tree.need (okD th [] (-1 : Int)) (Tree.need (inI64 a) (Tree.need (Slf (some [AV.ptr (0 : Nat) (0 : Nat), AV.s (SV.int IntKind.i64 b), AV.agg [AV.s (SV.bool on'), AV.s (SV.int IntKind.i64 ep'), AV.s (SV.int IntKind.i64 pg')]])) (Tree.need (Slf (some [AObj.own [AV.vec (1 : Nat), AV.mapv (2 : Nat), AV.s (SV.int IntKind.i64 (srF th (-1 : Int) a on ep pg))] (90 : Nat), AObj.vec (Con.typ [CK.arr IntKind.u8 (64 : Nat)] th) (108 : Nat), AObj.map (CK.arr IntKind.u8 (64 : Nat)) (srM th [] (-1 : Int) a on ep pg)])) (Tree.need (okD th (srM th [] (-1 : Int) a on ep pg) (srF th (-1 : Int) a on ep pg)) (Tree.need (inI64 b) (Tree.at (Cfg.mk (sl (107 : Nat) [((3 : Nat), AV.ptr (0 : Nat) (0 : Nat)), ((4 : Nat), AV.ptr (1 : Nat) (0 : Nat)), ((7 : Nat), AV.ptr (2 : Nat) (0 : Nat)), ((9 : Nat), AV.s (SV.int IntKind.i64 a)), ((10 : Nat), AV.s (SV.int IntKind.i64 b)), ((11 : Nat), AV.s (SV.int IntKind.i64 (srE th (-1 : Int) a on ep pg))), ((12 : Nat), AV.s (SV.int IntKind.i64 (srE th (srF th (-1 : Int) a on ep pg) b on' ep' pg')))]) [AObj.own [AV.s (SV.bool on), AV.s (SV.int IntKind.i64 ep), AV.s (SV.int IntKind.i64 pg)] (23 : Nat), AObj.own [AV.s (SV.bool on'), AV.s (SV.int IntKind.i64 ep'), AV.s (SV.int IntKind.i64 pg')] (23 : Nat), AObj.own [AV.vec (3 : Nat), AV.mapv (4 : Nat), AV.s (SV.int IntKind.i64 (srF th (srF th (-1 : Int) a on ep pg) b on' ep' pg'))] (90 : Nat), AObj.vec (Con.typ [CK.arr IntKind.u8 (64 : Nat)] th) (108 : Nat), AObj.map (CK.arr IntKind.u8 (64 : Nat)) (srM th (srM th [] (-1 : Int) a on ep pg) (srF th (-1 : Int) a on ep pg) b on' ep' pg')] (hr Try.f3 (8 : Nat)) (Stk.mk none false (0 : Nat) [] (0 : Nat))))))))))) := by kernel_rfl
noncomputable def cPr8 (on : Bool) (ep pg : Int) (on' : Bool) (ep' pg' : Int) (th : Th) (m : As) (fu a b e e' : Int) : Cfg := ⟨sl 107 [(3, .ptr 0 0), (4, .ptr 1 0), (7, .ptr 2 0), (9, avI a), (10, avI b), (11, avI e), (12, avI e')], [obM on ep pg, obM on' ep' pg', obD 3 4 fu, .vec (.typ cS th) eS, .map kS m], hr Try.f3 8, {}⟩
theorem trPr8 (on : Bool) (ep pg : Int) (on' : Bool) (ep' pg' : Int) (th : Th) (m : As) (fu a b e e' : Int) : run P tabPl.sum Try.f3 nsPr (cPr8 on ep pg on' ep' pg' th m fu a b e e') inN =
  Tree.need (Slf (some [AV.ptr (0 : Nat) (0 : Nat), AV.s (SV.int IntKind.i64 a)])) (Tree.need (Slf (some [AObj.own [AV.vec (1 : Nat), AV.mapv (2 : Nat), AV.s (SV.int IntKind.i64 fu)] (90 : Nat), AObj.vec (Con.typ [CK.arr IntKind.u8 (64 : Nat)] th) (108 : Nat), AObj.map (CK.arr IntKind.u8 (64 : Nat)) m])) (Tree.need (okD th m fu) (Tree.need (inI64 a) (Tree.need (Slf (some [AV.ptr (0 : Nat) (0 : Nat), AV.s (SV.int IntKind.i64 b)])) (Tree.need (Slf (some [AObj.own [AV.vec (1 : Nat), AV.mapv (2 : Nat), AV.s (SV.int IntKind.i64 fu)] (90 : Nat), AObj.vec (Con.typ [CK.arr IntKind.u8 (64 : Nat)] th) (108 : Nat), AObj.map (CK.arr IntKind.u8 (64 : Nat)) m])) (Tree.need (okD th m fu) (Tree.need (inI64 b) (Tree.at (Cfg.mk (sl (107 : Nat) [((3 : Nat), AV.ptr (0 : Nat) (0 : Nat)), ((4 : Nat), AV.ptr (1 : Nat) (0 : Nat)), ((11 : Nat), AV.s (SV.int IntKind.i64 e)), ((12 : Nat), AV.s (SV.int IntKind.i64 e')), ((13 : Nat), AV.ptr (2 : Nat) (0 : Nat)), ((14 : Nat), AV.s (SV.int IntKind.i64 (roC th a))), ((15 : Nat), AV.ptr (3 : Nat) (0 : Nat)), ((16 : Nat), AV.s (SV.int IntKind.i64 (roC th b)))]) [AObj.own [AV.s (SV.bool on), AV.s (SV.int IntKind.i64 ep), AV.s (SV.int IntKind.i64 pg)] (23 : Nat), AObj.own [AV.s (SV.bool on'), AV.s (SV.int IntKind.i64 ep'), AV.s (SV.int IntKind.i64 pg')] (23 : Nat), AObj.own [AV.s (SV.bool (roOn th m a)), AV.s (SV.int IntKind.i64 (roEp th m a)), AV.s (SV.int IntKind.i64 (roPg th m a))] (23 : Nat), AObj.own [AV.s (SV.bool (roOn th m b)), AV.s (SV.int IntKind.i64 (roEp th m b)), AV.s (SV.int IntKind.i64 (roPg th m b))] (23 : Nat)] (hr Try.f3 (10 : Nat)) (Stk.mk none false (0 : Nat) [] (0 : Nat))))))))))) := by kernel_rfl
noncomputable def cPr10 (on : Bool) (ep pg : Int) (on' : Bool) (ep' pg' : Int) (e e' : Int) (x : Bool) (xe xp xr : Int) (y : Bool) (ye yp yr : Int) : Cfg := ⟨sl 107 [(3, .ptr 0 0), (4, .ptr 1 0), (11, avI e), (12, avI e'), (13, .ptr 2 0), (14, avI xr), (15, .ptr 3 0), (16, avI yr)], [obM on ep pg, obM on' ep' pg', obM x xe xp, obM y ye yp], hr Try.f3 10, {}⟩
theorem trPr10 (on : Bool) (ep pg : Int) (on' : Bool) (ep' pg' : Int) (e e' : Int) (x : Bool) (xe xp xr : Int) (y : Bool) (ye yp yr : Int) : run P tabPl.sum Try.f3 nsPr (cPr10 on ep pg on' ep' pg' e e' x xe xp xr y ye yp yr) inN =
  Tree.ite (xr != (0 : Int)) (Tree.ret [AObj.own [AV.s (SV.bool on), AV.s (SV.int IntKind.i64 ep), AV.s (SV.int IntKind.i64 pg)] (23 : Nat), AObj.own [AV.s (SV.bool on'), AV.s (SV.int IntKind.i64 ep'), AV.s (SV.int IntKind.i64 pg')] (23 : Nat), AObj.own [AV.s (SV.bool x), AV.s (SV.int IntKind.i64 xe), AV.s (SV.int IntKind.i64 xp)] (23 : Nat), AObj.own [AV.s (SV.bool y), AV.s (SV.int IntKind.i64 ye), AV.s (SV.int IntKind.i64 yp)] (23 : Nat)] (AV.s (SV.blit false)))
  (Tree.ite (yr != (0 : Int)) (Tree.ret [AObj.own [AV.s (SV.bool on), AV.s (SV.int IntKind.i64 ep), AV.s (SV.int IntKind.i64 pg)] (23 : Nat), AObj.own [AV.s (SV.bool on'), AV.s (SV.int IntKind.i64 ep'), AV.s (SV.int IntKind.i64 pg')] (23 : Nat), AObj.own [AV.s (SV.bool x), AV.s (SV.int IntKind.i64 xe), AV.s (SV.int IntKind.i64 xp)] (23 : Nat), AObj.own [AV.s (SV.bool y), AV.s (SV.int IntKind.i64 ye), AV.s (SV.int IntKind.i64 yp)] (23 : Nat)] (AV.s (SV.blit false)))
    (Tree.ite (decide (ep ≥ (0 : Int))) (Tree.ite (decide (ep ≤ (1099511627776 : Int))) (Tree.ite (decide (pg ≥ (0 : Int))) (Tree.ite (!(e == (0 : Int)) == decide (pg < (1024 : Int))) (Tree.ret [AObj.own [AV.s (SV.bool on), AV.s (SV.int IntKind.i64 ep), AV.s (SV.int IntKind.i64 pg)] (23 : Nat), AObj.own [AV.s (SV.bool on'), AV.s (SV.int IntKind.i64 ep'), AV.s (SV.int IntKind.i64 pg')] (23 : Nat), AObj.own [AV.s (SV.bool x), AV.s (SV.int IntKind.i64 xe), AV.s (SV.int IntKind.i64 xp)] (23 : Nat), AObj.own [AV.s (SV.bool y), AV.s (SV.int IntKind.i64 ye), AV.s (SV.int IntKind.i64 yp)] (23 : Nat)] (AV.s (SV.blit false))) (Tree.at (Cfg.mk (sl (107 : Nat) [((3 : Nat), AV.ptr (0 : Nat) (0 : Nat)), ((4 : Nat), AV.ptr (1 : Nat) (0 : Nat)), ((11 : Nat), AV.s (SV.int IntKind.i64 e)), ((12 : Nat), AV.s (SV.int IntKind.i64 e')), ((13 : Nat), AV.ptr (2 : Nat) (0 : Nat)), ((15 : Nat), AV.ptr (3 : Nat) (0 : Nat))]) [AObj.own [AV.s (SV.bool on), AV.s (SV.int IntKind.i64 ep), AV.s (SV.int IntKind.i64 pg)] (23 : Nat), AObj.own [AV.s (SV.bool on'), AV.s (SV.int IntKind.i64 ep'), AV.s (SV.int IntKind.i64 pg')] (23 : Nat), AObj.own [AV.s (SV.bool x), AV.s (SV.int IntKind.i64 xe), AV.s (SV.int IntKind.i64 xp)] (23 : Nat), AObj.own [AV.s (SV.bool y), AV.s (SV.int IntKind.i64 ye), AV.s (SV.int IntKind.i64 yp)] (23 : Nat)] (hr Try.f3 (12 : Nat)) (Stk.mk none false (0 : Nat) [] (0 : Nat))))) (Tree.ite (!(e == (0 : Int)) == false) (Tree.ret [AObj.own [AV.s (SV.bool on), AV.s (SV.int IntKind.i64 ep), AV.s (SV.int IntKind.i64 pg)] (23 : Nat), AObj.own [AV.s (SV.bool on'), AV.s (SV.int IntKind.i64 ep'), AV.s (SV.int IntKind.i64 pg')] (23 : Nat), AObj.own [AV.s (SV.bool x), AV.s (SV.int IntKind.i64 xe), AV.s (SV.int IntKind.i64 xp)] (23 : Nat), AObj.own [AV.s (SV.bool y), AV.s (SV.int IntKind.i64 ye), AV.s (SV.int IntKind.i64 yp)] (23 : Nat)] (AV.s (SV.blit false))) (Tree.at (Cfg.mk (sl (107 : Nat) [((3 : Nat), AV.ptr (0 : Nat) (0 : Nat)), ((4 : Nat), AV.ptr (1 : Nat) (0 : Nat)), ((11 : Nat), AV.s (SV.int IntKind.i64 e)), ((12 : Nat), AV.s (SV.int IntKind.i64 e')), ((13 : Nat), AV.ptr (2 : Nat) (0 : Nat)), ((15 : Nat), AV.ptr (3 : Nat) (0 : Nat))]) [AObj.own [AV.s (SV.bool on), AV.s (SV.int IntKind.i64 ep), AV.s (SV.int IntKind.i64 pg)] (23 : Nat), AObj.own [AV.s (SV.bool on'), AV.s (SV.int IntKind.i64 ep'), AV.s (SV.int IntKind.i64 pg')] (23 : Nat), AObj.own [AV.s (SV.bool x), AV.s (SV.int IntKind.i64 xe), AV.s (SV.int IntKind.i64 xp)] (23 : Nat), AObj.own [AV.s (SV.bool y), AV.s (SV.int IntKind.i64 ye), AV.s (SV.int IntKind.i64 yp)] (23 : Nat)] (hr Try.f3 (12 : Nat)) (Stk.mk none false (0 : Nat) [] (0 : Nat)))))) (Tree.ite (!(e == (0 : Int)) == false) (Tree.ret [AObj.own [AV.s (SV.bool on), AV.s (SV.int IntKind.i64 ep), AV.s (SV.int IntKind.i64 pg)] (23 : Nat), AObj.own [AV.s (SV.bool on'), AV.s (SV.int IntKind.i64 ep'), AV.s (SV.int IntKind.i64 pg')] (23 : Nat), AObj.own [AV.s (SV.bool x), AV.s (SV.int IntKind.i64 xe), AV.s (SV.int IntKind.i64 xp)] (23 : Nat), AObj.own [AV.s (SV.bool y), AV.s (SV.int IntKind.i64 ye), AV.s (SV.int IntKind.i64 yp)] (23 : Nat)] (AV.s (SV.blit false))) (Tree.at (Cfg.mk (sl (107 : Nat) [((3 : Nat), AV.ptr (0 : Nat) (0 : Nat)), ((4 : Nat), AV.ptr (1 : Nat) (0 : Nat)), ((11 : Nat), AV.s (SV.int IntKind.i64 e)), ((12 : Nat), AV.s (SV.int IntKind.i64 e')), ((13 : Nat), AV.ptr (2 : Nat) (0 : Nat)), ((15 : Nat), AV.ptr (3 : Nat) (0 : Nat))]) [AObj.own [AV.s (SV.bool on), AV.s (SV.int IntKind.i64 ep), AV.s (SV.int IntKind.i64 pg)] (23 : Nat), AObj.own [AV.s (SV.bool on'), AV.s (SV.int IntKind.i64 ep'), AV.s (SV.int IntKind.i64 pg')] (23 : Nat), AObj.own [AV.s (SV.bool x), AV.s (SV.int IntKind.i64 xe), AV.s (SV.int IntKind.i64 xp)] (23 : Nat), AObj.own [AV.s (SV.bool y), AV.s (SV.int IntKind.i64 ye), AV.s (SV.int IntKind.i64 yp)] (23 : Nat)] (hr Try.f3 (12 : Nat)) (Stk.mk none false (0 : Nat) [] (0 : Nat))))))
      (Tree.ite (!(e == (0 : Int)) == false) (Tree.ret [AObj.own [AV.s (SV.bool on), AV.s (SV.int IntKind.i64 ep), AV.s (SV.int IntKind.i64 pg)] (23 : Nat), AObj.own [AV.s (SV.bool on'), AV.s (SV.int IntKind.i64 ep'), AV.s (SV.int IntKind.i64 pg')] (23 : Nat), AObj.own [AV.s (SV.bool x), AV.s (SV.int IntKind.i64 xe), AV.s (SV.int IntKind.i64 xp)] (23 : Nat), AObj.own [AV.s (SV.bool y), AV.s (SV.int IntKind.i64 ye), AV.s (SV.int IntKind.i64 yp)] (23 : Nat)] (AV.s (SV.blit false))) (Tree.at (Cfg.mk (sl (107 : Nat) [((3 : Nat), AV.ptr (0 : Nat) (0 : Nat)), ((4 : Nat), AV.ptr (1 : Nat) (0 : Nat)), ((11 : Nat), AV.s (SV.int IntKind.i64 e)), ((12 : Nat), AV.s (SV.int IntKind.i64 e')), ((13 : Nat), AV.ptr (2 : Nat) (0 : Nat)), ((15 : Nat), AV.ptr (3 : Nat) (0 : Nat))]) [AObj.own [AV.s (SV.bool on), AV.s (SV.int IntKind.i64 ep), AV.s (SV.int IntKind.i64 pg)] (23 : Nat), AObj.own [AV.s (SV.bool on'), AV.s (SV.int IntKind.i64 ep'), AV.s (SV.int IntKind.i64 pg')] (23 : Nat), AObj.own [AV.s (SV.bool x), AV.s (SV.int IntKind.i64 xe), AV.s (SV.int IntKind.i64 xp)] (23 : Nat), AObj.own [AV.s (SV.bool y), AV.s (SV.int IntKind.i64 ye), AV.s (SV.int IntKind.i64 yp)] (23 : Nat)] (hr Try.f3 (12 : Nat)) (Stk.mk none false (0 : Nat) [] (0 : Nat))))))) := by kernel_rfl
noncomputable def cPr12 (on : Bool) (ep pg : Int) (on' : Bool) (ep' pg' : Int) (e e' : Int) (x : Bool) (xe xp : Int) (y : Bool) (ye yp : Int) : Cfg := ⟨sl 107 [(3, .ptr 0 0), (4, .ptr 1 0), (11, avI e), (12, avI e'), (13, .ptr 2 0), (15, .ptr 3 0)], [obM on ep pg, obM on' ep' pg', obM x xe xp, obM y ye yp], hr Try.f3 12, {}⟩
theorem trPr12 (on : Bool) (ep pg : Int) (on' : Bool) (ep' pg' : Int) (e e' : Int) (x : Bool) (xe xp : Int) (y : Bool) (ye yp : Int) : run P tabPl.sum Try.f3 nsPr (cPr12 on ep pg on' ep' pg' e e' x xe xp y ye yp) inN =
  Tree.ite (e != (0 : Int)) (Tree.ite (x == false && (xe == (0 : Int) && (xp == (0 : Int) && true))) (Tree.ite (e' != (0 : Int)) (Tree.ite (y == false && (ye == (0 : Int) && (yp == (0 : Int) && true))) (Tree.ret [AObj.own [AV.s (SV.bool on), AV.s (SV.int IntKind.i64 ep), AV.s (SV.int IntKind.i64 pg)] (23 : Nat), AObj.own [AV.s (SV.bool on'), AV.s (SV.int IntKind.i64 ep'), AV.s (SV.int IntKind.i64 pg')] (23 : Nat), AObj.own [AV.s (SV.bool x), AV.s (SV.int IntKind.i64 xe), AV.s (SV.int IntKind.i64 xp)] (23 : Nat), AObj.own [AV.s (SV.bool y), AV.s (SV.int IntKind.i64 ye), AV.s (SV.int IntKind.i64 yp)] (23 : Nat)] (AV.s (SV.blit true))) (Tree.ret [AObj.own [AV.s (SV.bool on), AV.s (SV.int IntKind.i64 ep), AV.s (SV.int IntKind.i64 pg)] (23 : Nat), AObj.own [AV.s (SV.bool on'), AV.s (SV.int IntKind.i64 ep'), AV.s (SV.int IntKind.i64 pg')] (23 : Nat), AObj.own [AV.s (SV.bool x), AV.s (SV.int IntKind.i64 xe), AV.s (SV.int IntKind.i64 xp)] (23 : Nat), AObj.own [AV.s (SV.bool y), AV.s (SV.int IntKind.i64 ye), AV.s (SV.int IntKind.i64 yp)] (23 : Nat)] (AV.s (SV.bool (y == on' && (ye == ep' && (yp == pg' && true))))))) (Tree.ret [AObj.own [AV.s (SV.bool on), AV.s (SV.int IntKind.i64 ep), AV.s (SV.int IntKind.i64 pg)] (23 : Nat), AObj.own [AV.s (SV.bool on'), AV.s (SV.int IntKind.i64 ep'), AV.s (SV.int IntKind.i64 pg')] (23 : Nat), AObj.own [AV.s (SV.bool x), AV.s (SV.int IntKind.i64 xe), AV.s (SV.int IntKind.i64 xp)] (23 : Nat), AObj.own [AV.s (SV.bool y), AV.s (SV.int IntKind.i64 ye), AV.s (SV.int IntKind.i64 yp)] (23 : Nat)] (AV.s (SV.bool (y == on' && (ye == ep' && (yp == pg' && true))))))) (Tree.ite (x == on && (xe == ep && (xp == pg && true))) (Tree.ite (e' != (0 : Int)) (Tree.ite (y == false && (ye == (0 : Int) && (yp == (0 : Int) && true))) (Tree.ret [AObj.own [AV.s (SV.bool on), AV.s (SV.int IntKind.i64 ep), AV.s (SV.int IntKind.i64 pg)] (23 : Nat), AObj.own [AV.s (SV.bool on'), AV.s (SV.int IntKind.i64 ep'), AV.s (SV.int IntKind.i64 pg')] (23 : Nat), AObj.own [AV.s (SV.bool x), AV.s (SV.int IntKind.i64 xe), AV.s (SV.int IntKind.i64 xp)] (23 : Nat), AObj.own [AV.s (SV.bool y), AV.s (SV.int IntKind.i64 ye), AV.s (SV.int IntKind.i64 yp)] (23 : Nat)] (AV.s (SV.blit true))) (Tree.ret [AObj.own [AV.s (SV.bool on), AV.s (SV.int IntKind.i64 ep), AV.s (SV.int IntKind.i64 pg)] (23 : Nat), AObj.own [AV.s (SV.bool on'), AV.s (SV.int IntKind.i64 ep'), AV.s (SV.int IntKind.i64 pg')] (23 : Nat), AObj.own [AV.s (SV.bool x), AV.s (SV.int IntKind.i64 xe), AV.s (SV.int IntKind.i64 xp)] (23 : Nat), AObj.own [AV.s (SV.bool y), AV.s (SV.int IntKind.i64 ye), AV.s (SV.int IntKind.i64 yp)] (23 : Nat)] (AV.s (SV.bool (y == on' && (ye == ep' && (yp == pg' && true))))))) (Tree.ret [AObj.own [AV.s (SV.bool on), AV.s (SV.int IntKind.i64 ep), AV.s (SV.int IntKind.i64 pg)] (23 : Nat), AObj.own [AV.s (SV.bool on'), AV.s (SV.int IntKind.i64 ep'), AV.s (SV.int IntKind.i64 pg')] (23 : Nat), AObj.own [AV.s (SV.bool x), AV.s (SV.int IntKind.i64 xe), AV.s (SV.int IntKind.i64 xp)] (23 : Nat), AObj.own [AV.s (SV.bool y), AV.s (SV.int IntKind.i64 ye), AV.s (SV.int IntKind.i64 yp)] (23 : Nat)] (AV.s (SV.bool (y == on' && (ye == ep' && (yp == pg' && true))))))) (Tree.ret [AObj.own [AV.s (SV.bool on), AV.s (SV.int IntKind.i64 ep), AV.s (SV.int IntKind.i64 pg)] (23 : Nat), AObj.own [AV.s (SV.bool on'), AV.s (SV.int IntKind.i64 ep'), AV.s (SV.int IntKind.i64 pg')] (23 : Nat), AObj.own [AV.s (SV.bool x), AV.s (SV.int IntKind.i64 xe), AV.s (SV.int IntKind.i64 xp)] (23 : Nat), AObj.own [AV.s (SV.bool y), AV.s (SV.int IntKind.i64 ye), AV.s (SV.int IntKind.i64 yp)] (23 : Nat)] (AV.s (SV.blit false)))))
  (Tree.ite (x == on && (xe == ep && (xp == pg && true))) (Tree.ite (e' != (0 : Int)) (Tree.ite (y == false && (ye == (0 : Int) && (yp == (0 : Int) && true))) (Tree.ret [AObj.own [AV.s (SV.bool on), AV.s (SV.int IntKind.i64 ep), AV.s (SV.int IntKind.i64 pg)] (23 : Nat), AObj.own [AV.s (SV.bool on'), AV.s (SV.int IntKind.i64 ep'), AV.s (SV.int IntKind.i64 pg')] (23 : Nat), AObj.own [AV.s (SV.bool x), AV.s (SV.int IntKind.i64 xe), AV.s (SV.int IntKind.i64 xp)] (23 : Nat), AObj.own [AV.s (SV.bool y), AV.s (SV.int IntKind.i64 ye), AV.s (SV.int IntKind.i64 yp)] (23 : Nat)] (AV.s (SV.blit true))) (Tree.ret [AObj.own [AV.s (SV.bool on), AV.s (SV.int IntKind.i64 ep), AV.s (SV.int IntKind.i64 pg)] (23 : Nat), AObj.own [AV.s (SV.bool on'), AV.s (SV.int IntKind.i64 ep'), AV.s (SV.int IntKind.i64 pg')] (23 : Nat), AObj.own [AV.s (SV.bool x), AV.s (SV.int IntKind.i64 xe), AV.s (SV.int IntKind.i64 xp)] (23 : Nat), AObj.own [AV.s (SV.bool y), AV.s (SV.int IntKind.i64 ye), AV.s (SV.int IntKind.i64 yp)] (23 : Nat)] (AV.s (SV.bool (y == on' && (ye == ep' && (yp == pg' && true))))))) (Tree.ret [AObj.own [AV.s (SV.bool on), AV.s (SV.int IntKind.i64 ep), AV.s (SV.int IntKind.i64 pg)] (23 : Nat), AObj.own [AV.s (SV.bool on'), AV.s (SV.int IntKind.i64 ep'), AV.s (SV.int IntKind.i64 pg')] (23 : Nat), AObj.own [AV.s (SV.bool x), AV.s (SV.int IntKind.i64 xe), AV.s (SV.int IntKind.i64 xp)] (23 : Nat), AObj.own [AV.s (SV.bool y), AV.s (SV.int IntKind.i64 ye), AV.s (SV.int IntKind.i64 yp)] (23 : Nat)] (AV.s (SV.bool (y == on' && (ye == ep' && (yp == pg' && true))))))) (Tree.ret [AObj.own [AV.s (SV.bool on), AV.s (SV.int IntKind.i64 ep), AV.s (SV.int IntKind.i64 pg)] (23 : Nat), AObj.own [AV.s (SV.bool on'), AV.s (SV.int IntKind.i64 ep'), AV.s (SV.int IntKind.i64 pg')] (23 : Nat), AObj.own [AV.s (SV.bool x), AV.s (SV.int IntKind.i64 xe), AV.s (SV.int IntKind.i64 xp)] (23 : Nat), AObj.own [AV.s (SV.bool y), AV.s (SV.int IntKind.i64 ye), AV.s (SV.int IntKind.i64 yp)] (23 : Nat)] (AV.s (SV.blit false)))) := by kernel_rfl
theorem set2 {th : Th} {m : As} {fu a ep pg : Int} {on : Bool} (hd : okD th m fu) (hf : fu = -1) (ha : roC th a = 0) :
    okD th (srM th m fu a on ep pg) (srF th fu a on ep pg) ∧ srF th fu a on ep pg = -1 ∧ (srE th fu a on ep pg = 0 ↔ okMk ep pg) ∧
      (∀ x, x ≠ a * 4 → rdS th (srM th m fu a on ep pg) x = rdS th m x) ∧ rdS th (srM th m fu a on ep pg) (a * 4) = if srE th fu a on ep pg = 0 then mkS on ep pg else rdS th m (a * 4) := by
  subst hf
  refine ⟨ok_sr hd, ?_⟩
  by_cases h : okMk ep pg
  · obtain ⟨e1, e2, e3⟩ := sr_yes (on := on) hd (by decide) ha h
    refine ⟨by rw [e2]; rfl, Iff.intro (fun _ => h) (fun _ => e1), fun x hx => by rw [e3, if_neg hx], by rw [e3, if_pos rfl, if_pos e1]⟩
  · obtain ⟨e1, e2, e3⟩ := sr_no (m := m) (fu := -1) (on := on) ha h
    refine ⟨e2, Iff.intro (fun h2 => absurd (e1.symm.trans h2) (by decide)) (fun h2 => absurd h2 h), fun x hx => by rw [e3], by rw [e3, e1]; rfl⟩
theorem pr_last {Z : Glob} {X : Ctx} (hX : ∀ id, X.H id = none) (hz : ZCtx Z X) (on : Bool) (ep pg : Int) (on' : Bool) (ep' pg' : Int) (e e' : Int) (x : Bool) (xe xp : Int) (y : Bool) (ye yp : Int)
    (h1 : e = 0 ↔ okMk ep pg) (h2 : if e = 0 then x = on ∧ xe = ep ∧ xp = pg else x = false ∧ xe = 0 ∧ xp = 0) (h3 : if e' = 0 then y = on' ∧ ye = ep' ∧ yp = pg' else y = false ∧ ye = 0 ∧ yp = 0) :
    Safe P 3 X (Ends [tBool] (true, ())) (cPr10 on ep pg on' ep' pg' e e' x xe xp 0 y ye yp 0) := by
  have hT : tabPl.Ok P Z := tabPl_ok
  have last : Safe P 3 X (Ends [tBool] (true, ())) (cPr12 on ep pg on' ep' pg' e e' x xe xp y ye yp) := by
    refine go hz hX hT Try.func3 (trPr12 on ep pg on' ep' pg' e e' x xe xp y ye yp) ?_
    by_cases h : e = 0 <;> by_cases h' : e' = 0
    all_goals simp only [h, h', if_true, if_false] at h2 h3
    all_goals obtain ⟨rfl, rfl, rfl⟩ := h2
    all_goals obtain ⟨rfl, rfl, rfl⟩ := h3
    all_goals simp only [h, h', beq_self_eq_true, Bool.and_self, bne_self_eq_false]
    all_goals repeat' (with_reducible (first | refine h_eq ?_ | refine h_need ?_ ?_ | refine h_dec (fun _ => ?_) (fun _ => ?_) | refine h_beq (fun _ => ?_) (fun _ => ?_) | refine h_bne (fun _ => ?_) (fun _ => ?_) | refine h_tt ?_ | refine h_ff ?_ | refine h_not ?_ | refine h_ite (fun _ => ?_) (fun _ => ?_) | refine h_both (fun _ => ?_) (fun _ => ?_) | refine h_ret ?_ | refine h_at ?_))
    all_goals first | exact ends_b | exact ends_bl | (exfalso; simp_all; done)
  refine go hz hX hT Try.func3 (trPr10 on ep pg on' ep' pg' e e' x xe xp 0 y ye yp 0) ?_
  unfold okMk at h1
  have h0 : (e == 0) = (decide (ep ≥ 0) && decide (ep ≤ 1099511627776) && decide (pg ≥ 0) && decide (pg < 1024)) := by
    rw [Bool.eq_iff_iff]
    simp only [beq_iff_eq, Bool.and_eq_true, decide_eq_true_eq]
    rw [h1]
    omega
  rw [h0]
  repeat' (with_reducible (first | refine h_eq ?_ | refine h_need ?_ ?_ | refine h_dec (fun _ => ?_) (fun _ => ?_) | refine h_beq (fun _ => ?_) (fun _ => ?_) | refine h_bne (fun _ => ?_) (fun _ => ?_) | refine h_tt ?_ | refine h_ff ?_ | refine h_not ?_ | refine h_ite (fun _ => ?_) (fun _ => ?_) | refine h_both (fun _ => ?_) (fun _ => ?_) | refine h_ret ?_ | refine h_at ?_))
  all_goals first | exact last | (exfalso; simp_all; done) | (exfalso; simp_all; omega)
theorem pageRoots_ok {Z : Glob} : FnOk P Z 3 [tMk, tMk, tU8] [tBool] (preWf _) (fun _ => (true, ())) := by
  refine fnOk_of_safe Try.func3 (by kernel_rfl) (by kernel_rfl) ?_
  rintro ⟨⟨(on : Bool), (ep : Int), (pg : Int), ⟨⟩⟩, ⟨(on' : Bool), (ep' : Int), (pg' : Int), ⟨⟩⟩, (k : Int), ⟨⟩⟩ _ ⟨⟨_, _, hk, _⟩, _⟩ X hX hz
  have hk := u8_wf hk
  show Safe P 3 X (Ends [tBool] (true, ())) _
  have hT : tabPl.Ok P Z := tabPl_ok
  refine go hz hX hT Try.func3 (trPr on ep pg on' ep' pg' k) ?_
  have a01 : k.tmod 2 = 0 ∨ k.tmod 2 = 1 := by rw [Int.tmod_eq_emod_of_nonneg hk.1]; omega
  have hb : IntKind.u8.wrap (1 - k.tmod 2) = 1 - k.tmod 2 := by rw [wrap_u8]; omega
  rw [hb]
  generalize k.tmod 2 = a at *
  have hd : okD (List.replicate 12 (CL.d cS)) [] (-1) := ok_new (by omega)
  have hz0 : ∀ x, 0 ≤ x → x < 12 → rdS (List.replicate 12 (CL.d cS)) [] x = bytesStr (List.replicate 64 0) := fun x h0 h1 => rd_zero h0 (by omega)
  have hp : pgN (List.replicate 12 (CL.d cS)) = 3 := by rw [pgN_of (n := 12) (by simp)]; rfl
  show Tree.Holds _ _ _
  have main : Safe P 3 X (Ends [tBool] (true, ())) (cPr7 on ep pg on' ep' pg' (List.replicate 12 (CL.d cS)) a (1 - a)) := by
    generalize List.replicate 12 (CL.d cS) = th at *
    have ra : roC th a = 0 := roC_zero.2 (by omega)
    have rb : roC th (1 - a) = 0 := roC_zero.2 (by omega)
    refine go hz hX hT Try.func3 (trPr7 on ep pg on' ep' pg' th a (1 - a)) ?_
    obtain ⟨d1, f1, g1, o1, s1⟩ := set2 (on := on) (ep := ep) (pg := pg) hd rfl ra
    rw [f1] at d1 ⊢
    generalize srM th [] (-1) a on ep pg = m1 at *
    generalize srE th (-1) a on ep pg = e at *
    obtain ⟨d2, f2, g2, o2, s2⟩ := set2 (on := on') (ep := ep') (pg := pg') d1 rfl rb
    rw [f2] at d2 ⊢
    generalize srM th m1 (-1) (1 - a) on' ep' pg' = m2 at *
    generalize srE th (-1) (1 - a) on' ep' pg' = e' at *
    refine ⟨rfl, rfl, hd, ⟨by omega, by omega⟩, rfl, rfl, d1, ⟨by omega, by omega⟩, ?_⟩
    show Safe P _ X _ (cPr8 on ep pg on' ep' pg' th m2 (-1) a (1 - a) e e')
    refine go hz hX hT Try.func3 (trPr8 on ep pg on' ep' pg' th m2 (-1) a (1 - a) e e') ⟨rfl, rfl, d2, ⟨by omega, by omega⟩, rfl, rfl, d2, ⟨by omega, by omega⟩, ?_⟩
    rw [ra, rb]
    obtain ⟨x1, x2, x3⟩ := ro_of (m := m2) ra rfl
    obtain ⟨y1, y2, y3⟩ := ro_of (m := m2) rb rfl
    rw [o2 _ (by omega), s1] at x1 x2 x3
    rw [s2, o1 _ (by omega)] at y1 y2 y3
    rw [hz0 _ (by omega) (by omega)] at x1 x2 x3 y1 y2 y3
    refine pr_last hX hz on ep pg on' ep' pg' e e' _ _ _ _ _ _ g1 ?_ ?_
    · by_cases h : e = 0
      · obtain ⟨r1, r2, r3⟩ := rt_mk (on := on) (g1.1 h)
        rw [if_pos h] at x1 x2 x3 ⊢
        rw [x1, x2, x3, r1, r2, r3]; exact ⟨rfl, rfl, rfl⟩
      · obtain ⟨r1, r2, r3⟩ := rt_zero
        rw [if_neg h] at x1 x2 x3 ⊢
        rw [x1, x2, x3, r1, r2, r3]; exact ⟨rfl, rfl, rfl⟩
    · by_cases h : e' = 0
      · obtain ⟨r1, r2, r3⟩ := rt_mk (on := on') (g2.1 h)
        rw [if_pos h] at y1 y2 y3 ⊢
        rw [y1, y2, y3, r1, r2, r3]; exact ⟨rfl, rfl, rfl⟩
      · obtain ⟨r1, r2, r3⟩ := rt_zero
        rw [if_neg h] at y1 y2 y3 ⊢
        rw [y1, y2, y3, r1, r2, r3]; exact ⟨rfl, rfl, rfl⟩
  repeat' (with_reducible (first | refine h_eq ?_ | refine h_need ?_ ?_ | refine h_dec (fun _ => ?_) (fun _ => ?_) | refine h_beq (fun _ => ?_) (fun _ => ?_) | refine h_bne (fun _ => ?_) (fun _ => ?_) | refine h_tt ?_ | refine h_ff ?_ | refine h_not ?_ | refine h_ite (fun _ => ?_) (fun _ => ?_) | refine h_both (fun _ => ?_) (fun _ => ?_) | refine h_ret ?_ | refine h_at ?_))
  all_goals first | exact main | omega | exact ⟨by omega, by omega⟩ | decide
end Ds

namespace Ds
open Go Go.Sx Go.Proofs Lf
/-! PageTorn, PageMarked: their trees -/
theorem trMay (on : Bool) (ep pg : Int) : run P tab0.sum Try.f25 [] (start Try.f25 [avM on ep pg] []) =
  Tree.need ((1099511627776 : Int) ≠ (0 : Int)) (Tree.need ((1024 : Int) ≠ (0 : Int)) (Tree.ret [AObj.own [AV.s (SV.bool on), AV.s (SV.int IntKind.i64 (IntKind.i64.wrap ((IntKind.u64.wrap ep).tmod (1099511627776 : Int)))), AV.s (SV.int IntKind.i64 (IntKind.i64.wrap ((IntKind.u64.wrap pg).tmod (1024 : Int))))] (23 : Nat), AObj.own [AV.s (SV.bool on), AV.s (SV.int IntKind.i64 (IntKind.i64.wrap ((IntKind.u64.wrap ep).tmod (1099511627776 : Int)))), AV.s (SV.int IntKind.i64 (IntKind.i64.wrap ((IntKind.u64.wrap pg).tmod (1024 : Int))))] (23 : Nat)] (AV.agg [AV.s (SV.bool on), AV.s (SV.int IntKind.i64 (IntKind.i64.wrap ((IntKind.u64.wrap ep).tmod (1099511627776 : Int)))), AV.s (SV.int IntKind.i64 (IntKind.i64.wrap ((IntKind.u64.wrap pg).tmod (1024 : Int))))]))) := by kernel_rfl
def mayE (ep : Int) : Int := (IntKind.u64.wrap ep).tmod 1099511627776
def mayP (pg : Int) : Int := (IntKind.u64.wrap pg).tmod 1024
abbrev sumMy := sumOf [tMk] [tMk] (fun _ => []) (fun ((on, ep, pg, ()), ()) => ((on, mayE ep, mayP pg, ()), ()))
def tabPt : Tab := (25, sumMy) :: tabPl
def nsPt : List (Nat × Norm) := [(5, ⟨[], [4, 5, 6, 7, 8, 9, 15, 16, 17, 18], 0, []⟩), (7, ⟨[], [4, 5, 6, 7, 8, 9, 15, 16, 17, 18], 0, []⟩), (9, ⟨[], [7, 8, 15, 17, 18], 0, []⟩), (11, ⟨[], [7, 8, 19, 20, 21, 22], 0, []⟩)]
theorem trPt (o1 : Bool) (e1 p1 : Int) (o2 : Bool) (e2 p2 : Int) (o3 : Bool) (e3 p3 : Int) (k : Int) (keep : List Bool) (torn cut : Int) : run P tabPt.sum Try.f7 nsPt (start Try.f7 [avM o1 e1 p1, avM o2 e2 p2, avM o3 e3 p3, .s (.int .u8 k), avB keep, avI torn, avI cut] []) inN =
  Tree.ite (decide ((↑keep.length : Int) > (400 : Int))) (Tree.ret [AObj.own [AV.s (SV.bool o1), AV.s (SV.int IntKind.i64 e1), AV.s (SV.int IntKind.i64 p1)] (23 : Nat), AObj.own [AV.s (SV.bool o2), AV.s (SV.int IntKind.i64 e2), AV.s (SV.int IntKind.i64 p2)] (23 : Nat), AObj.own [AV.s (SV.bool o3), AV.s (SV.int IntKind.i64 e3), AV.s (SV.int IntKind.i64 p3)] (23 : Nat)] (AV.s (SV.bool true))) (Tree.ite false (Tree.ret [AObj.own [AV.s (SV.bool o1), AV.s (SV.int IntKind.i64 e1), AV.s (SV.int IntKind.i64 p1)] (23 : Nat), AObj.own [AV.s (SV.bool o2), AV.s (SV.int IntKind.i64 e2), AV.s (SV.int IntKind.i64 p2)] (23 : Nat), AObj.own [AV.s (SV.bool o3), AV.s (SV.int IntKind.i64 e3), AV.s (SV.int IntKind.i64 p3)] (23 : Nat)] (AV.s (SV.bool true))) (Tree.need ((0 : Int) ≤ (8 : Int)) (Tree.need ((8 : Int) ≤ (8 : Int)) (Tree.need ((8 : Int) ≤ (1073741824 : Int)) (Tree.need ((2 : Int) ≠ (0 : Int)) (Tree.need (inI64 (k.tmod (2 : Int))) (Tree.need ((2 : Int) ≠ (0 : Int)) (Tree.need (inI64 (IntKind.u8.wrap ((1 : Int) - k.tmod (2 : Int)))) (Tree.at (Cfg.mk (sl (121 : Nat) [((4 : Nat), AV.s (SV.ro (Con.bools keep))), ((5 : Nat), AV.s (SV.int IntKind.i64 torn)), ((6 : Nat), AV.s (SV.int IntKind.i64 cut)), ((7 : Nat), AV.ptr (0 : Nat) (0 : Nat)), ((8 : Nat), AV.ptr (1 : Nat) (0 : Nat)), ((9 : Nat), AV.ptr (2 : Nat) (0 : Nat)), ((15 : Nat), AV.ptr (3 : Nat) (0 : Nat)), ((16 : Nat), AV.s (SV.int IntKind.i64 (0 : Int))), ((17 : Nat), AV.s (SV.int IntKind.i64 (k.tmod (2 : Int)))), ((18 : Nat), AV.s (SV.int IntKind.i64 (IntKind.u8.wrap ((1 : Int) - k.tmod (2 : Int)))))]) [AObj.own [AV.s (SV.bool o1), AV.s (SV.int IntKind.i64 e1), AV.s (SV.int IntKind.i64 p1)] (23 : Nat), AObj.own [AV.s (SV.bool o2), AV.s (SV.int IntKind.i64 e2), AV.s (SV.int IntKind.i64 p2)] (23 : Nat), AObj.own [AV.s (SV.bool o3), AV.s (SV.int IntKind.i64 e3), AV.s (SV.int IntKind.i64 p3)] (23 : Nat), AObj.own [AV.vec (4 : Nat), AV.mapv (5 : Nat), AV.s (SV.int IntKind.i64 (-1 : Int))] (90 : Nat), AObj.vec (Con.typ [CK.arr IntKind.u8 (64 : Nat)] (List.replicate (Int.toNat (8 : Int)) (CL.d [CK.arr IntKind.u8 (64 : Nat)]))) (108 : Nat), AObj.map (CK.arr IntKind.u8 (64 : Nat)) []] (hr Try.f7 (5 : Nat)) (Stk.mk none false (0 : Nat) [] (0 : Nat)))))))))))) := by kernel_rfl
noncomputable def cPt (r : Nat) (o1 : Bool) (e1 p1 : Int) (o2 : Bool) (e2 p2 : Int) (o3 : Bool) (e3 p3 : Int) (th : Th) (keep : List Bool) (torn cut a b : Int) : Cfg := ⟨sl 121 [(4, avB keep), (5, avI torn), (6, avI cut), (7, .ptr 0 0), (8, .ptr 1 0), (9, .ptr 2 0), (15, .ptr 3 0), (16, avI 0), (17, avI a), (18, avI b)], [obM o1 e1 p1, obM o2 e2 p2, obM o3 e3 p3, obD 4 5 (-1), .vec (.typ cS th) eS, .map kS []], hr Try.f7 r, {}⟩
theorem trPt5 (o1 : Bool) (e1 p1 : Int) (o2 : Bool) (e2 p2 : Int) (o3 : Bool) (e3 p3 : Int) (th : Th) (keep : List Bool) (torn cut a b : Int) : run P tabPt.sum Try.f7 nsPt (cPt 5 o1 e1 p1 o2 e2 p2 o3 e3 p3 th keep torn cut a b) inN =
  Tree.at (Cfg.mk (sl (121 : Nat) [((4 : Nat), AV.s (SV.ro (Con.bools keep))), ((5 : Nat), AV.s (SV.int IntKind.i64 torn)), ((6 : Nat), AV.s (SV.int IntKind.i64 cut)), ((7 : Nat), AV.ptr (0 : Nat) (0 : Nat)), ((8 : Nat), AV.ptr (1 : Nat) (0 : Nat)), ((9 : Nat), AV.ptr (2 : Nat) (0 : Nat)), ((15 : Nat), AV.ptr (3 : Nat) (0 : Nat)), ((16 : Nat), AV.s (SV.int IntKind.i64 (0 : Int))), ((17 : Nat), AV.s (SV.int IntKind.i64 a)), ((18 : Nat), AV.s (SV.int IntKind.i64 b))]) [AObj.own [AV.s (SV.bool o1), AV.s (SV.int IntKind.i64 (mayE e1)), AV.s (SV.int IntKind.i64 (mayP p1))] (23 : Nat), AObj.own [AV.s (SV.bool o2), AV.s (SV.int IntKind.i64 (mayE e2)), AV.s (SV.int IntKind.i64 (mayP p2))] (23 : Nat), AObj.own [AV.s (SV.bool false), AV.s (SV.int IntKind.i64 (mayE e3)), AV.s (SV.int IntKind.i64 (mayP p3))] (23 : Nat), AObj.own [AV.vec (4 : Nat), AV.mapv (5 : Nat), AV.s (SV.int IntKind.i64 (-1 : Int))] (90 : Nat), AObj.vec (Con.typ [CK.arr IntKind.u8 (64 : Nat)] th) (108 : Nat), AObj.map (CK.arr IntKind.u8 (64 : Nat)) []] (hr Try.f7 (7 : Nat)) (Stk.mk none false (0 : Nat) [] (0 : Nat))) := by kernel_rfl
theorem trPt7 (o1 : Bool) (e1 p1 : Int) (o2 : Bool) (e2 p2 : Int) (e3 p3 : Int) (th : Th) (keep : List Bool) (torn cut a b : Int) : run P tabPt.sum Try.f7 nsPt (cPt 7 o1 e1 p1 o2 e2 p2 false e3 p3 th keep torn cut a b) inN =
  Tree.ite false (Tree.ret [AObj.own [AV.s (SV.bool o1), AV.s (SV.int IntKind.i64 e1), AV.s (SV.int IntKind.i64 p1)] (23 : Nat), AObj.own [AV.s (SV.bool o2), AV.s (SV.int IntKind.i64 e2), AV.s (SV.int IntKind.i64 p2)] (23 : Nat), AObj.own [AV.s (SV.bool false), AV.s (SV.int IntKind.i64 e3), AV.s (SV.int IntKind.i64 p3)] (23 : Nat), AObj.own [AV.vec (4 : Nat), AV.mapv (5 : Nat), AV.s (SV.int IntKind.i64 (-1 : Int))] (90 : Nat), AObj.vec (Con.typ [CK.arr IntKind.u8 (64 : Nat)] th) (108 : Nat), AObj.map (CK.arr IntKind.u8 (64 : Nat)) []] (AV.s (SV.blit false)))
  (Tree.need (Slf (some [AV.ptr (0 : Nat) (0 : Nat), AV.s (SV.int IntKind.i64 a), AV.agg [AV.s (SV.bool o1), AV.s (SV.int IntKind.i64 e1), AV.s (SV.int IntKind.i64 p1)]]))
    (Tree.need (Slf (some [AObj.own [AV.vec (1 : Nat), AV.mapv (2 : Nat), AV.s (SV.int IntKind.i64 (-1 : Int))] (90 : Nat), AObj.vec (Con.typ [CK.arr IntKind.u8 (64 : Nat)] th) (108 : Nat), AObj.map (CK.arr IntKind.u8 (64 : Nat)) []]))
      (Tree.need (okD th [] (-1 : Int))
        (Tree.need (inI64 a)
          (Tree.ite (srE th (-1 : Int) a o1 e1 p1 != (0 : Int)) (Tree.ret [AObj.own [AV.s (SV.bool o1), AV.s (SV.int IntKind.i64 e1), AV.s (SV.int IntKind.i64 p1)] (23 : Nat), AObj.own [AV.s (SV.bool o2), AV.s (SV.int IntKind.i64 e2), AV.s (SV.int IntKind.i64 p2)] (23 : Nat), AObj.own [AV.s (SV.bool false), AV.s (SV.int IntKind.i64 e3), AV.s (SV.int IntKind.i64 p3)] (23 : Nat), AObj.own [AV.vec (4 : Nat), AV.mapv (5 : Nat), AV.s (SV.int IntKind.i64 (srF th (-1 : Int) a o1 e1 p1))] (90 : Nat), AObj.vec (Con.typ [CK.arr IntKind.u8 (64 : Nat)] th) (108 : Nat), AObj.map (CK.arr IntKind.u8 (64 : Nat)) (srM th [] (-1 : Int) a o1 e1 p1)] (AV.s (SV.blit false)))
            (Tree.need (Slf (some [AV.ptr (0 : Nat) (0 : Nat), AV.s (SV.int IntKind.i64 b), AV.agg [AV.s (SV.bool o2), AV.s (SV.int IntKind.i64 e2), AV.s (SV.int IntKind.i64 p2)]]))
              (Tree.need (Slf (some [AObj.own [AV.vec (1 : Nat), AV.mapv (2 : Nat), AV.s (SV.int IntKind.i64 (srF th (-1 : Int) a o1 e1 p1))] (90 : Nat), AObj.vec (Con.typ [CK.arr IntKind.u8 (64 : Nat)] th) (108 : Nat), AObj.map (CK.arr IntKind.u8 (64 : Nat)) (srM th [] (-1 : Int) a o1 e1 p1)]))
                (Tree.need (okD th (srM th [] (-1 : Int) a o1 e1 p1) (srF th (-1 : Int) a o1 e1 p1))
                  (Tree.need (inI64 b)
                    (Tree.ite (srE th (srF th (-1 : Int) a o1 e1 p1) b o2 e2 p2 != (0 : Int)) (Tree.ret [AObj.own [AV.s (SV.bool o1), AV.s (SV.int IntKind.i64 e1), AV.s (SV.int IntKind.i64 p1)] (23 : Nat), AObj.own [AV.s (SV.bool o2), AV.s (SV.int IntKind.i64 e2), AV.s (SV.int IntKind.i64 p2)] (23 : Nat), AObj.own [AV.s (SV.bool false), AV.s (SV.int IntKind.i64 e3), AV.s (SV.int IntKind.i64 p3)] (23 : Nat), AObj.own [AV.vec (4 : Nat), AV.mapv (5 : Nat), AV.s (SV.int IntKind.i64 (srF th (srF th (-1 : Int) a o1 e1 p1) b o2 e2 p2))] (90 : Nat), AObj.vec (Con.typ [CK.arr IntKind.u8 (64 : Nat)] th) (108 : Nat), AObj.map (CK.arr IntKind.u8 (64 : Nat)) (srM th (srM th [] (-1 : Int) a o1 e1 p1) (srF th (-1 : Int) a o1 e1 p1) b o2 e2 p2)] (AV.s (SV.blit false)))
                      (Tree.need (Slf (some [AV.ptr (0 : Nat) (0 : Nat)]))
                        (Tree.need (Slf (some [AObj.own [AV.vec (1 : Nat), AV.mapv (2 : Nat), AV.s (SV.int IntKind.i64 (srF th (srF th (-1 : Int) a o1 e1 p1) b o2 e2 p2))] (90 : Nat), AObj.vec (Con.typ [CK.arr IntKind.u8 (64 : Nat)] th) (108 : Nat), AObj.map (CK.arr IntKind.u8 (64 : Nat)) (srM th (srM th [] (-1 : Int) a o1 e1 p1) (srF th (-1 : Int) a o1 e1 p1) b o2 e2 p2)]))
                          (Tree.need (okD th (srM th (srM th [] (-1 : Int) a o1 e1 p1) (srF th (-1 : Int) a o1 e1 p1) b o2 e2 p2) (srF th (srF th (-1 : Int) a o1 e1 p1) b o2 e2 p2))
                            (Tree.ite (flE (srF th (srF th (-1 : Int) a o1 e1 p1) b o2 e2 p2) != (0 : Int)) (Tree.ret [AObj.own [AV.s (SV.bool o1), AV.s (SV.int IntKind.i64 e1), AV.s (SV.int IntKind.i64 p1)] (23 : Nat), AObj.own [AV.s (SV.bool o2), AV.s (SV.int IntKind.i64 e2), AV.s (SV.int IntKind.i64 p2)] (23 : Nat), AObj.own [AV.s (SV.bool false), AV.s (SV.int IntKind.i64 e3), AV.s (SV.int IntKind.i64 p3)] (23 : Nat), AObj.own [AV.vec (4 : Nat), AV.mapv (5 : Nat), AV.s (SV.int IntKind.i64 (burnF (srF th (srF th (-1 : Int) a o1 e1 p1) b o2 e2 p2)))] (90 : Nat), AObj.vec (Con.typ [CK.arr IntKind.u8 (64 : Nat)] (flT th (srM th (srM th [] (-1 : Int) a o1 e1 p1) (srF th (-1 : Int) a o1 e1 p1) b o2 e2 p2) (srF th (srF th (-1 : Int) a o1 e1 p1) b o2 e2 p2))) (108 : Nat), AObj.map (CK.arr IntKind.u8 (64 : Nat)) (flM (srM th (srM th [] (-1 : Int) a o1 e1 p1) (srF th (-1 : Int) a o1 e1 p1) b o2 e2 p2) (srF th (srF th (-1 : Int) a o1 e1 p1) b o2 e2 p2))] (AV.s (SV.blit false)))
                              (Tree.need (Slf (some [AV.ptr (0 : Nat) (0 : Nat), AV.s (SV.int IntKind.i64 a), AV.agg [AV.s (SV.bool false), AV.s (SV.int IntKind.i64 e3), AV.s (SV.int IntKind.i64 p3)]]))
                                (Tree.need (Slf (some [AObj.own [AV.vec (1 : Nat), AV.mapv (2 : Nat), AV.s (SV.int IntKind.i64 (burnF (srF th (srF th (-1 : Int) a o1 e1 p1) b o2 e2 p2)))] (90 : Nat), AObj.vec (Con.typ [CK.arr IntKind.u8 (64 : Nat)] (flT th (srM th (srM th [] (-1 : Int) a o1 e1 p1) (srF th (-1 : Int) a o1 e1 p1) b o2 e2 p2) (srF th (srF th (-1 : Int) a o1 e1 p1) b o2 e2 p2))) (108 : Nat), AObj.map (CK.arr IntKind.u8 (64 : Nat)) (flM (srM th (srM th [] (-1 : Int) a o1 e1 p1) (srF th (-1 : Int) a o1 e1 p1) b o2 e2 p2) (srF th (srF th (-1 : Int) a o1 e1 p1) b o2 e2 p2))]))
                                  (Tree.need (okD (flT th (srM th (srM th [] (-1 : Int) a o1 e1 p1) (srF th (-1 : Int) a o1 e1 p1) b o2 e2 p2) (srF th (srF th (-1 : Int) a o1 e1 p1) b o2 e2 p2)) (flM (srM th (srM th [] (-1 : Int) a o1 e1 p1) (srF th (-1 : Int) a o1 e1 p1) b o2 e2 p2) (srF th (srF th (-1 : Int) a o1 e1 p1) b o2 e2 p2)) (burnF (srF th (srF th (-1 : Int) a o1 e1 p1) b o2 e2 p2)))
                                    (Tree.need (inI64 a)
                                      (Tree.ite (srE (flT th (srM th (srM th [] (-1 : Int) a o1 e1 p1) (srF th (-1 : Int) a o1 e1 p1) b o2 e2 p2) (srF th (srF th (-1 : Int) a o1 e1 p1) b o2 e2 p2)) (burnF (srF th (srF th (-1 : Int) a o1 e1 p1) b o2 e2 p2)) a false e3 p3 != (0 : Int)) (Tree.ret [AObj.own [AV.s (SV.bool o1), AV.s (SV.int IntKind.i64 e1), AV.s (SV.int IntKind.i64 p1)] (23 : Nat), AObj.own [AV.s (SV.bool o2), AV.s (SV.int IntKind.i64 e2), AV.s (SV.int IntKind.i64 p2)] (23 : Nat), AObj.own [AV.s (SV.bool false), AV.s (SV.int IntKind.i64 e3), AV.s (SV.int IntKind.i64 p3)] (23 : Nat), AObj.own [AV.vec (4 : Nat), AV.mapv (5 : Nat), AV.s (SV.int IntKind.i64 (srF (flT th (srM th (srM th [] (-1 : Int) a o1 e1 p1) (srF th (-1 : Int) a o1 e1 p1) b o2 e2 p2) (srF th (srF th (-1 : Int) a o1 e1 p1) b o2 e2 p2)) (burnF (srF th (srF th (-1 : Int) a o1 e1 p1) b o2 e2 p2)) a false e3 p3))] (90 : Nat), AObj.vec (Con.typ [CK.arr IntKind.u8 (64 : Nat)] (flT th (srM th (srM th [] (-1 : Int) a o1 e1 p1) (srF th (-1 : Int) a o1 e1 p1) b o2 e2 p2) (srF th (srF th (-1 : Int) a o1 e1 p1) b o2 e2 p2))) (108 : Nat), AObj.map (CK.arr IntKind.u8 (64 : Nat)) (srM (flT th (srM th (srM th [] (-1 : Int) a o1 e1 p1) (srF th (-1 : Int) a o1 e1 p1) b o2 e2 p2) (srF th (srF th (-1 : Int) a o1 e1 p1) b o2 e2 p2)) (flM (srM th (srM th [] (-1 : Int) a o1 e1 p1) (srF th (-1 : Int) a o1 e1 p1) b o2 e2 p2) (srF th (srF th (-1 : Int) a o1 e1 p1) b o2 e2 p2)) (burnF (srF th (srF th (-1 : Int) a o1 e1 p1) b o2 e2 p2)) a false e3 p3)] (AV.s (SV.blit false)))
                                        (Tree.need ((65 : Int) ≠ (0 : Int))
                                          (Tree.need (Slf (some [AV.ptr (0 : Nat) (0 : Nat), AV.s (SV.ro (Con.bools keep)), AV.s (SV.int IntKind.i64 torn), AV.s (SV.int IntKind.i64 (IntKind.i64.wrap ((IntKind.u64.wrap cut).tmod (65 : Int))))]))
                                            (Tree.need (Slf (some [AObj.own [AV.vec (1 : Nat), AV.mapv (2 : Nat), AV.s (SV.int IntKind.i64 (srF (flT th (srM th (srM th [] (-1 : Int) a o1 e1 p1) (srF th (-1 : Int) a o1 e1 p1) b o2 e2 p2) (srF th (srF th (-1 : Int) a o1 e1 p1) b o2 e2 p2)) (burnF (srF th (srF th (-1 : Int) a o1 e1 p1) b o2 e2 p2)) a false e3 p3))] (90 : Nat), AObj.vec (Con.typ [CK.arr IntKind.u8 (64 : Nat)] (flT th (srM th (srM th [] (-1 : Int) a o1 e1 p1) (srF th (-1 : Int) a o1 e1 p1) b o2 e2 p2) (srF th (srF th (-1 : Int) a o1 e1 p1) b o2 e2 p2))) (108 : Nat), AObj.map (CK.arr IntKind.u8 (64 : Nat)) (srM (flT th (srM th (srM th [] (-1 : Int) a o1 e1 p1) (srF th (-1 : Int) a o1 e1 p1) b o2 e2 p2) (srF th (srF th (-1 : Int) a o1 e1 p1) b o2 e2 p2)) (flM (srM th (srM th [] (-1 : Int) a o1 e1 p1) (srF th (-1 : Int) a o1 e1 p1) b o2 e2 p2) (srF th (srF th (-1 : Int) a o1 e1 p1) b o2 e2 p2)) (burnF (srF th (srF th (-1 : Int) a o1 e1 p1) b o2 e2 p2)) a false e3 p3)]))
                                              (Tree.need (okD (flT th (srM th (srM th [] (-1 : Int) a o1 e1 p1) (srF th (-1 : Int) a o1 e1 p1) b o2 e2 p2) (srF th (srF th (-1 : Int) a o1 e1 p1) b o2 e2 p2)) (srM (flT th (srM th (srM th [] (-1 : Int) a o1 e1 p1) (srF th (-1 : Int) a o1 e1 p1) b o2 e2 p2) (srF th (srF th (-1 : Int) a o1 e1 p1) b o2 e2 p2)) (flM (srM th (srM th [] (-1 : Int) a o1 e1 p1) (srF th (-1 : Int) a o1 e1 p1) b o2 e2 p2) (srF th (srF th (-1 : Int) a o1 e1 p1) b o2 e2 p2)) (burnF (srF th (srF th (-1 : Int) a o1 e1 p1) b o2 e2 p2)) a false e3 p3) (srF (flT th (srM th (srM th [] (-1 : Int) a o1 e1 p1) (srF th (-1 : Int) a o1 e1 p1) b o2 e2 p2) (srF th (srF th (-1 : Int) a o1 e1 p1) b o2 e2 p2)) (burnF (srF th (srF th (-1 : Int) a o1 e1 p1) b o2 e2 p2)) a false e3 p3))
                                                (Tree.ite (crE (IntKind.i64.wrap ((IntKind.u64.wrap cut).tmod (65 : Int))) != (0 : Int)) (Tree.ret [AObj.own [AV.s (SV.bool o1), AV.s (SV.int IntKind.i64 e1), AV.s (SV.int IntKind.i64 p1)] (23 : Nat), AObj.own [AV.s (SV.bool o2), AV.s (SV.int IntKind.i64 e2), AV.s (SV.int IntKind.i64 p2)] (23 : Nat), AObj.own [AV.s (SV.bool false), AV.s (SV.int IntKind.i64 e3), AV.s (SV.int IntKind.i64 p3)] (23 : Nat), AObj.own [AV.vec (4 : Nat), AV.mapv (5 : Nat), AV.s (SV.int IntKind.i64 (crF (srF (flT th (srM th (srM th [] (-1 : Int) a o1 e1 p1) (srF th (-1 : Int) a o1 e1 p1) b o2 e2 p2) (srF th (srF th (-1 : Int) a o1 e1 p1) b o2 e2 p2)) (burnF (srF th (srF th (-1 : Int) a o1 e1 p1) b o2 e2 p2)) a false e3 p3) (IntKind.i64.wrap ((IntKind.u64.wrap cut).tmod (65 : Int)))))] (90 : Nat), AObj.vec (Con.typ [CK.arr IntKind.u8 (64 : Nat)] (crH (flT th (srM th (srM th [] (-1 : Int) a o1 e1 p1) (srF th (-1 : Int) a o1 e1 p1) b o2 e2 p2) (srF th (srF th (-1 : Int) a o1 e1 p1) b o2 e2 p2)) (srM (flT th (srM th (srM th [] (-1 : Int) a o1 e1 p1) (srF th (-1 : Int) a o1 e1 p1) b o2 e2 p2) (srF th (srF th (-1 : Int) a o1 e1 p1) b o2 e2 p2)) (flM (srM th (srM th [] (-1 : Int) a o1 e1 p1) (srF th (-1 : Int) a o1 e1 p1) b o2 e2 p2) (srF th (srF th (-1 : Int) a o1 e1 p1) b o2 e2 p2)) (burnF (srF th (srF th (-1 : Int) a o1 e1 p1) b o2 e2 p2)) a false e3 p3) keep torn (IntKind.i64.wrap ((IntKind.u64.wrap cut).tmod (65 : Int))))) (108 : Nat), AObj.map (CK.arr IntKind.u8 (64 : Nat)) (crM (srM (flT th (srM th (srM th [] (-1 : Int) a o1 e1 p1) (srF th (-1 : Int) a o1 e1 p1) b o2 e2 p2) (srF th (srF th (-1 : Int) a o1 e1 p1) b o2 e2 p2)) (flM (srM th (srM th [] (-1 : Int) a o1 e1 p1) (srF th (-1 : Int) a o1 e1 p1) b o2 e2 p2) (srF th (srF th (-1 : Int) a o1 e1 p1) b o2 e2 p2)) (burnF (srF th (srF th (-1 : Int) a o1 e1 p1) b o2 e2 p2)) a false e3 p3) (IntKind.i64.wrap ((IntKind.u64.wrap cut).tmod (65 : Int))))] (AV.s (SV.blit false)))
                                                  (Tree.at (Cfg.mk (sl (121 : Nat) [((7 : Nat), AV.ptr (0 : Nat) (0 : Nat)), ((8 : Nat), AV.ptr (1 : Nat) (0 : Nat)), ((15 : Nat), AV.ptr (2 : Nat) (0 : Nat)), ((17 : Nat), AV.s (SV.int IntKind.i64 a)), ((18 : Nat), AV.s (SV.int IntKind.i64 b))]) [AObj.own [AV.s (SV.bool o1), AV.s (SV.int IntKind.i64 e1), AV.s (SV.int IntKind.i64 p1)] (23 : Nat), AObj.own [AV.s (SV.bool o2), AV.s (SV.int IntKind.i64 e2), AV.s (SV.int IntKind.i64 p2)] (23 : Nat), AObj.own [AV.vec (3 : Nat), AV.mapv (4 : Nat), AV.s (SV.int IntKind.i64 (crF (srF (flT th (srM th (srM th [] (-1 : Int) a o1 e1 p1) (srF th (-1 : Int) a o1 e1 p1) b o2 e2 p2) (srF th (srF th (-1 : Int) a o1 e1 p1) b o2 e2 p2)) (burnF (srF th (srF th (-1 : Int) a o1 e1 p1) b o2 e2 p2)) a false e3 p3) (IntKind.i64.wrap ((IntKind.u64.wrap cut).tmod (65 : Int)))))] (90 : Nat), AObj.vec (Con.typ [CK.arr IntKind.u8 (64 : Nat)] (crH (flT th (srM th (srM th [] (-1 : Int) a o1 e1 p1) (srF th (-1 : Int) a o1 e1 p1) b o2 e2 p2) (srF th (srF th (-1 : Int) a o1 e1 p1) b o2 e2 p2)) (srM (flT th (srM th (srM th [] (-1 : Int) a o1 e1 p1) (srF th (-1 : Int) a o1 e1 p1) b o2 e2 p2) (srF th (srF th (-1 : Int) a o1 e1 p1) b o2 e2 p2)) (flM (srM th (srM th [] (-1 : Int) a o1 e1 p1) (srF th (-1 : Int) a o1 e1 p1) b o2 e2 p2) (srF th (srF th (-1 : Int) a o1 e1 p1) b o2 e2 p2)) (burnF (srF th (srF th (-1 : Int) a o1 e1 p1) b o2 e2 p2)) a false e3 p3) keep torn (IntKind.i64.wrap ((IntKind.u64.wrap cut).tmod (65 : Int))))) (108 : Nat), AObj.map (CK.arr IntKind.u8 (64 : Nat)) (crM (srM (flT th (srM th (srM th [] (-1 : Int) a o1 e1 p1) (srF th (-1 : Int) a o1 e1 p1) b o2 e2 p2) (srF th (srF th (-1 : Int) a o1 e1 p1) b o2 e2 p2)) (flM (srM th (srM th [] (-1 : Int) a o1 e1 p1) (srF th (-1 : Int) a o1 e1 p1) b o2 e2 p2) (srF th (srF th (-1 : Int) a o1 e1 p1) b o2 e2 p2)) (burnF (srF th (srF th (-1 : Int) a o1 e1 p1) b o2 e2 p2)) a false e3 p3) (IntKind.i64.wrap ((IntKind.u64.wrap cut).tmod (65 : Int))))] (hr Try.f7 (9 : Nat)) (Stk.mk none false (0 : Nat) [] (0 : Nat)))))))))))))))))))))))))))) := by kernel_rfl
noncomputable def cPt9 (o1 : Bool) (e1 p1 : Int) (o2 : Bool) (e2 p2 : Int) (th : Th) (m : As) (fu a b : Int) : Cfg := ⟨sl 121 [(7, .ptr 0 0), (8, .ptr 1 0), (15, .ptr 2 0), (17, avI a), (18, avI b)], [obM o1 e1 p1, obM o2 e2 p2, obD 3 4 fu, .vec (.typ cS th) eS, .map kS m], hr Try.f7 9, {}⟩
theorem trPt9 (o1 : Bool) (e1 p1 : Int) (o2 : Bool) (e2 p2 : Int) (th : Th) (m : As) (fu a b : Int) : run P tabPt.sum Try.f7 nsPt (cPt9 o1 e1 p1 o2 e2 p2 th m fu a b) inN =
  Tree.need (Slf (some [AV.ptr (0 : Nat) (0 : Nat), AV.s (SV.int IntKind.i64 a)])) (Tree.need (Slf (some [AObj.own [AV.vec (1 : Nat), AV.mapv (2 : Nat), AV.s (SV.int IntKind.i64 fu)] (90 : Nat), AObj.vec (Con.typ [CK.arr IntKind.u8 (64 : Nat)] th) (108 : Nat), AObj.map (CK.arr IntKind.u8 (64 : Nat)) m])) (Tree.need (okD th m fu) (Tree.need (inI64 a) (Tree.need (Slf (some [AV.ptr (0 : Nat) (0 : Nat), AV.s (SV.int IntKind.i64 b)])) (Tree.need (Slf (some [AObj.own [AV.vec (1 : Nat), AV.mapv (2 : Nat), AV.s (SV.int IntKind.i64 fu)] (90 : Nat), AObj.vec (Con.typ [CK.arr IntKind.u8 (64 : Nat)] th) (108 : Nat), AObj.map (CK.arr IntKind.u8 (64 : Nat)) m])) (Tree.need (okD th m fu) (Tree.need (inI64 b) (Tree.at (Cfg.mk (sl (121 : Nat) [((7 : Nat), AV.ptr (0 : Nat) (0 : Nat)), ((8 : Nat), AV.ptr (1 : Nat) (0 : Nat)), ((19 : Nat), AV.ptr (2 : Nat) (0 : Nat)), ((20 : Nat), AV.s (SV.int IntKind.i64 (roC th a))), ((21 : Nat), AV.ptr (3 : Nat) (0 : Nat)), ((22 : Nat), AV.s (SV.int IntKind.i64 (roC th b)))]) [AObj.own [AV.s (SV.bool o1), AV.s (SV.int IntKind.i64 e1), AV.s (SV.int IntKind.i64 p1)] (23 : Nat), AObj.own [AV.s (SV.bool o2), AV.s (SV.int IntKind.i64 e2), AV.s (SV.int IntKind.i64 p2)] (23 : Nat), AObj.own [AV.s (SV.bool (roOn th m a)), AV.s (SV.int IntKind.i64 (roEp th m a)), AV.s (SV.int IntKind.i64 (roPg th m a))] (23 : Nat), AObj.own [AV.s (SV.bool (roOn th m b)), AV.s (SV.int IntKind.i64 (roEp th m b)), AV.s (SV.int IntKind.i64 (roPg th m b))] (23 : Nat)] (hr Try.f7 (11 : Nat)) (Stk.mk none false (0 : Nat) [] (0 : Nat))))))))))) := by kernel_rfl
noncomputable def cPt11 (o1 : Bool) (e1 p1 : Int) (o2 : Bool) (e2 p2 : Int) (x : Bool) (xe xp xr : Int) (y : Bool) (ye yp yr : Int) : Cfg := ⟨sl 121 [(7, .ptr 0 0), (8, .ptr 1 0), (19, .ptr 2 0), (20, avI xr), (21, .ptr 3 0), (22, avI yr)], [obM o1 e1 p1, obM o2 e2 p2, obM x xe xp, obM y ye yp], hr Try.f7 11, {}⟩
theorem trPt11 (o1 : Bool) (e1 p1 : Int) (o2 : Bool) (e2 p2 : Int) (x : Bool) (xe xp : Int) (y : Bool) (ye yp : Int) : run P tabPt.sum Try.f7 nsPt (cPt11 o1 e1 p1 o2 e2 p2 x xe xp 0 y ye yp 0) inN =
  Tree.ite true (Tree.ite true (Tree.ite (x == o1 && (xe == e1 && (xp == p1 && true))) (Tree.ret [AObj.own [AV.s (SV.bool o1), AV.s (SV.int IntKind.i64 e1), AV.s (SV.int IntKind.i64 p1)] (23 : Nat), AObj.own [AV.s (SV.bool o2), AV.s (SV.int IntKind.i64 e2), AV.s (SV.int IntKind.i64 p2)] (23 : Nat), AObj.own [AV.s (SV.bool x), AV.s (SV.int IntKind.i64 xe), AV.s (SV.int IntKind.i64 xp)] (23 : Nat), AObj.own [AV.s (SV.bool y), AV.s (SV.int IntKind.i64 ye), AV.s (SV.int IntKind.i64 yp)] (23 : Nat)] (AV.s (SV.bool (y == o2 && (ye == e2 && (yp == p2 && true)))))) (Tree.ite (!x) (Tree.ret [AObj.own [AV.s (SV.bool o1), AV.s (SV.int IntKind.i64 e1), AV.s (SV.int IntKind.i64 p1)] (23 : Nat), AObj.own [AV.s (SV.bool o2), AV.s (SV.int IntKind.i64 e2), AV.s (SV.int IntKind.i64 p2)] (23 : Nat), AObj.own [AV.s (SV.bool x), AV.s (SV.int IntKind.i64 xe), AV.s (SV.int IntKind.i64 xp)] (23 : Nat), AObj.own [AV.s (SV.bool y), AV.s (SV.int IntKind.i64 ye), AV.s (SV.int IntKind.i64 yp)] (23 : Nat)] (AV.s (SV.bool (y == o2 && (ye == e2 && (yp == p2 && true)))))) (Tree.ret [AObj.own [AV.s (SV.bool o1), AV.s (SV.int IntKind.i64 e1), AV.s (SV.int IntKind.i64 p1)] (23 : Nat), AObj.own [AV.s (SV.bool o2), AV.s (SV.int IntKind.i64 e2), AV.s (SV.int IntKind.i64 p2)] (23 : Nat), AObj.own [AV.s (SV.bool x), AV.s (SV.int IntKind.i64 xe), AV.s (SV.int IntKind.i64 xp)] (23 : Nat), AObj.own [AV.s (SV.bool y), AV.s (SV.int IntKind.i64 ye), AV.s (SV.int IntKind.i64 yp)] (23 : Nat)] (AV.s (SV.blit false))))) (Tree.ret [AObj.own [AV.s (SV.bool o1), AV.s (SV.int IntKind.i64 e1), AV.s (SV.int IntKind.i64 p1)] (23 : Nat), AObj.own [AV.s (SV.bool o2), AV.s (SV.int IntKind.i64 e2), AV.s (SV.int IntKind.i64 p2)] (23 : Nat), AObj.own [AV.s (SV.bool x), AV.s (SV.int IntKind.i64 xe), AV.s (SV.int IntKind.i64 xp)] (23 : Nat), AObj.own [AV.s (SV.bool y), AV.s (SV.int IntKind.i64 ye), AV.s (SV.int IntKind.i64 yp)] (23 : Nat)] (AV.s (SV.blit false)))) (Tree.ret [AObj.own [AV.s (SV.bool o1), AV.s (SV.int IntKind.i64 e1), AV.s (SV.int IntKind.i64 p1)] (23 : Nat), AObj.own [AV.s (SV.bool o2), AV.s (SV.int IntKind.i64 e2), AV.s (SV.int IntKind.i64 p2)] (23 : Nat), AObj.own [AV.s (SV.bool x), AV.s (SV.int IntKind.i64 xe), AV.s (SV.int IntKind.i64 xp)] (23 : Nat), AObj.own [AV.s (SV.bool y), AV.s (SV.int IntKind.i64 ye), AV.s (SV.int IntKind.i64 yp)] (23 : Nat)] (AV.s (SV.blit false))) := by kernel_rfl
def nsPm : List (Nat × Norm) := [(5, ⟨[], [2, 3, 4, 5, 11, 12, 13], 0, []⟩), (7, ⟨[], [2, 3, 4, 5, 11, 12, 13], 0, []⟩), (9, ⟨[], [2, 3, 4, 5, 11, 13], 0, []⟩), (13, ⟨[], [2, 3, 4, 5, 11, 13, 14], 0, []⟩), (14, ⟨[], [2, 3, 4, 5, 14, 15, 16], 0, []⟩)]
theorem trPm (o1 : Bool) (e1 p1 : Int) (k : Int) (keep : List Bool) (torn cut : Int) : run P tabPt.sum Try.f8 nsPm (start Try.f8 [avM o1 e1 p1, .s (.int .u8 k), avB keep, avI torn, avI cut] []) inN =
  Tree.ite (decide ((↑keep.length : Int) > (400 : Int))) (Tree.ret [AObj.own [AV.s (SV.bool o1), AV.s (SV.int IntKind.i64 e1), AV.s (SV.int IntKind.i64 p1)] (23 : Nat)] (AV.s (SV.bool true))) (Tree.ite false (Tree.ret [AObj.own [AV.s (SV.bool o1), AV.s (SV.int IntKind.i64 e1), AV.s (SV.int IntKind.i64 p1)] (23 : Nat)] (AV.s (SV.bool true))) (Tree.need ((0 : Int) ≤ (8 : Int)) (Tree.need ((8 : Int) ≤ (8 : Int)) (Tree.need ((8 : Int) ≤ (1073741824 : Int)) (Tree.need ((2 : Int) ≠ (0 : Int)) (Tree.need (inI64 (k.tmod (2 : Int))) (Tree.at (Cfg.mk (sl (113 : Nat) [((2 : Nat), AV.s (SV.ro (Con.bools keep))), ((3 : Nat), AV.s (SV.int IntKind.i64 torn)), ((4 : Nat), AV.s (SV.int IntKind.i64 cut)), ((5 : Nat), AV.ptr (0 : Nat) (0 : Nat)), ((11 : Nat), AV.ptr (1 : Nat) (0 : Nat)), ((12 : Nat), AV.s (SV.int IntKind.i64 (0 : Int))), ((13 : Nat), AV.s (SV.int IntKind.i64 (k.tmod (2 : Int))))]) [AObj.own [AV.s (SV.bool o1), AV.s (SV.int IntKind.i64 e1), AV.s (SV.int IntKind.i64 p1)] (23 : Nat), AObj.own [AV.vec (2 : Nat), AV.mapv (3 : Nat), AV.s (SV.int IntKind.i64 (-1 : Int))] (90 : Nat), AObj.vec (Con.typ [CK.arr IntKind.u8 (64 : Nat)] (List.replicate (Int.toNat (8 : Int)) (CL.d [CK.arr IntKind.u8 (64 : Nat)]))) (108 : Nat), AObj.map (CK.arr IntKind.u8 (64 : Nat)) []] (hr Try.f8 (5 : Nat)) (Stk.mk none false (0 : Nat) [] (0 : Nat)))))))))) := by kernel_rfl
noncomputable def cPm (r : Nat) (o1 : Bool) (e1 p1 : Int) (th : Th) (keep : List Bool) (torn cut a : Int) : Cfg := ⟨sl 113 [(2, avB keep), (3, avI torn), (4, avI cut), (5, .ptr 0 0), (11, .ptr 1 0), (12, avI 0), (13, avI a)], [obM o1 e1 p1, obD 2 3 (-1), .vec (.typ cS th) eS, .map kS []], hr Try.f8 r, {}⟩
theorem trPm5 (o1 : Bool) (e1 p1 : Int) (th : Th) (keep : List Bool) (torn cut a : Int) : run P tabPt.sum Try.f8 nsPm (cPm 5 o1 e1 p1 th keep torn cut a) inN =
  Tree.need ((1099511627776 : Int) ≠ (0 : Int)) (Tree.need ((1024 : Int) ≠ (0 : Int)) (Tree.at (Cfg.mk (sl (113 : Nat) [((2 : Nat), AV.s (SV.ro (Con.bools keep))), ((3 : Nat), AV.s (SV.int IntKind.i64 torn)), ((4 : Nat), AV.s (SV.int IntKind.i64 cut)), ((5 : Nat), AV.ptr (0 : Nat) (0 : Nat)), ((11 : Nat), AV.ptr (1 : Nat) (0 : Nat)), ((12 : Nat), AV.s (SV.int IntKind.i64 (0 : Int))), ((13 : Nat), AV.s (SV.int IntKind.i64 a))]) [AObj.own [AV.s (SV.bool false), AV.s (SV.int IntKind.i64 (IntKind.i64.wrap ((IntKind.u64.wrap e1).tmod (1099511627776 : Int)))), AV.s (SV.int IntKind.i64 (IntKind.i64.wrap ((IntKind.u64.wrap p1).tmod (1024 : Int))))] (23 : Nat), AObj.own [AV.vec (2 : Nat), AV.mapv (3 : Nat), AV.s (SV.int IntKind.i64 (-1 : Int))] (90 : Nat), AObj.vec (Con.typ [CK.arr IntKind.u8 (64 : Nat)] th) (108 : Nat), AObj.map (CK.arr IntKind.u8 (64 : Nat)) []] (hr Try.f8 (7 : Nat)) (Stk.mk none false (0 : Nat) [] (0 : Nat))))) := by kernel_rfl
theorem trPm7 (e1 p1 : Int) (th : Th) (keep : List Bool) (torn cut a : Int) : run P tabPt.sum Try.f8 nsPm (cPm 7 false e1 p1 th keep torn cut a) inN =
  Tree.ite false (Tree.ret [AObj.own [AV.s (SV.bool false), AV.s (SV.int IntKind.i64 e1), AV.s (SV.int IntKind.i64 p1)] (23 : Nat), AObj.own [AV.vec (2 : Nat), AV.mapv (3 : Nat), AV.s (SV.int IntKind.i64 (-1 : Int))] (90 : Nat), AObj.vec (Con.typ [CK.arr IntKind.u8 (64 : Nat)] th) (108 : Nat), AObj.map (CK.arr IntKind.u8 (64 : Nat)) []] (AV.s (SV.blit false))) (Tree.need (Slf (some [AV.ptr (0 : Nat) (0 : Nat), AV.s (SV.int IntKind.i64 a), AV.agg [AV.s (SV.bool false), AV.s (SV.int IntKind.i64 e1), AV.s (SV.int IntKind.i64 p1)]])) (Tree.need (Slf (some [AObj.own [AV.vec (1 : Nat), AV.mapv (2 : Nat), AV.s (SV.int IntKind.i64 (-1 : Int))] (90 : Nat), AObj.vec (Con.typ [CK.arr IntKind.u8 (64 : Nat)] th) (108 : Nat), AObj.map (CK.arr IntKind.u8 (64 : Nat)) []])) (Tree.need (okD th [] (-1 : Int)) (Tree.need (inI64 a) (Tree.ite (srE th (-1 : Int) a false e1 p1 != (0 : Int)) (Tree.ret [AObj.own [AV.s (SV.bool false), AV.s (SV.int IntKind.i64 e1), AV.s (SV.int IntKind.i64 p1)] (23 : Nat), AObj.own [AV.vec (2 : Nat), AV.mapv (3 : Nat), AV.s (SV.int IntKind.i64 (srF th (-1 : Int) a false e1 p1))] (90 : Nat), AObj.vec (Con.typ [CK.arr IntKind.u8 (64 : Nat)] th) (108 : Nat), AObj.map (CK.arr IntKind.u8 (64 : Nat)) (srM th [] (-1 : Int) a false e1 p1)] (AV.s (SV.blit false))) (Tree.need (Slf (some [AV.ptr (0 : Nat) (0 : Nat)])) (Tree.need (Slf (some [AObj.own [AV.vec (1 : Nat), AV.mapv (2 : Nat), AV.s (SV.int IntKind.i64 (srF th (-1 : Int) a false e1 p1))] (90 : Nat), AObj.vec (Con.typ [CK.arr IntKind.u8 (64 : Nat)] th) (108 : Nat), AObj.map (CK.arr IntKind.u8 (64 : Nat)) (srM th [] (-1 : Int) a false e1 p1)])) (Tree.need (okD th (srM th [] (-1 : Int) a false e1 p1) (srF th (-1 : Int) a false e1 p1)) (Tree.ite (flE (srF th (-1 : Int) a false e1 p1) != (0 : Int)) (Tree.ret [AObj.own [AV.s (SV.bool false), AV.s (SV.int IntKind.i64 e1), AV.s (SV.int IntKind.i64 p1)] (23 : Nat), AObj.own [AV.vec (2 : Nat), AV.mapv (3 : Nat), AV.s (SV.int IntKind.i64 (burnF (srF th (-1 : Int) a false e1 p1)))] (90 : Nat), AObj.vec (Con.typ [CK.arr IntKind.u8 (64 : Nat)] (flT th (srM th [] (-1 : Int) a false e1 p1) (srF th (-1 : Int) a false e1 p1))) (108 : Nat), AObj.map (CK.arr IntKind.u8 (64 : Nat)) (flM (srM th [] (-1 : Int) a false e1 p1) (srF th (-1 : Int) a false e1 p1))] (AV.s (SV.blit false))) (Tree.at (Cfg.mk (sl (113 : Nat) [((2 : Nat), AV.s (SV.ro (Con.bools keep))), ((3 : Nat), AV.s (SV.int IntKind.i64 torn)), ((4 : Nat), AV.s (SV.int IntKind.i64 cut)), ((5 : Nat), AV.ptr (0 : Nat) (0 : Nat)), ((11 : Nat), AV.ptr (1 : Nat) (0 : Nat)), ((13 : Nat), AV.s (SV.int IntKind.i64 a))]) [AObj.own [AV.s (SV.bool false), AV.s (SV.int IntKind.i64 e1), AV.s (SV.int IntKind.i64 p1)] (23 : Nat), AObj.own [AV.vec (2 : Nat), AV.mapv (3 : Nat), AV.s (SV.int IntKind.i64 (burnF (srF th (-1 : Int) a false e1 p1)))] (90 : Nat), AObj.vec (Con.typ [CK.arr IntKind.u8 (64 : Nat)] (flT th (srM th [] (-1 : Int) a false e1 p1) (srF th (-1 : Int) a false e1 p1))) (108 : Nat), AObj.map (CK.arr IntKind.u8 (64 : Nat)) (flM (srM th [] (-1 : Int) a false e1 p1) (srF th (-1 : Int) a false e1 p1))] (hr Try.f8 (9 : Nat)) (Stk.mk none false (0 : Nat) [] (0 : Nat))))))))))))) := by kernel_rfl
noncomputable def cPm9 (e1 p1 : Int) (th : Th) (m : As) (fu : Int) (keep : List Bool) (torn cut a : Int) : Cfg := ⟨sl 113 [(2, avB keep), (3, avI torn), (4, avI cut), (5, .ptr 0 0), (11, .ptr 1 0), (13, avI a)], [obM false e1 p1, obD 2 3 fu, .vec (.typ cS th) eS, .map kS m], hr Try.f8 9, {}⟩
theorem trPm9 (e1 p1 : Int) (th : Th) (m : As) (fu : Int) (keep : List Bool) (torn cut a : Int) : run P tabPt.sum Try.f8 nsPm (cPm9 e1 p1 th m fu keep torn cut a) inN =
  Tree.need (Slf (some [AV.ptr (0 : Nat) (0 : Nat), AV.s (SV.int IntKind.i64 a), AV.agg [AV.s (SV.bool true), AV.s (SV.int IntKind.i64 e1), AV.s (SV.int IntKind.i64 p1)]]))
  (Tree.need (Slf (some [AObj.own [AV.vec (1 : Nat), AV.mapv (2 : Nat), AV.s (SV.int IntKind.i64 fu)] (90 : Nat), AObj.vec (Con.typ [CK.arr IntKind.u8 (64 : Nat)] th) (108 : Nat), AObj.map (CK.arr IntKind.u8 (64 : Nat)) m]))
    (Tree.need (okD th m fu)
      (Tree.need (inI64 a)
        (Tree.ite (srE th fu a true e1 p1 != (0 : Int)) (Tree.ret [AObj.own [AV.s (SV.bool false), AV.s (SV.int IntKind.i64 e1), AV.s (SV.int IntKind.i64 p1)] (23 : Nat), AObj.own [AV.vec (2 : Nat), AV.mapv (3 : Nat), AV.s (SV.int IntKind.i64 (srF th fu a true e1 p1))] (90 : Nat), AObj.vec (Con.typ [CK.arr IntKind.u8 (64 : Nat)] th) (108 : Nat), AObj.map (CK.arr IntKind.u8 (64 : Nat)) (srM th m fu a true e1 p1), AObj.own [AV.s (SV.blit true), AV.s (SV.int IntKind.i64 e1), AV.s (SV.int IntKind.i64 p1)] (23 : Nat)] (AV.s (SV.blit false)))
          (Tree.need (Slf (some [AV.ptr (0 : Nat) (0 : Nat)])) (Tree.need (Slf (some [AObj.own [AV.vec (1 : Nat), AV.mapv (2 : Nat), AV.s (SV.int IntKind.i64 (srF th fu a true e1 p1))] (90 : Nat), AObj.vec (Con.typ [CK.arr IntKind.u8 (64 : Nat)] th) (108 : Nat), AObj.map (CK.arr IntKind.u8 (64 : Nat)) (srM th m fu a true e1 p1)])) (Tree.need (okD th (srM th m fu a true e1 p1) (srF th fu a true e1 p1)) (Tree.ite ((↑(asK (srM th m fu a true e1 p1)).length : Int) != (1 : Int)) (Tree.ret [AObj.own [AV.s (SV.bool false), AV.s (SV.int IntKind.i64 e1), AV.s (SV.int IntKind.i64 p1)] (23 : Nat), AObj.own [AV.vec (2 : Nat), AV.mapv (3 : Nat), AV.s (SV.int IntKind.i64 (srF th fu a true e1 p1))] (90 : Nat), AObj.vec (Con.typ [CK.arr IntKind.u8 (64 : Nat)] th) (108 : Nat), AObj.map (CK.arr IntKind.u8 (64 : Nat)) (srM th m fu a true e1 p1), AObj.own [AV.s (SV.blit true), AV.s (SV.int IntKind.i64 e1), AV.s (SV.int IntKind.i64 p1)] (23 : Nat), AObj.vec (Con.ints IntKind.i64 (asK (srM th m fu a true e1 p1))) (3 : Nat)] (AV.s (SV.blit false))) (Tree.need ((65 : Int) ≠ (0 : Int)) (Tree.need (Slf (some [AV.ptr (0 : Nat) (0 : Nat), AV.s (SV.ro (Con.bools keep)), AV.s (SV.int IntKind.i64 torn), AV.s (SV.int IntKind.i64 (IntKind.i64.wrap ((IntKind.u64.wrap cut).tmod (65 : Int))))])) (Tree.need (Slf (some [AObj.own [AV.vec (1 : Nat), AV.mapv (2 : Nat), AV.s (SV.int IntKind.i64 (srF th fu a true e1 p1))] (90 : Nat), AObj.vec (Con.typ [CK.arr IntKind.u8 (64 : Nat)] th) (108 : Nat), AObj.map (CK.arr IntKind.u8 (64 : Nat)) (srM th m fu a true e1 p1)])) (Tree.need (okD th (srM th m fu a true e1 p1) (srF th fu a true e1 p1)) (Tree.ite (crE (IntKind.i64.wrap ((IntKind.u64.wrap cut).tmod (65 : Int))) != (0 : Int)) (Tree.ret [AObj.own [AV.s (SV.bool false), AV.s (SV.int IntKind.i64 e1), AV.s (SV.int IntKind.i64 p1)] (23 : Nat), AObj.own [AV.vec (2 : Nat), AV.mapv (3 : Nat), AV.s (SV.int IntKind.i64 (crF (srF th fu a true e1 p1) (IntKind.i64.wrap ((IntKind.u64.wrap cut).tmod (65 : Int)))))] (90 : Nat), AObj.vec (Con.typ [CK.arr IntKind.u8 (64 : Nat)] (crH th (srM th m fu a true e1 p1) keep torn (IntKind.i64.wrap ((IntKind.u64.wrap cut).tmod (65 : Int))))) (108 : Nat), AObj.map (CK.arr IntKind.u8 (64 : Nat)) (crM (srM th m fu a true e1 p1) (IntKind.i64.wrap ((IntKind.u64.wrap cut).tmod (65 : Int)))), AObj.own [AV.s (SV.blit true), AV.s (SV.int IntKind.i64 e1), AV.s (SV.int IntKind.i64 p1)] (23 : Nat), AObj.vec (Con.ints IntKind.i64 (asK (srM th m fu a true e1 p1))) (3 : Nat)] (AV.s (SV.blit false))) (Tree.at (Cfg.mk (sl (113 : Nat) [((2 : Nat), AV.s (SV.ro (Con.bools keep))), ((3 : Nat), AV.s (SV.int IntKind.i64 torn)), ((4 : Nat), AV.s (SV.int IntKind.i64 cut)), ((5 : Nat), AV.ptr (0 : Nat) (0 : Nat)), ((11 : Nat), AV.ptr (1 : Nat) (0 : Nat)), ((13 : Nat), AV.s (SV.int IntKind.i64 a)), ((14 : Nat), AV.ptr (2 : Nat) (0 : Nat))]) [AObj.own [AV.s (SV.bool false), AV.s (SV.int IntKind.i64 e1), AV.s (SV.int IntKind.i64 p1)] (23 : Nat), AObj.own [AV.vec (3 : Nat), AV.mapv (4 : Nat), AV.s (SV.int IntKind.i64 (crF (srF th fu a true e1 p1) (IntKind.i64.wrap ((IntKind.u64.wrap cut).tmod (65 : Int)))))] (90 : Nat), AObj.own [AV.s (SV.bool true), AV.s (SV.int IntKind.i64 e1), AV.s (SV.int IntKind.i64 p1)] (23 : Nat), AObj.vec (Con.typ [CK.arr IntKind.u8 (64 : Nat)] (crH th (srM th m fu a true e1 p1) keep torn (IntKind.i64.wrap ((IntKind.u64.wrap cut).tmod (65 : Int))))) (108 : Nat), AObj.map (CK.arr IntKind.u8 (64 : Nat)) (crM (srM th m fu a true e1 p1) (IntKind.i64.wrap ((IntKind.u64.wrap cut).tmod (65 : Int))))] (hr Try.f8 (13 : Nat)) (Stk.mk none false (0 : Nat) [] (0 : Nat))))))))))))))))) := by kernel_rfl
noncomputable def cPm13 (e1 p1 : Int) (th : Th) (m : As) (fu : Int) (keep : List Bool) (torn cut a : Int) : Cfg := ⟨sl 113 [(2, avB keep), (3, avI torn), (4, avI cut), (5, .ptr 0 0), (11, .ptr 1 0), (13, avI a), (14, .ptr 2 0)], [obM false e1 p1, obD 3 4 fu, obM true e1 p1, .vec (.typ cS th) eS, .map kS m], hr Try.f8 13, {}⟩
theorem trPm13 (e1 p1 : Int) (th : Th) (m : As) (fu : Int) (keep : List Bool) (torn cut a : Int) : run P tabPt.sum Try.f8 nsPm (cPm13 e1 p1 th m fu keep torn cut a) inN =
  Tree.need (Slf (some [AV.ptr (0 : Nat) (0 : Nat), AV.s (SV.int IntKind.i64 a)])) (Tree.need (Slf (some [AObj.own [AV.vec (1 : Nat), AV.mapv (2 : Nat), AV.s (SV.int IntKind.i64 fu)] (90 : Nat), AObj.vec (Con.typ [CK.arr IntKind.u8 (64 : Nat)] th) (108 : Nat), AObj.map (CK.arr IntKind.u8 (64 : Nat)) m])) (Tree.need (okD th m fu) (Tree.need (inI64 a) (Tree.at (Cfg.mk (sl (113 : Nat) [((2 : Nat), AV.s (SV.ro (Con.bools keep))), ((3 : Nat), AV.s (SV.int IntKind.i64 torn)), ((4 : Nat), AV.s (SV.int IntKind.i64 cut)), ((5 : Nat), AV.ptr (0 : Nat) (0 : Nat)), ((14 : Nat), AV.ptr (1 : Nat) (0 : Nat)), ((15 : Nat), AV.ptr (2 : Nat) (0 : Nat)), ((16 : Nat), AV.s (SV.int IntKind.i64 (roC th a)))]) [AObj.own [AV.s (SV.bool false), AV.s (SV.int IntKind.i64 e1), AV.s (SV.int IntKind.i64 p1)] (23 : Nat), AObj.own [AV.s (SV.bool true), AV.s (SV.int IntKind.i64 e1), AV.s (SV.int IntKind.i64 p1)] (23 : Nat), AObj.own [AV.s (SV.bool (roOn th m a)), AV.s (SV.int IntKind.i64 (roEp th m a)), AV.s (SV.int IntKind.i64 (roPg th m a))] (23 : Nat)] (hr Try.f8 (14 : Nat)) (Stk.mk none false (0 : Nat) [] (0 : Nat))))))) := by kernel_rfl
noncomputable def cPm14 (e1 p1 : Int) (keep : List Bool) (torn cut : Int) (x : Bool) (xe xp xr : Int) : Cfg := ⟨sl 113 [(2, avB keep), (3, avI torn), (4, avI cut), (5, .ptr 0 0), (14, .ptr 1 0), (15, .ptr 2 0), (16, avI xr)], [obM false e1 p1, obM true e1 p1, obM x xe xp], hr Try.f8 14, {}⟩
theorem trPm14 (e1 p1 : Int) (keep : List Bool) (torn cut : Int) (x : Bool) (xe xp : Int) : run P tabPt.sum Try.f8 nsPm (cPm14 e1 p1 keep torn cut x xe xp 0) inN =
  Tree.ite false (Tree.ret [AObj.own [AV.s (SV.bool false), AV.s (SV.int IntKind.i64 e1), AV.s (SV.int IntKind.i64 p1)] (23 : Nat), AObj.own [AV.s (SV.bool true), AV.s (SV.int IntKind.i64 e1), AV.s (SV.int IntKind.i64 p1)] (23 : Nat), AObj.own [AV.s (SV.bool x), AV.s (SV.int IntKind.i64 xe), AV.s (SV.int IntKind.i64 xp)] (23 : Nat)] (AV.s (SV.blit false))) (Tree.ite (!(x == false && (xe == e1 && (xp == p1 && true)))) (Tree.ite (!(x == true && (xe == e1 && (xp == p1 && true)))) (Tree.ret [AObj.own [AV.s (SV.bool false), AV.s (SV.int IntKind.i64 e1), AV.s (SV.int IntKind.i64 p1)] (23 : Nat), AObj.own [AV.s (SV.bool true), AV.s (SV.int IntKind.i64 e1), AV.s (SV.int IntKind.i64 p1)] (23 : Nat), AObj.own [AV.s (SV.bool x), AV.s (SV.int IntKind.i64 xe), AV.s (SV.int IntKind.i64 xp)] (23 : Nat)] (AV.s (SV.blit false))) (Tree.ite (torn == (0 : Int)) (Tree.need ((65 : Int) ≠ (0 : Int)) (Tree.ret [AObj.own [AV.s (SV.bool false), AV.s (SV.int IntKind.i64 e1), AV.s (SV.int IntKind.i64 p1)] (23 : Nat), AObj.own [AV.s (SV.bool true), AV.s (SV.int IntKind.i64 e1), AV.s (SV.int IntKind.i64 p1)] (23 : Nat), AObj.own [AV.s (SV.bool x), AV.s (SV.int IntKind.i64 xe), AV.s (SV.int IntKind.i64 xp)] (23 : Nat)] (AV.s (SV.bool ((x == true && (xe == e1 && (xp == p1 && true))) == decide ((IntKind.u64.wrap cut).tmod (65 : Int) > (0 : Int))))))) (Tree.ite (decide ((↑keep.length : Int) > (0 : Int))) (Tree.need ((0 : Int) ≤ (0 : Int)) (Tree.need ((0 : Int) < (↑keep.length : Int)) (Tree.ret [AObj.own [AV.s (SV.bool false), AV.s (SV.int IntKind.i64 e1), AV.s (SV.int IntKind.i64 p1)] (23 : Nat), AObj.own [AV.s (SV.bool true), AV.s (SV.int IntKind.i64 e1), AV.s (SV.int IntKind.i64 p1)] (23 : Nat), AObj.own [AV.s (SV.bool x), AV.s (SV.int IntKind.i64 xe), AV.s (SV.int IntKind.i64 xp)] (23 : Nat)] (AV.s (SV.bool ((x == true && (xe == e1 && (xp == p1 && true))) == keep.getD (0 : Nat) false)))))) (Tree.ret [AObj.own [AV.s (SV.bool false), AV.s (SV.int IntKind.i64 e1), AV.s (SV.int IntKind.i64 p1)] (23 : Nat), AObj.own [AV.s (SV.bool true), AV.s (SV.int IntKind.i64 e1), AV.s (SV.int IntKind.i64 p1)] (23 : Nat), AObj.own [AV.s (SV.bool x), AV.s (SV.int IntKind.i64 xe), AV.s (SV.int IntKind.i64 xp)] (23 : Nat)] (AV.s (SV.bool ((x == true && (xe == e1 && (xp == p1 && true))) == false))))))) (Tree.ite (torn == (0 : Int)) (Tree.need ((65 : Int) ≠ (0 : Int)) (Tree.ret [AObj.own [AV.s (SV.bool false), AV.s (SV.int IntKind.i64 e1), AV.s (SV.int IntKind.i64 p1)] (23 : Nat), AObj.own [AV.s (SV.bool true), AV.s (SV.int IntKind.i64 e1), AV.s (SV.int IntKind.i64 p1)] (23 : Nat), AObj.own [AV.s (SV.bool x), AV.s (SV.int IntKind.i64 xe), AV.s (SV.int IntKind.i64 xp)] (23 : Nat)] (AV.s (SV.bool ((x == true && (xe == e1 && (xp == p1 && true))) == decide ((IntKind.u64.wrap cut).tmod (65 : Int) > (0 : Int))))))) (Tree.ite (decide ((↑keep.length : Int) > (0 : Int))) (Tree.need ((0 : Int) ≤ (0 : Int)) (Tree.need ((0 : Int) < (↑keep.length : Int)) (Tree.ret [AObj.own [AV.s (SV.bool false), AV.s (SV.int IntKind.i64 e1), AV.s (SV.int IntKind.i64 p1)] (23 : Nat), AObj.own [AV.s (SV.bool true), AV.s (SV.int IntKind.i64 e1), AV.s (SV.int IntKind.i64 p1)] (23 : Nat), AObj.own [AV.s (SV.bool x), AV.s (SV.int IntKind.i64 xe), AV.s (SV.int IntKind.i64 xp)] (23 : Nat)] (AV.s (SV.bool ((x == true && (xe == e1 && (xp == p1 && true))) == keep.getD (0 : Nat) false)))))) (Tree.ret [AObj.own [AV.s (SV.bool false), AV.s (SV.int IntKind.i64 e1), AV.s (SV.int IntKind.i64 p1)] (23 : Nat), AObj.own [AV.s (SV.bool true), AV.s (SV.int IntKind.i64 e1), AV.s (SV.int IntKind.i64 p1)] (23 : Nat), AObj.own [AV.s (SV.bool x), AV.s (SV.int IntKind.i64 xe), AV.s (SV.int IntKind.i64 xp)] (23 : Nat)] (AV.s (SV.bool ((x == true && (xe == e1 && (xp == p1 && true))) == false))))))) := by kernel_rfl
theorem tmod_in {n c : Int} (h : 0 ≤ n) (hc : 0 < c) (hc2 : c ≤ 9223372036854775808) : IntKind.i64.wrap (n.tmod c) = n.tmod c ∧ 0 ≤ n.tmod c ∧ n.tmod c < c := by
  have h0 := Int.tmod_nonneg c h
  have h1 := Int.tmod_lt_of_pos n hc
  exact ⟨wrap_i64_in ⟨by omega, by omega⟩, h0, h1⟩
theorem mayE_in (ep : Int) : IntKind.i64.wrap ((IntKind.u64.wrap ep).tmod 1099511627776) = mayE ep ∧ 0 ≤ mayE ep ∧ mayE ep < 1099511627776 := tmod_in (u64_nn ep) (by decide) (by decide)
theorem mayP_in (pg : Int) : IntKind.i64.wrap ((IntKind.u64.wrap pg).tmod 1024) = mayP pg ∧ 0 ≤ mayP pg ∧ mayP pg < 1024 := tmod_in (u64_nn pg) (by decide) (by decide)
theorem may_okM (ep pg : Int) : okMk (mayE ep) (mayP pg) := by
  have := mayE_in ep
  have := mayP_in pg
  unfold okMk
  omega
theorem may_ok {Z : Glob} : FnOk P Z 25 [tMk] [tMk] (fun _ => []) (fun ((on, ep, pg, ()), ()) => ((on, mayE ep, mayP pg, ()), ())) := by
  refine fnOk_of_safe Try.func25 (by kernel_rfl) (by kernel_rfl) ?_
  rintro ⟨⟨(on : Bool), (ep : Int), (pg : Int), ⟨⟩⟩, ⟨⟩⟩ _ _ X hX hz
  refine go hz hX Tab.Ok.nil Try.func25 (trMay on ep pg) ?_
  rw [(mayE_in ep).1, (mayP_in pg).1]
  exact ⟨by decide, by decide, rfl⟩
theorem tabPt_ok {Z : Glob} : tabPt.Ok P Z := Tab.Ok.cons may_ok.sum tabPl_ok
/-! a crash where one sector is kept aside -/
theorem cr_one {th : Th} {fu x : Int} {s : ByteArray} (hf : fu ≠ 0) (hx : inTh th x = true) (hs : s.size = 64) (keep : List Bool) (torn : Int) {cut : Int} (hc : okC cut = true) :
    asK (wrM th [] fu x s) = [x] ∧ crM (wrM th [] fu x s) cut = [] ∧ (crH th (wrM th [] fu x s) keep torn cut).length = th.length ∧
    ∀ y, inTh th y = true → nowS (crH th (wrM th [] fu x s) keep torn cut) [] y = if y = x then crS keep torn cut (nowS th [] x) (strInts s) 0 else nowS th [] y := by
  have hw : wrE th fu x s = 0 := wrE_zero.2 ⟨hx, hs, hf⟩
  have hm : asK (wrM th [] fu x s) = [x] ∧ nowA (wrM th [] fu x s) x = strInts s := by
    unfold wrM
    rw [if_pos hw]
    refine ⟨rfl, ?_⟩
    have e := mget_put (m := ([] : As)) (by simp) (n := x) (x := x) (v := strInts s)
    rw [if_pos rfl] at e
    unfold nowA
    rw [e]
    rfl
  obtain ⟨x0, x1⟩ := inTh_iff.1 hx
  generalize wrM th [] fu x s = m at *
  obtain ⟨hk, hn⟩ := hm
  refine ⟨hk, by unfold crM; rw [if_pos hc], by unfold crH; rw [if_pos hc, crT_len], fun y hy => ?_⟩
  obtain ⟨y0, y1⟩ := inTh_iff.1 hy
  unfold crH
  rw [if_pos hc, hk]
  have h := crT_get (keep := keep) (torn := torn) (cut := cut) (m := m) [x] 0 th (by simp) (by simpa using x0) y.toNat (by omega)
  have e1 : ∀ t : Th, nowS t [] y = sec t y.toNat := fun _ => rfl
  have e2 : ∀ t : Th, nowS t [] x = sec t x.toNat := fun _ => rfl
  rw [e1, e1, h, show ((y.toNat : Nat) : Int) = y from by omega]
  by_cases e : y = x
  · subst e
    rw [if_pos (by simp), if_pos rfl, e2, hn]
    simp
  · rw [if_neg (by simpa using e), if_neg e]
theorem over_zero {α : Type} (a b : List α) : over a 0 0 b = a := by simp [over]
theorem mkB_cons (on : Bool) (ep pg : Int) : ∃ t, mkB true ep pg = 1 :: t ∧ mkB false ep pg = 0 :: t ∧ mkB on ep pg = (if on = true then 1 else 0) :: t ∧ t.length = 63 := ⟨_, rfl, rfl, rfl, rfl⟩
theorem torn_off {keep : List Bool} {torn cut : Int} (hc : okC cut = true) (o : Bool) (ep pg ep' pg' : Int) :
    crS keep torn cut (mkB o ep pg) (mkB false ep' pg') 0 = mkB o ep pg ∨ rtOn (bytesStr (crS keep torn cut (mkB o ep pg) (mkB false ep' pg') 0)) = false := by
  obtain ⟨c0, c1⟩ := okC_iff.1 hc
  have zero : ∀ ws : List Int, 0 < ws.length → ws.getD 0 0 = 0 → rtOn (bytesStr ws) = false := fun ws h h0 => by
    unfold rtOn; rw [byteAt_bytes h (by rw [h0]; omega), h0]; rfl
  unfold crS
  split
  · by_cases h : cut.toNat = 0
    · rw [h, over_zero]; exact .inl rfl
    · refine .inr (zero _ ?_ ?_)
      · rw [over_length _ _ (by rw [mkB_len]; omega) (by rw [mkB_len]; omega), mkB_len]; decide
      · obtain ⟨k, hk⟩ : ∃ k, cut.toNat = k + 1 := ⟨cut.toNat - 1, by omega⟩
        rw [hk]
        rfl
  · split
    · exact .inr (zero _ (by rw [mkB_len]; decide) rfl)
    · exact .inl rfl
theorem torn_on {keep : List Bool} {torn cut : Int} (hc : okC cut = true) (ep pg : Int) :
    crS keep torn cut (mkB false ep pg) (mkB true ep pg) 0 = mkB (if 0 = torn then decide (0 < cut) else keep.getD 0 false) ep pg := by
  obtain ⟨c0, c1⟩ := okC_iff.1 hc
  obtain ⟨t, e1, e2, _, e4⟩ := mkB_cons true ep pg
  unfold crS
  by_cases h0 : (0 : Int) = torn
  · rw [if_pos (by simpa using h0), if_pos h0]
    by_cases h : cut.toNat = 0
    · rw [h, over_zero, decide_eq_false (by omega)]
    · obtain ⟨k, hk⟩ : ∃ k, cut.toNat = k + 1 := ⟨cut.toNat - 1, by omega⟩
      rw [hk, decide_eq_true (by omega), e1, e2]
      simp [over, List.take_append_drop]
  · rw [if_neg (by simpa using h0), if_neg h0]
    cases hk : keep.getD 0 false
    · rw [if_neg (by decide)]
    · rw [if_pos rfl]
end Ds

namespace Ds
open Go Go.Sx Go.Proofs Lf
theorem roC_len {th th' : Th} (h : th'.length = th.length) (k : Int) : roC th' k = roC th k := by unfold roC pgN; rw [h]
theorem nowS_rd {th : Th} {m : As} {x : Int} (h : inTh th x = true) : rdS th m x = bytesStr (nowS th m x) := by unfold rdS; rw [if_pos h]
theorem sr_now {th : Th} {m : As} {fu k ep pg : Int} {on : Bool} (hd : okD th m fu) (hf : fu ≠ 0) (hk : roC th k = 0) (h : okMk ep pg) :
    srE th fu k on ep pg = 0 ∧ srF th fu k on ep pg = burnF fu ∧ srM th m fu k on ep pg = wrM th m fu (k * 4) (mkS on ep pg) ∧ ∀ x, nowS th (srM th m fu k on ep pg) x = if x = k * 4 then mkB on ep pg else nowS th m x := by
  obtain ⟨e1, e2, _⟩ := sr_yes (on := on) hd hf hk h
  have hc : srC th k ep pg = 0 := by unfold okMk at h; unfold srC; rw [hk, if_pos rfl, if_neg (by omega)]
  have hw : wrE th fu (k * 4) (mkS on ep pg) = 0 := wrE_zero.2 ⟨roC_in hk, mkS_size _ _ _, hf⟩
  refine ⟨e1, e2, by unfold srM; rw [if_pos hc], fun x => ?_⟩
  have es : strInts (mkS on ep pg) = mkB on ep pg := strInts_bytes (mkB_byte on ep pg)
  unfold srM wrM
  rw [if_pos hc, if_pos hw]
  have := nowS_put (th := th) hd.m.1 (n := k * 4) (x := x) (v := strInts (mkS on ep pg))
  rw [es] at this
  exact (congrArg (fun v => nowS th (mput m (k * 4) v) x) es).trans this
/-! PageTorn -/
theorem pt_last {Z : Glob} {X : Ctx} (hX : ∀ id, X.H id = none) (hz : ZCtx Z X) (o1 : Bool) (e1 p1 : Int) (o2 : Bool) (e2 p2 : Int) (x : Bool) (xe xp : Int)
    (h : (x = o1 ∧ xe = e1 ∧ xp = p1) ∨ x = false) : Safe P 7 X (Ends [tBool] (true, ())) (cPt11 o1 e1 p1 o2 e2 p2 x xe xp 0 o2 e2 p2 0) := by
  have hT : tabPt.Ok P Z := tabPt_ok
  refine go hz hX hT Try.func7 (trPt11 o1 e1 p1 o2 e2 p2 x xe xp o2 e2 p2) ?_
  simp only [beq_self_eq_true, Bool.and_self]
  repeat' (with_reducible (first | refine h_eq ?_ | refine h_need ?_ ?_ | refine h_dec (fun _ => ?_) (fun _ => ?_) | refine h_beq (fun _ => ?_) (fun _ => ?_) | refine h_bne (fun _ => ?_) (fun _ => ?_) | refine h_tt ?_ | refine h_ff ?_ | refine h_not ?_ | refine h_ite (fun _ => ?_) (fun _ => ?_) | refine h_both (fun _ => ?_) (fun _ => ?_) | refine h_ret ?_ | refine h_at ?_))
  all_goals first | exact ends_b | (exfalso; rcases h with ⟨rfl, rfl, rfl⟩ | rfl <;> simp_all; done)
theorem pageTorn_ok {Z : Glob} : FnOk P Z 7 [tMk, tMk, tMk, tU8, .b (.row .bools 57), tInt, tInt] [tBool] (preWf _) (fun _ => (true, ())) := by
  refine fnOk_of_safe Try.func7 (by kernel_rfl) (by kernel_rfl) ?_
  rintro ⟨⟨(o1 : Bool), (e1 : Int), (p1 : Int), ⟨⟩⟩, ⟨(o2 : Bool), (e2 : Int), (p2 : Int), ⟨⟩⟩, ⟨(o3 : Bool), (e3 : Int), (p3 : Int), ⟨⟩⟩, (k : Int), (keep : List Bool), (torn : Int), (cut : Int), ⟨⟩⟩ _ ⟨⟨_, _, _, hk, _⟩, _⟩ X hX hz
  have hk := u8_wf hk
  show Safe P 7 X (Ends [tBool] (true, ())) _
  have hT : tabPt.Ok P Z := tabPt_ok
  refine go hz hX hT Try.func7 (trPt o1 e1 p1 o2 e2 p2 o3 e3 p3 k keep torn cut) ?_
  have a01 : k.tmod 2 = 0 ∨ k.tmod 2 = 1 := by rw [Int.tmod_eq_emod_of_nonneg hk.1]; omega
  have hb : IntKind.u8.wrap (1 - k.tmod 2) = 1 - k.tmod 2 := by rw [wrap_u8]; omega
  rw [hb]
  generalize k.tmod 2 = a at *
  have main : Safe P 7 X (Ends [tBool] (true, ())) (cPt 5 o1 e1 p1 o2 e2 p2 o3 e3 p3 (List.replicate 8 (CL.d cS)) keep torn cut a (1 - a)) := by
    have hd : okD (List.replicate 8 (CL.d cS)) [] (-1) := ok_new (by omega)
    have hp : pgN (List.replicate 8 (CL.d cS)) = 2 := by rw [pgN_of (n := 8) (by simp)]; rfl
    generalize List.replicate 8 (CL.d cS) = th at *
    have ra : roC th a = 0 := roC_zero.2 (by omega)
    have rb : roC th (1 - a) = 0 := roC_zero.2 (by omega)
    refine go hz hX hT Try.func7 (trPt5 o1 e1 p1 o2 e2 p2 o3 e3 p3 th keep torn cut a (1 - a)) ?_
    have v1 := may_okM e1 p1
    have v2 := may_okM e2 p2
    have v3 := may_okM e3 p3
    generalize mayE e1 = e1 at *; generalize mayP p1 = p1 at *
    generalize mayE e2 = e2 at *; generalize mayP p2 = p2 at *
    generalize mayE e3 = e3 at *; generalize mayP p3 = p3 at *
    show Safe P _ X _ (cPt 7 o1 e1 p1 o2 e2 p2 false e3 p3 th keep torn cut a (1 - a))
    refine go hz hX hT Try.func7 (trPt7 o1 e1 p1 o2 e2 p2 e3 p3 th keep torn cut a (1 - a)) ?_
    obtain ⟨s1, f1, _, n1⟩ := sr_now (on := o1) hd (by decide) ra v1
    have d1 := ok_sr (k := a) (on := o1) (ep := e1) (pg := p1) hd
    rw [f1, burn_live] at d1
    rw [s1, f1]
    simp only [burn_live]
    generalize srM th [] (-1) a o1 e1 p1 = m1 at *
    obtain ⟨s2, f2, _, n2⟩ := sr_now (on := o2) d1 (by decide) rb v2
    have d2 := ok_sr (k := 1 - a) (on := o2) (ep := e2) (pg := p2) d1
    rw [f2, burn_live] at d2
    rw [s2, f2]
    simp only [burn_live]
    generalize srM th m1 (-1) (1 - a) o2 e2 p2 = m2 at *
    have d3 := ok_fl d2
    have fl : flE (-1) = 0 := rfl
    have fm : flM m2 (-1) = [] := rfl
    have ft : flT th m2 (-1) = ovl th m2 := rfl
    rw [fm, ft, burn_live] at d3
    rw [fl, fm, ft]
    have ol := ovl_len th m2
    have on : ∀ x, inTh th x = true → nowS (ovl th m2) [] x = nowS th m2 x := fun x hx => nowS_ovl hx
    generalize ovl th m2 = t3 at *
    have ra3 : roC t3 a = 0 := by rw [roC_len ol]; exact ra
    have rb3 : roC t3 (1 - a) = 0 := by rw [roC_len ol]; exact rb
    obtain ⟨s3, f3, w3, _⟩ := sr_now (on := false) d3 (by decide) ra3 v3
    have d4 := ok_sr (k := a) (on := false) (ep := e3) (pg := p3) d3
    rw [f3, burn_live] at d4
    obtain ⟨c1, c2, c3⟩ := tmod_in (c := 65) (u64_nn cut) (by decide) (by decide)
    rw [c1, s3, f3]
    simp only [burn_live]
    generalize (IntKind.u64.wrap cut).tmod 65 = c at *
    have hc : okC c = true := okC_iff.2 (by omega)
    have d5 := ok_cr (keep := keep) (torn := torn) (cut := c) d4
    obtain ⟨_, k2, k3, k4⟩ := cr_one (th := t3) (fu := -1) (by decide) (roC_in ra3) (mkS_size false e3 p3) keep torn hc
    rw [← w3] at k2 k3 k4
    have ce : crE c = 0 := by unfold crE; rw [if_pos hc]
    have cf : crF (-1) c = -1 := by unfold crF; rw [if_pos hc]
    rw [k2, cf] at d5
    rw [ce, k2, cf]
    generalize srM t3 [] (-1) a false e3 p3 = m3 at *
    generalize crH t3 m3 keep torn c = t5 at *
    have ra5 : roC t5 a = 0 := by rw [roC_len k3]; exact ra3
    have rb5 : roC t5 (1 - a) = 0 := by rw [roC_len k3]; exact rb3
    have ia : inTh th (a * 4) = true := roC_in ra
    have ib : inTh th ((1 - a) * 4) = true := roC_in rb
    have ga : rdS t5 [] (a * 4) = bytesStr (crS keep torn c (mkB o1 e1 p1) (mkB false e3 p3) 0) := by
      rw [nowS_rd (roC_in ra5), k4 _ (roC_in ra3), if_pos rfl, on _ ia, n2, if_neg (by omega), n1, if_pos rfl, show strInts (mkS false e3 p3) = mkB false e3 p3 from strInts_bytes (mkB_byte false e3 p3)]
    have gb : rdS t5 [] ((1 - a) * 4) = mkS o2 e2 p2 := by
      rw [nowS_rd (roC_in rb5), k4 _ (roC_in rb3), if_neg (by omega), on _ ib, n2, if_pos rfl]
      rfl
    have fin : Safe P 7 X (Ends [tBool] (true, ())) (cPt9 o1 e1 p1 o2 e2 p2 t5 [] (-1) a (1 - a)) := by
      refine go hz hX hT Try.func7 (trPt9 o1 e1 p1 o2 e2 p2 t5 [] (-1) a (1 - a)) ⟨rfl, rfl, d5, ⟨by omega, by omega⟩, rfl, rfl, d5, ⟨by omega, by omega⟩, ?_⟩
      obtain ⟨x1, x2, x3⟩ := ro_of ra5 ga
      obtain ⟨y1, y2, y3⟩ := ro_of rb5 gb
      obtain ⟨z1, z2, z3⟩ := rt_mk (on := o2) v2
      rw [ra5, rb5, y1, y2, y3, z1, z2, z3]
      refine pt_last hX hz o1 e1 p1 o2 e2 p2 _ _ _ ?_
      rw [x1, x2, x3]
      rcases torn_off (keep := keep) (torn := torn) hc o1 e1 p1 e3 p3 with h | h
      · rw [h]; exact .inl (rt_mk v1)
      · exact .inr h
    repeat' (with_reducible (first | refine h_eq ?_ | refine h_need ?_ ?_ | refine h_dec (fun _ => ?_) (fun _ => ?_) | refine h_beq (fun _ => ?_) (fun _ => ?_) | refine h_bne (fun _ => ?_) (fun _ => ?_) | refine h_tt ?_ | refine h_ff ?_ | refine h_not ?_ | refine h_ite (fun _ => ?_) (fun _ => ?_) | refine h_both (fun _ => ?_) (fun _ => ?_) | refine h_ret ?_ | refine h_at ?_))
    all_goals first | trivial | rfl | assumption | omega | exact ⟨by omega, by omega⟩ | exact fin | (exfalso; simp_all; done)
  repeat' (with_reducible (first | refine h_eq ?_ | refine h_need ?_ ?_ | refine h_dec (fun _ => ?_) (fun _ => ?_) | refine h_beq (fun _ => ?_) (fun _ => ?_) | refine h_bne (fun _ => ?_) (fun _ => ?_) | refine h_tt ?_ | refine h_ff ?_ | refine h_not ?_ | refine h_ite (fun _ => ?_) (fun _ => ?_) | refine h_both (fun _ => ?_) (fun _ => ?_) | refine h_ret ?_ | refine h_at ?_))
  all_goals first | exact main | omega | exact ⟨by omega, by omega⟩ | decide | exact ends_b
/-! PageMarked -/
theorem pm_last {Z : Glob} {X : Ctx} (hX : ∀ id, X.H id = none) (hz : ZCtx Z X) (e1 p1 : Int) (keep : List Bool) (torn cut : Int) (x : Bool)
    (h : x = if 0 = torn then decide (0 < (IntKind.u64.wrap cut).tmod 65) else keep.getD 0 false) : Safe P 8 X (Ends [tBool] (true, ())) (cPm14 e1 p1 keep torn cut x e1 p1 0) := by
  have hT : tabPt.Ok P Z := tabPt_ok
  refine go hz hX hT Try.func8 (trPm14 e1 p1 keep torn cut x e1 p1) ?_
  have h0 : ¬ ((keep.length : Int) > 0) → keep.getD 0 false = false := fun h => by
    have : keep = [] := List.eq_nil_of_length_eq_zero (by omega)
    rw [this]; rfl
  simp only [beq_self_eq_true, Bool.and_true]
  have hd : ∀ n : Int, decide (n > 0) = decide (0 < n) := fun _ => rfl
  simp only [hd]
  generalize (IntKind.u64.wrap cut).tmod 65 = c at *
  have tb : ∀ b : Bool, (b == true) = b := fun b => by cases b <;> rfl
  simp only [tb]
  by_cases ht : (0 : Int) = torn
  · rw [if_pos ht] at h
    subst ht
    rw [← h]
    cases x
    all_goals repeat' (with_reducible (first | refine h_eq ?_ | refine h_need ?_ ?_ | refine h_dec (fun _ => ?_) (fun _ => ?_) | refine h_beq (fun _ => ?_) (fun _ => ?_) | refine h_bne (fun _ => ?_) (fun _ => ?_) | refine h_tt ?_ | refine h_ff ?_ | refine h_not ?_ | refine h_ite (fun _ => ?_) (fun _ => ?_) | refine h_both (fun _ => ?_) (fun _ => ?_) | refine h_ret ?_ | refine h_at ?_))
    all_goals first | omega | exact ends_b | (exfalso; simp_all; done)
  · rw [if_neg ht] at h
    rw [← h]
    cases x
    all_goals repeat' (with_reducible (first | refine h_eq ?_ | refine h_need ?_ ?_ | refine h_dec (fun _ => ?_) (fun _ => ?_) | refine h_beq (fun _ => ?_) (fun _ => ?_) | refine h_bne (fun _ => ?_) (fun _ => ?_) | refine h_tt ?_ | refine h_ff ?_ | refine h_not ?_ | refine h_ite (fun _ => ?_) (fun _ => ?_) | refine h_both (fun _ => ?_) (fun _ => ?_) | refine h_ret ?_ | refine h_at ?_))
    all_goals first | omega | exact ends_b | skip
    all_goals first | contradiction | skip
    rename_i hl
    rw [h0 hl] at h
    cases h
theorem pageMarked_ok {Z : Glob} : FnOk P Z 8 [tMk, tU8, .b (.row .bools 57), tInt, tInt] [tBool] (preWf _) (fun _ => (true, ())) := by
  refine fnOk_of_safe Try.func8 (by kernel_rfl) (by kernel_rfl) ?_
  rintro ⟨⟨(o1 : Bool), (e1 : Int), (p1 : Int), ⟨⟩⟩, (k : Int), (keep : List Bool), (torn : Int), (cut : Int), ⟨⟩⟩ _ ⟨⟨_, hk, _⟩, _⟩ X hX hz
  have hk := u8_wf hk
  show Safe P 8 X (Ends [tBool] (true, ())) _
  have hT : tabPt.Ok P Z := tabPt_ok
  refine go hz hX hT Try.func8 (trPm o1 e1 p1 k keep torn cut) ?_
  have a01 : k.tmod 2 = 0 ∨ k.tmod 2 = 1 := by rw [Int.tmod_eq_emod_of_nonneg hk.1]; omega
  generalize k.tmod 2 = a at *
  have main : Safe P 8 X (Ends [tBool] (true, ())) (cPm 5 o1 e1 p1 (List.replicate 8 (CL.d cS)) keep torn cut a) := by
    have hd : okD (List.replicate 8 (CL.d cS)) [] (-1) := ok_new (by omega)
    have hp : pgN (List.replicate 8 (CL.d cS)) = 2 := by rw [pgN_of (n := 8) (by simp)]; rfl
    generalize List.replicate 8 (CL.d cS) = th at *
    have ra : roC th a = 0 := roC_zero.2 (by omega)
    refine go hz hX hT Try.func8 (trPm5 o1 e1 p1 th keep torn cut a) ?_
    rw [(mayE_in e1).1, (mayP_in p1).1]
    refine ⟨by decide, by decide, ?_⟩
    have v1 := may_okM e1 p1
    generalize mayE e1 = e1 at *; generalize mayP p1 = p1 at *
    show Safe P _ X _ (cPm 7 false e1 p1 th keep torn cut a)
    refine go hz hX hT Try.func8 (trPm7 e1 p1 th keep torn cut a) ?_
    obtain ⟨s1, f1, _, n1⟩ := sr_now (on := false) hd (by decide) ra v1
    have d2 := ok_sr (k := a) (on := false) (ep := e1) (pg := p1) hd
    rw [f1, burn_live] at d2
    rw [s1, f1]
    simp only [burn_live]
    generalize srM th [] (-1) a false e1 p1 = m2 at *
    have d3 := ok_fl d2
    have fl : flE (-1) = 0 := rfl
    have fm : flM m2 (-1) = [] := rfl
    have ft : flT th m2 (-1) = ovl th m2 := rfl
    rw [fm, ft, burn_live] at d3
    rw [fl, fm, ft]
    have ol := ovl_len th m2
    have on : ∀ x, inTh th x = true → nowS (ovl th m2) [] x = nowS th m2 x := fun x hx => nowS_ovl hx
    generalize ovl th m2 = t3 at *
    have ra3 : roC t3 a = 0 := by rw [roC_len ol]; exact ra
    have ia : inTh th (a * 4) = true := roC_in ra
    have mid : Safe P 8 X (Ends [tBool] (true, ())) (cPm9 e1 p1 t3 [] (-1) keep torn cut a) := by
      refine go hz hX hT Try.func8 (trPm9 e1 p1 t3 [] (-1) keep torn cut a) ?_
      obtain ⟨s3, f3, w3, _⟩ := sr_now (on := true) d3 (by decide) ra3 v1
      have d4 := ok_sr (k := a) (on := true) (ep := e1) (pg := p1) d3
      rw [f3, burn_live] at d4
      obtain ⟨c1, c2, c3⟩ := tmod_in (c := 65) (u64_nn cut) (by decide) (by decide)
      have last := fun x hx => pm_last (Z := Z) hX hz e1 p1 keep torn cut x hx
      rw [c1, s3, f3]
      simp only [burn_live]
      generalize (IntKind.u64.wrap cut).tmod 65 = c at *
      have hc : okC c = true := okC_iff.2 (by omega)
      have d5 := ok_cr (keep := keep) (torn := torn) (cut := c) d4
      obtain ⟨k1, k2, k3, k4⟩ := cr_one (th := t3) (fu := -1) (by decide) (roC_in ra3) (mkS_size true e1 p1) keep torn hc
      rw [← w3] at k1 k2 k3 k4
      have ce : crE c = 0 := by unfold crE; rw [if_pos hc]
      have cf : crF (-1) c = -1 := by unfold crF; rw [if_pos hc]
      rw [k2, cf] at d5
      rw [ce, k2, cf, k1]
      generalize srM t3 [] (-1) a true e1 p1 = m3 at *
      generalize crH t3 m3 keep torn c = t5 at *
      have ra5 : roC t5 a = 0 := by rw [roC_len k3]; exact ra3
      have ga : rdS t5 [] (a * 4) = mkS (if 0 = torn then decide (0 < c) else keep.getD 0 false) e1 p1 := by
        rw [nowS_rd (roC_in ra5), k4 _ (roC_in ra3), if_pos rfl, on _ ia, n1, if_pos rfl, show strInts (mkS true e1 p1) = mkB true e1 p1 from strInts_bytes (mkB_byte true e1 p1), torn_on hc]
        rfl
      have fin : Safe P 8 X (Ends [tBool] (true, ())) (cPm13 e1 p1 t5 [] (-1) keep torn cut a) := by
        refine go hz hX hT Try.func8 (trPm13 e1 p1 t5 [] (-1) keep torn cut a) ⟨rfl, rfl, d5, ⟨by omega, by omega⟩, ?_⟩
        obtain ⟨x1, x2, x3⟩ := ro_of ra5 ga
        obtain ⟨z1, z2, z3⟩ := rt_mk (on := if 0 = torn then decide (0 < c) else keep.getD 0 false) v1
        rw [ra5, x1, x2, x3, z1, z2, z3]
        exact last _ rfl
      repeat' (with_reducible (first | refine h_eq ?_ | refine h_need ?_ ?_ | refine h_dec (fun _ => ?_) (fun _ => ?_) | refine h_beq (fun _ => ?_) (fun _ => ?_) | refine h_bne (fun _ => ?_) (fun _ => ?_) | refine h_tt ?_ | refine h_ff ?_ | refine h_not ?_ | refine h_ite (fun _ => ?_) (fun _ => ?_) | refine h_both (fun _ => ?_) (fun _ => ?_) | refine h_ret ?_ | refine h_at ?_))
      all_goals first | trivial | rfl | assumption | omega | exact ⟨by omega, by omega⟩ | exact fin | (exfalso; simp_all; done)
    repeat' (with_reducible (first | refine h_eq ?_ | refine h_need ?_ ?_ | refine h_dec (fun _ => ?_) (fun _ => ?_) | refine h_beq (fun _ => ?_) (fun _ => ?_) | refine h_bne (fun _ => ?_) (fun _ => ?_) | refine h_tt ?_ | refine h_ff ?_ | refine h_not ?_ | refine h_ite (fun _ => ?_) (fun _ => ?_) | refine h_both (fun _ => ?_) (fun _ => ?_) | refine h_ret ?_ | refine h_at ?_))
    all_goals first | trivial | rfl | assumption | omega | exact ⟨by omega, by omega⟩ | exact mid | (exfalso; simp_all; done)
  repeat' (with_reducible (first | refine h_eq ?_ | refine h_need ?_ ?_ | refine h_dec (fun _ => ?_) (fun _ => ?_) | refine h_beq (fun _ => ?_) (fun _ => ?_) | refine h_bne (fun _ => ?_) (fun _ => ?_) | refine h_tt ?_ | refine h_ff ?_ | refine h_not ?_ | refine h_ite (fun _ => ?_) (fun _ => ?_) | refine h_both (fun _ => ?_) (fun _ => ?_) | refine h_ret ?_ | refine h_at ?_))
  all_goals first | exact main | omega | exact ⟨by omega, by omega⟩ | decide | exact ends_b
end Ds

namespace Ds
open Go Go.Sx Go.Proofs Lf
/-! PageBack: its trees -/
abbrev avN8 (l : List Int) : AV := .s (.ro (.ints .u8 l))
abbrev avSs (l : List ByteArray) : AV := .s (.ro (.strs l))
abbrev eW : TypeId := 58
def nsPb : List (Nat × Norm) := [(8, ⟨[], [0, 1, 2, 7, 9, 10], 0, []⟩), (11, ⟨[], [0, 1, 2, 7, 9, 10, 11], 0, []⟩), (18, ⟨[], [7, 9, 12], 0, []⟩)]
theorem trPb (ns : List Int) (bs : List ByteArray) (keep : List Bool) : run P tabPt.sum Try.f6 nsPb (start Try.f6 [avN8 ns, avSs bs, avB keep] []) inN =
  Tree.ite (decide ((↑ns.length : Int) > (60 : Int))) (Tree.ret [] (AV.s (SV.bool true))) (Tree.ite (decide ((↑keep.length : Int) > (400 : Int))) (Tree.ret [] (AV.s (SV.bool true))) (Tree.ite false (Tree.ret [] (AV.s (SV.bool true))) (Tree.need ((0 : Int) ≤ (64 : Int)) (Tree.need ((64 : Int) ≤ (64 : Int)) (Tree.need ((64 : Int) ≤ (1073741824 : Int)) (Tree.at (Cfg.mk (sl (107 : Nat) [((0 : Nat), AV.s (SV.ro (Con.ints IntKind.u8 ns))), ((1 : Nat), AV.s (SV.ro (Con.strs bs))), ((2 : Nat), AV.s (SV.ro (Con.bools keep))), ((7 : Nat), AV.ptr (0 : Nat) (0 : Nat)), ((9 : Nat), AV.vptr (1 : Nat) (0 : Nat) (0 : Nat)), ((10 : Nat), AV.s (SV.int IntKind.i64 (0 : Int)))]) [AObj.own [AV.vec (2 : Nat), AV.mapv (3 : Nat), AV.s (SV.int IntKind.i64 (-1 : Int))] (90 : Nat), AObj.vec (Con.strs (List.replicate (16 : Nat) ByteArray.empty)) (58 : Nat), AObj.vec (Con.typ [CK.arr IntKind.u8 (64 : Nat)] (List.replicate (Int.toNat (64 : Int)) (CL.d [CK.arr IntKind.u8 (64 : Nat)]))) (108 : Nat), AObj.map (CK.arr IntKind.u8 (64 : Nat)) []] (hd Try.f6 (8 : Nat)) (Stk.mk none false (0 : Nat) [] (0 : Nat))))))))) := by kernel_rfl
noncomputable def cPb (ns : List Int) (bs : List ByteArray) (keep : List Bool) (th : Th) (m : As) (fu : Int) (w : List ByteArray) (i : Int) : Cfg := ⟨sl 107 [(0, avN8 ns), (1, avSs bs), (2, avB keep), (7, .ptr 0 0), (9, .vptr 1 0 0), (10, avI i)], [obD 2 3 fu, .vec (.strs w) eW, .vec (.typ cS th) eS, .map kS m], hd Try.f6 8, {}⟩
theorem loopPb (ns : List Int) (bs : List ByteArray) (keep : List Bool) (th : Th) (m : As) (fu : Int) (w : List ByteArray) (i : Int) : run P tabPt.sum Try.f6 nsPb (cPb ns bs keep th m fu w i) inN =
  Tree.ite (decide (i < (↑ns.length : Int))) (Tree.ite (decide (i < (↑bs.length : Int))) (Tree.need ((0 : Int) ≤ i) (Tree.need (i < (↑ns.length : Int)) (Tree.need ((16 : Int) ≠ (0 : Int)) (Tree.need (inI64 ((ns.getD i.toNat (0 : Int)).tmod (16 : Int))) (Tree.need ((0 : Int) ≤ i) (Tree.need (i < (↑bs.length : Int)) (Tree.need (Slf (some [AV.ptr (0 : Nat) (0 : Nat), AV.s (SV.int IntKind.i64 ((ns.getD i.toNat (0 : Int)).tmod (16 : Int))), AV.s (SV.str (bs.getD i.toNat ByteArray.empty))])) (Tree.need (Slf (some [AObj.own [AV.vec (1 : Nat), AV.mapv (2 : Nat), AV.s (SV.int IntKind.i64 fu)] (90 : Nat), AObj.vec (Con.typ [CK.arr IntKind.u8 (64 : Nat)] th) (108 : Nat), AObj.map (CK.arr IntKind.u8 (64 : Nat)) m])) (Tree.need (okD th m fu) (Tree.need (inI64 ((ns.getD i.toNat (0 : Int)).tmod (16 : Int))) (Tree.at (Cfg.mk (sl (107 : Nat) [((0 : Nat), AV.s (SV.ro (Con.ints IntKind.u8 ns))), ((1 : Nat), AV.s (SV.ro (Con.strs bs))), ((2 : Nat), AV.s (SV.ro (Con.bools keep))), ((7 : Nat), AV.ptr (0 : Nat) (0 : Nat)), ((9 : Nat), AV.vptr (1 : Nat) (0 : Nat) (0 : Nat)), ((10 : Nat), AV.s (SV.int IntKind.i64 i)), ((11 : Nat), AV.s (SV.int IntKind.i64 (gwR th m fu ((ns.getD i.toNat (0 : Int)).tmod (16 : Int)) (bs.getD i.toNat ByteArray.empty)).snd.snd))]) [AObj.own [AV.vec (2 : Nat), AV.mapv (3 : Nat), AV.s (SV.int IntKind.i64 (gwR th m fu ((ns.getD i.toNat (0 : Int)).tmod (16 : Int)) (bs.getD i.toNat ByteArray.empty)).snd.fst)] (90 : Nat), AObj.vec (Con.strs w) (58 : Nat), AObj.vec (Con.typ [CK.arr IntKind.u8 (64 : Nat)] th) (108 : Nat), AObj.map (CK.arr IntKind.u8 (64 : Nat)) (gwR th m fu ((ns.getD i.toNat (0 : Int)).tmod (16 : Int)) (bs.getD i.toNat ByteArray.empty)).fst] (hr Try.f6 (11 : Nat)) (Stk.mk none false (0 : Nat) [] (0 : Nat)))))))))))))) (Tree.need (Slf (some [AV.ptr (0 : Nat) (0 : Nat)])) (Tree.need (Slf (some [AObj.own [AV.vec (1 : Nat), AV.mapv (2 : Nat), AV.s (SV.int IntKind.i64 fu)] (90 : Nat), AObj.vec (Con.typ [CK.arr IntKind.u8 (64 : Nat)] th) (108 : Nat), AObj.map (CK.arr IntKind.u8 (64 : Nat)) m])) (Tree.need (okD th m fu) (Tree.ite (flE fu != (0 : Int)) (Tree.ret [AObj.own [AV.vec (2 : Nat), AV.mapv (3 : Nat), AV.s (SV.int IntKind.i64 (burnF fu))] (90 : Nat), AObj.vec (Con.strs w) (58 : Nat), AObj.vec (Con.typ [CK.arr IntKind.u8 (64 : Nat)] (flT th m fu)) (108 : Nat), AObj.map (CK.arr IntKind.u8 (64 : Nat)) (flM m fu)] (AV.s (SV.blit false))) (Tree.need (Slf (some [AV.ptr (0 : Nat) (0 : Nat), AV.s (SV.ro (Con.bools keep)), AV.s (SV.int IntKind.i64 (0 : Int)), AV.s (SV.int IntKind.i64 (0 : Int))])) (Tree.need (Slf (some [AObj.own [AV.vec (1 : Nat), AV.mapv (2 : Nat), AV.s (SV.int IntKind.i64 (burnF fu))] (90 : Nat), AObj.vec (Con.typ [CK.arr IntKind.u8 (64 : Nat)] (flT th m fu)) (108 : Nat), AObj.map (CK.arr IntKind.u8 (64 : Nat)) (flM m fu)])) (Tree.need (okD (flT th m fu) (flM m fu) (burnF fu)) (Tree.ite false (Tree.ret [AObj.own [AV.vec (2 : Nat), AV.mapv (3 : Nat), AV.s (SV.int IntKind.i64 (crF (burnF fu) (0 : Int)))] (90 : Nat), AObj.vec (Con.strs w) (58 : Nat), AObj.vec (Con.typ [CK.arr IntKind.u8 (64 : Nat)] (crH (flT th m fu) (flM m fu) keep (0 : Int) (0 : Int))) (108 : Nat), AObj.map (CK.arr IntKind.u8 (64 : Nat)) (crM (flM m fu) (0 : Int))] (AV.s (SV.blit false))) (Tree.at (Cfg.mk (sl (107 : Nat) [((7 : Nat), AV.ptr (0 : Nat) (0 : Nat)), ((9 : Nat), AV.vptr (1 : Nat) (0 : Nat) (0 : Nat)), ((12 : Nat), AV.s (SV.int IntKind.i64 (0 : Int)))]) [AObj.own [AV.vec (2 : Nat), AV.mapv (3 : Nat), AV.s (SV.int IntKind.i64 (crF (burnF fu) (0 : Int)))] (90 : Nat), AObj.vec (Con.strs w) (58 : Nat), AObj.vec (Con.typ [CK.arr IntKind.u8 (64 : Nat)] (crH (flT th m fu) (flM m fu) keep (0 : Int) (0 : Int))) (108 : Nat), AObj.map (CK.arr IntKind.u8 (64 : Nat)) (crM (flM m fu) (0 : Int))] (hd Try.f6 (18 : Nat)) (Stk.mk none false (0 : Nat) [] (0 : Nat)))))))))))))
  (Tree.need (Slf (some [AV.ptr (0 : Nat) (0 : Nat)])) (Tree.need (Slf (some [AObj.own [AV.vec (1 : Nat), AV.mapv (2 : Nat), AV.s (SV.int IntKind.i64 fu)] (90 : Nat), AObj.vec (Con.typ [CK.arr IntKind.u8 (64 : Nat)] th) (108 : Nat), AObj.map (CK.arr IntKind.u8 (64 : Nat)) m])) (Tree.need (okD th m fu) (Tree.ite (flE fu != (0 : Int)) (Tree.ret [AObj.own [AV.vec (2 : Nat), AV.mapv (3 : Nat), AV.s (SV.int IntKind.i64 (burnF fu))] (90 : Nat), AObj.vec (Con.strs w) (58 : Nat), AObj.vec (Con.typ [CK.arr IntKind.u8 (64 : Nat)] (flT th m fu)) (108 : Nat), AObj.map (CK.arr IntKind.u8 (64 : Nat)) (flM m fu)] (AV.s (SV.blit false))) (Tree.need (Slf (some [AV.ptr (0 : Nat) (0 : Nat), AV.s (SV.ro (Con.bools keep)), AV.s (SV.int IntKind.i64 (0 : Int)), AV.s (SV.int IntKind.i64 (0 : Int))])) (Tree.need (Slf (some [AObj.own [AV.vec (1 : Nat), AV.mapv (2 : Nat), AV.s (SV.int IntKind.i64 (burnF fu))] (90 : Nat), AObj.vec (Con.typ [CK.arr IntKind.u8 (64 : Nat)] (flT th m fu)) (108 : Nat), AObj.map (CK.arr IntKind.u8 (64 : Nat)) (flM m fu)])) (Tree.need (okD (flT th m fu) (flM m fu) (burnF fu)) (Tree.ite false (Tree.ret [AObj.own [AV.vec (2 : Nat), AV.mapv (3 : Nat), AV.s (SV.int IntKind.i64 (crF (burnF fu) (0 : Int)))] (90 : Nat), AObj.vec (Con.strs w) (58 : Nat), AObj.vec (Con.typ [CK.arr IntKind.u8 (64 : Nat)] (crH (flT th m fu) (flM m fu) keep (0 : Int) (0 : Int))) (108 : Nat), AObj.map (CK.arr IntKind.u8 (64 : Nat)) (crM (flM m fu) (0 : Int))] (AV.s (SV.blit false))) (Tree.at (Cfg.mk (sl (107 : Nat) [((7 : Nat), AV.ptr (0 : Nat) (0 : Nat)), ((9 : Nat), AV.vptr (1 : Nat) (0 : Nat) (0 : Nat)), ((12 : Nat), AV.s (SV.int IntKind.i64 (0 : Int)))]) [AObj.own [AV.vec (2 : Nat), AV.mapv (3 : Nat), AV.s (SV.int IntKind.i64 (crF (burnF fu) (0 : Int)))] (90 : Nat), AObj.vec (Con.strs w) (58 : Nat), AObj.vec (Con.typ [CK.arr IntKind.u8 (64 : Nat)] (crH (flT th m fu) (flM m fu) keep (0 : Int) (0 : Int))) (108 : Nat), AObj.map (CK.arr IntKind.u8 (64 : Nat)) (crM (flM m fu) (0 : Int))] (hd Try.f6 (18 : Nat)) (Stk.mk none false (0 : Nat) [] (0 : Nat)))))))))))) := by kernel_rfl
noncomputable def cPb11 (ns : List Int) (bs : List ByteArray) (keep : List Bool) (th : Th) (m : As) (fu : Int) (w : List ByteArray) (i e : Int) : Cfg := ⟨sl 107 [(0, avN8 ns), (1, avSs bs), (2, avB keep), (7, .ptr 0 0), (9, .vptr 1 0 0), (10, avI i), (11, avI e)], [obD 2 3 fu, .vec (.strs w) eW, .vec (.typ cS th) eS, .map kS m], hr Try.f6 11, {}⟩
theorem loopPb11 (ns : List Int) (bs : List ByteArray) (keep : List Bool) (th : Th) (m : As) (fu : Int) (w : List ByteArray) (i e : Int) : run P tabPt.sum Try.f6 nsPb (cPb11 ns bs keep th m fu w i e) inN =
  Tree.need ((0 : Int) ≤ i) (Tree.need (i < (↑bs.length : Int)) (Tree.ite (!(e == (0 : Int)) == decide ((↑(bs.getD i.toNat ByteArray.empty).size : Int) ≤ (254 : Int))) (Tree.ret [AObj.own [AV.vec (2 : Nat), AV.mapv (3 : Nat), AV.s (SV.int IntKind.i64 fu)] (90 : Nat), AObj.vec (Con.strs w) (58 : Nat), AObj.vec (Con.typ [CK.arr IntKind.u8 (64 : Nat)] th) (108 : Nat), AObj.map (CK.arr IntKind.u8 (64 : Nat)) m] (AV.s (SV.blit false))) (Tree.ite (e == (0 : Int)) (Tree.need ((0 : Int) ≤ i) (Tree.need (i < (↑ns.length : Int)) (Tree.need ((16 : Int) ≠ (0 : Int)) (Tree.need ((0 : Int) ≤ i) (Tree.need (i < (↑bs.length : Int)) (Tree.need ((0 : Int) ≤ (ns.getD i.toNat (0 : Int)).tmod (16 : Int)) (Tree.need ((ns.getD i.toNat (0 : Int)).tmod (16 : Int) < (↑(16 : Nat) : Int)) (Tree.need ((↑(0 : Nat) : Int) + (ns.getD i.toNat (0 : Int)).tmod (16 : Int) < (↑w.length : Int)) (Tree.need (inI64 (i + (1 : Int))) (Tree.at (Cfg.mk (sl (107 : Nat) [((0 : Nat), AV.s (SV.ro (Con.ints IntKind.u8 ns))), ((1 : Nat), AV.s (SV.ro (Con.strs bs))), ((2 : Nat), AV.s (SV.ro (Con.bools keep))), ((7 : Nat), AV.ptr (0 : Nat) (0 : Nat)), ((9 : Nat), AV.vptr (1 : Nat) (0 : Nat) (0 : Nat)), ((10 : Nat), AV.s (SV.int IntKind.i64 (i + (1 : Int))))]) [AObj.own [AV.vec (2 : Nat), AV.mapv (3 : Nat), AV.s (SV.int IntKind.i64 fu)] (90 : Nat), AObj.vec (Con.strs (w.set ((0 : Nat) + ((ns.getD i.toNat (0 : Int)).tmod (16 : Int)).toNat) (bs.getD i.toNat ByteArray.empty))) (58 : Nat), AObj.vec (Con.typ [CK.arr IntKind.u8 (64 : Nat)] th) (108 : Nat), AObj.map (CK.arr IntKind.u8 (64 : Nat)) m] (hd Try.f6 (8 : Nat)) (Stk.mk none false (0 : Nat) [] (0 : Nat))))))))))))) (Tree.need (inI64 (i + (1 : Int))) (Tree.at (Cfg.mk (sl (107 : Nat) [((0 : Nat), AV.s (SV.ro (Con.ints IntKind.u8 ns))), ((1 : Nat), AV.s (SV.ro (Con.strs bs))), ((2 : Nat), AV.s (SV.ro (Con.bools keep))), ((7 : Nat), AV.ptr (0 : Nat) (0 : Nat)), ((9 : Nat), AV.vptr (1 : Nat) (0 : Nat) (0 : Nat)), ((10 : Nat), AV.s (SV.int IntKind.i64 (i + (1 : Int))))]) [AObj.own [AV.vec (2 : Nat), AV.mapv (3 : Nat), AV.s (SV.int IntKind.i64 fu)] (90 : Nat), AObj.vec (Con.strs w) (58 : Nat), AObj.vec (Con.typ [CK.arr IntKind.u8 (64 : Nat)] th) (108 : Nat), AObj.map (CK.arr IntKind.u8 (64 : Nat)) m] (hd Try.f6 (8 : Nat)) (Stk.mk none false (0 : Nat) [] (0 : Nat)))))))) := by kernel_rfl
noncomputable def cPb18 (th : Th) (m : As) (fu : Int) (w : List ByteArray) (i : Int) : Cfg := ⟨sl 107 [(7, .ptr 0 0), (9, .vptr 1 0 0), (12, avI i)], [obD 2 3 fu, .vec (.strs w) eW, .vec (.typ cS th) eS, .map kS m], hd Try.f6 18, {}⟩
theorem loopPb18 (th : Th) (m : As) (fu : Int) (w : List ByteArray) (i : Int) : run P tabPt.sum Try.f6 nsPb (cPb18 th m fu w i) inN =
  Tree.ite (decide (i < (16 : Int))) (Tree.need (Slf (some [AV.ptr (0 : Nat) (0 : Nat), AV.s (SV.int IntKind.i64 i)])) (Tree.need (Slf (some [AObj.own [AV.vec (1 : Nat), AV.mapv (2 : Nat), AV.s (SV.int IntKind.i64 fu)] (90 : Nat), AObj.vec (Con.typ [CK.arr IntKind.u8 (64 : Nat)] th) (108 : Nat), AObj.map (CK.arr IntKind.u8 (64 : Nat)) m])) (Tree.need (okD th m fu) (Tree.need (inI64 i) (Tree.ite (grE th m i != (0 : Int)) (Tree.ret [AObj.own [AV.vec (2 : Nat), AV.mapv (3 : Nat), AV.s (SV.int IntKind.i64 fu)] (90 : Nat), AObj.vec (Con.strs w) (58 : Nat), AObj.vec (Con.typ [CK.arr IntKind.u8 (64 : Nat)] th) (108 : Nat), AObj.map (CK.arr IntKind.u8 (64 : Nat)) m] (AV.s (SV.blit false))) (Tree.need ((0 : Int) ≤ i) (Tree.need (i < (↑(16 : Nat) : Int)) (Tree.need ((↑(0 : Nat) : Int) + i < (↑w.length : Int)) (Tree.ite (!decide (grS th m i = w.getD ((0 : Nat) + i.toNat) ByteArray.empty)) (Tree.ret [AObj.own [AV.vec (2 : Nat), AV.mapv (3 : Nat), AV.s (SV.int IntKind.i64 fu)] (90 : Nat), AObj.vec (Con.strs w) (58 : Nat), AObj.vec (Con.typ [CK.arr IntKind.u8 (64 : Nat)] th) (108 : Nat), AObj.map (CK.arr IntKind.u8 (64 : Nat)) m] (AV.s (SV.blit false))) (Tree.need (inI64 (i + (1 : Int))) (Tree.at (Cfg.mk (sl (107 : Nat) [((7 : Nat), AV.ptr (0 : Nat) (0 : Nat)), ((9 : Nat), AV.vptr (1 : Nat) (0 : Nat) (0 : Nat)), ((12 : Nat), AV.s (SV.int IntKind.i64 (i + (1 : Int))))]) [AObj.own [AV.vec (2 : Nat), AV.mapv (3 : Nat), AV.s (SV.int IntKind.i64 fu)] (90 : Nat), AObj.vec (Con.strs w) (58 : Nat), AObj.vec (Con.typ [CK.arr IntKind.u8 (64 : Nat)] th) (108 : Nat), AObj.map (CK.arr IntKind.u8 (64 : Nat)) m] (hd Try.f6 (18 : Nat)) (Stk.mk none false (0 : Nat) [] (0 : Nat)))))))))))))) (Tree.ret [AObj.own [AV.vec (2 : Nat), AV.mapv (3 : Nat), AV.s (SV.int IntKind.i64 fu)] (90 : Nat), AObj.vec (Con.strs w) (58 : Nat), AObj.vec (Con.typ [CK.arr IntKind.u8 (64 : Nat)] th) (108 : Nat), AObj.map (CK.arr IntKind.u8 (64 : Nat)) m] (AV.s (SV.blit true))) := by kernel_rfl
end Ds

/-! What is read of pages behind a write, a flush and a crash. -/
namespace Ds
open Go Go.Sx Go.Proofs Lf
theorem wrG_ok {th : Th} {n : Int} {ws : List Int} (hp : pOk th n = true) (hw : ws.length = 256) : ∀ (j k : Nat) (m : As), k + j = 4 → okD th m (-1) →
    (wrG th n ws j k m (-1)).2 = (-1, 0) ∧ (∀ i : Nat, k ≤ i → i < 4 → rdS th (wrG th n ws j k m (-1)).1 (n * 4 + (i : Int)) = secS ws i) ∧
      ∀ x, (∀ i : Nat, k ≤ i → i < 4 → x ≠ n * 4 + (i : Int)) → rdS th (wrG th n ws j k m (-1)).1 x = rdS th m x
  | 0, k, m, hk, hd => ⟨rfl, fun i h1 h2 => by omega, fun x _ => rfl⟩
  | j + 1, k, m, hk, hd => by
    have hin := pOk_in hp (show k < 4 by omega)
    have hs := secS_size hw (show k < 4 by omega)
    have he : wrE th (-1) (n * 4 + (k : Int)) (secS ws k) = 0 := wrE_zero.2 ⟨hin, hs, by decide⟩
    have hf : wrF th (-1) (n * 4 + (k : Int)) (secS ws k) = -1 := by unfold wrF; rw [if_pos ⟨hin, hs⟩]; rfl
    have hd' := ok_wr (n := n * 4 + (k : Int)) (s := secS ws k) hd
    have hr := fun x => rd_wr (n := n * 4 + (k : Int)) (x := x) (s := secS ws k) hd
    rw [hf] at hd'
    obtain ⟨h1, h2, h3⟩ := wrG_ok hp hw j (k + 1) _ (by omega) hd'
    unfold wrG
    rw [if_pos he, hf]
    refine ⟨h1, fun i hi hi4 => ?_, fun x hx => ?_⟩
    · by_cases e : i = k
      · subst e
        rw [h3 _ (fun i' a b => by omega), hr, if_pos ⟨he, rfl⟩]
      · exact h2 i (by omega) hi4
    · rw [h3 x (fun i a b => hx i (by omega) b), hr, if_neg (fun h => hx k (Nat.le_refl _) (by omega) h.2)]
theorem pgL_congr {th th' : Th} {m m' : As} {n : Int} : ∀ k : Nat, (∀ i : Nat, i < k → rdS th m (n * 4 + (i : Int)) = rdS th' m' (n * 4 + (i : Int))) → pgL th m n k = pgL th' m' n k
  | 0, _ => rfl
  | k + 1, h => by rw [pgL, pgL, pgL_congr k (fun i hi => h i (by omega)), h k (by omega)]
theorem gr_congr {th th' : Th} {m m' : As} {n : Int} (hl : th'.length = th.length) (h : ∀ i : Nat, i < 4 → rdS th m (n * 4 + (i : Int)) = rdS th' m' (n * 4 + (i : Int))) :
    grE th' m' n = grE th m n ∧ grS th' m' n = grS th m n := by
  have e : pgA th' m' n = pgA th m n := (pgL_congr 4 h).symm
  have ep : pOk th' n = pOk th n := by unfold pOk pgN; rw [hl]
  have eg : grE th' m' n = grE th m n := by unfold grE; rw [e, ep]
  exact ⟨eg, by unfold grS; rw [eg, e]⟩
theorem gr_pgA {th : Th} {m : As} {n : Int} {s : ByteArray} (hp : pOk th n = true) (hs : s.size ≤ 254) (h : pgA th m n = pgB s) : grE th m n = 0 ∧ grS th m n = s := by
  have hl : long2 (pgB s) = (s.size : Int) := by
    unfold long2 pgB
    show (s.size : Int) / 256 * 256 + (s.size : Int) % 256 = s.size
    omega
  have e : grE th m n = 0 := by unfold grE; rw [if_pos hp, h, hl, if_neg (by omega)]
  refine ⟨e, ?_⟩
  unfold grS
  rw [if_pos e, h, hl, Int.toNat_natCast]
  unfold pgB
  show bytesStr ((strInts s ++ List.replicate (254 - s.size) 0).take s.size) = s
  rw [List.take_append_of_le_length (by rw [strInts_len']; exact Nat.le_refl _), List.take_of_length_le (by rw [strInts_len']; exact Nat.le_refl _), bytes_strInts]
theorem secs_all {ws : List Int} (hw : ws.length = 256) (hb : ∀ x ∈ ws, 0 ≤ x ∧ x ≤ 255) : strInts (secS ws 0) ++ strInts (secS ws 1) ++ strInts (secS ws 2) ++ strInts (secS ws 3) = ws := by
  have e : ∀ k, strInts (secS ws k) = (ws.drop (64 * k)).take 64 := fun k => strInts_bytes fun x hx => hb x (List.mem_of_mem_drop (List.mem_of_mem_take hx))
  rw [e, e, e, e]
  have h3 : (ws.drop (64 * 3)).take 64 = ws.drop 192 := List.take_of_length_le (by rw [List.length_drop]; omega)
  rw [h3]
  have d : ∀ k, (ws.drop k).take 64 ++ ws.drop (k + 64) = ws.drop k := fun k => by rw [← List.drop_drop, List.take_append_drop]
  have d2 := d 128
  have d1 := d 64
  have d0 := d 0
  simp only [List.append_assoc]
  rw [show 64 * 2 = 128 from rfl, d2, show 64 * 1 = 64 from rfl, d1, show 64 * 0 = 0 from rfl, d0]
  rfl
theorem gw_yes {th : Th} {m : As} {n : Int} {s : ByteArray} (hd : okD th m (-1)) (hp : pOk th n = true) (hs : s.size ≤ 254) :
    (gwR th m (-1) n s).2 = (-1, 0) ∧ grE th (gwR th m (-1) n s).1 n = 0 ∧ grS th (gwR th m (-1) n s).1 n = s ∧
      ∀ p, p ≠ n → grE th (gwR th m (-1) n s).1 p = grE th m p ∧ grS th (gwR th m (-1) n s).1 p = grS th m p := by
  have hl := pgB_len hs
  obtain ⟨h1, h2, h3⟩ := wrG_ok hp hl 4 0 m rfl hd
  have ec : gwC th n s = 0 := by unfold gwC; rw [if_pos hp, if_neg (by omega)]
  unfold gwR
  rw [ec, if_pos rfl]
  have e : pgA th (wrG th n (pgB s) 4 0 m (-1)).1 n = pgB s := by
    show pgL _ _ _ 4 = _
    simp only [pgL, List.nil_append]
    rw [h2 0 (by omega) (by omega), h2 1 (by omega) (by omega), h2 2 (by omega) (by omega), h2 3 (by omega) (by omega)]
    exact secs_all hl (fun x hx => pgB_byte x hx hs)
  obtain ⟨g1, g2⟩ := gr_pgA hp hs e
  refine ⟨h1, g1, g2, fun p hpn => gr_congr rfl fun i hi => (h3 _ fun i' _ hi' => by omega).symm⟩
theorem gw_no {th : Th} {m : As} {fu n : Int} {s : ByteArray} (hp : pOk th n = true) (hs : ¬ s.size ≤ 254) : gwR th m fu n s = (m, fu, 40) := by
  have ec : gwC th n s = 40 := by unfold gwC; rw [if_pos hp, if_pos (by omega)]
  unfold gwR
  rw [ec, if_neg (by decide)]
theorem gr_zero {n : Nat} {p : Int} (hp : pOk (List.replicate n (CL.d cS)) p = true) : grE (List.replicate n (CL.d cS)) [] p = 0 ∧ grS (List.replicate n (CL.d cS)) [] p = ByteArray.empty := by
  refine gr_pgA hp (by decide) ?_
  have h : ∀ k : Nat, k < 4 → rdS (List.replicate n (CL.d cS)) [] (p * 4 + (k : Int)) = bytesStr (List.replicate 64 0) := fun k hk => by
    have := inTh_iff.1 (pOk_in hp hk)
    exact rd_zero this.1 (by simpa using this.2)
  show pgL _ _ _ 4 = _
  simp only [pgL, List.nil_append]
  rw [h 0 (by omega), h 1 (by omega), h 2 (by omega), h 3 (by omega)]
  kernel_rfl
theorem row_u8 {l : List Int} (h : ∀ n ∈ l, (Lit.int .u8 n).wf = true) (i : Nat) : 0 ≤ l.getD i 0 ∧ l.getD i 0 ≤ 255 := by
  by_cases hi : i < l.length
  · rw [getD_lt hi]; exact u8_wf (h _ (List.getElem_mem hi))
  · rw [show l.getD i 0 = 0 from by simp [List.getD, List.getElem?_eq_none (Nat.le_of_not_lt hi)]]; omega
theorem pageBack_ok {Z : Glob} : FnOk P Z 6 [.b (.row (.ints .u8) 35), .b (.row .strs 56), .b (.row .bools 57)] [tBool] (preWf _) (fun _ => (true, ())) := by
  refine fnOk_of_safe Try.func6 (by kernel_rfl) (by kernel_rfl) ?_
  rintro ⟨(ns : List Int), (bs : List ByteArray), (keep : List Bool), ⟨⟩⟩ _ ⟨⟨(hn : ∀ n ∈ ns, (Lit.int .u8 n).wf = true), _⟩, _⟩ X hX hz
  have hT : tabPt.Ok P Z := tabPt_ok
  show Safe P 6 X (Ends [tBool] (true, ())) _
  have inv18 : ∀ (th : Th) (m : As) (w : List ByteArray), okD th m (-1) → w.length = 16 → (∀ p : Nat, p < 16 → grE th m (p : Int) = 0 ∧ grS th m (p : Int) = w.getD p ByteArray.empty) →
      ∀ (j k : Nat), k + j = 16 → Safe P 6 X (Ends [tBool] (true, ())) (cPb18 th m (-1) w (k : Int)) := by
    intro th m w hd hw hg j
    induction j with
    | zero =>
      intro k hk
      refine go hz hX hT Try.func6 (loopPb18 th m (-1) w k) ⟨fun h => absurd (of_decide_eq_true h) (by omega), fun _ => ends_bl⟩
    | succ j ih =>
      intro k hk
      obtain ⟨g1, g2⟩ := hg k (by omega)
      have next := ih (k + 1) (by omega)
      refine go hz hX hT Try.func6 (loopPb18 th m (-1) w k) ?_
      rw [g1, g2, show (0 + (k : Int).toNat) = k from by omega]
      repeat' (with_reducible (first | refine h_eq ?_ | refine h_need ?_ ?_ | refine h_dec (fun _ => ?_) (fun _ => ?_) | refine h_beq (fun _ => ?_) (fun _ => ?_) | refine h_bne (fun _ => ?_) (fun _ => ?_) | refine h_tt ?_ | refine h_ff ?_ | refine h_not ?_ | refine h_ite (fun _ => ?_) (fun _ => ?_) | refine h_both (fun _ => ?_) (fun _ => ?_) | refine h_ret ?_ | refine h_at ?_))
      all_goals first | trivial | rfl | assumption | omega | exact ⟨by omega, by omega⟩ | exact next | (exfalso; simp_all; done)
  have done : ∀ (th : Th) (m : As) (w : List ByteArray), okD th m (-1) → th.length = 64 → w.length = 16 → (∀ p : Nat, p < 16 → grE th m (p : Int) = 0 ∧ grS th m (p : Int) = w.getD p ByteArray.empty) →
      okD (flT th m (-1)) (flM m (-1)) (burnF (-1)) ∧ Safe P 6 X (Ends [tBool] (true, ())) (cPb18 (crH (flT th m (-1)) (flM m (-1)) keep 0 0) (crM (flM m (-1)) 0) (crF (burnF (-1)) 0) w 0) := by
    intro th m w hd hl hw hg
    have d1 := ok_fl hd
    have e1 : flT th m (-1) = ovl th m := rfl
    have e2 : flM m (-1) = [] := rfl
    refine ⟨d1, ?_⟩
    have e3 : crH (flT th m (-1)) (flM m (-1)) keep 0 0 = ovl th m := rfl
    have e4 : crM (flM m (-1)) 0 = [] := rfl
    have e5 : crF (burnF (-1)) 0 = -1 := rfl
    rw [e1, e2] at d1
    rw [e3, e4, e5]
    refine inv18 (ovl th m) [] w d1 hw (fun p hp => ?_) 16 0 rfl
    obtain ⟨g1, g2⟩ := gr_congr (th := th) (th' := ovl th m) (m := m) (m' := []) (n := (p : Int)) (ovl_len th m) fun i hi => by
      have hin : inTh th ((p : Int) * 4 + (i : Int)) = true := inTh_iff.2 ⟨by omega, by omega⟩
      have hin' : inTh (ovl th m) ((p : Int) * 4 + (i : Int)) = true := by rw [inTh_len (ovl_len th m)]; exact hin
      rw [nowS_rd hin, nowS_rd hin', nowS_ovl hin]
    rw [g1, g2]
    exact hg p hp
  have inv : ∀ (j k : Nat) (th : Th) (m : As) (w : List ByteArray), k + j = ns.length → ns.length ≤ 60 → okD th m (-1) → th.length = 64 → w.length = 16 → (∀ p : Nat, p < 16 → grE th m (p : Int) = 0 ∧ grS th m (p : Int) = w.getD p ByteArray.empty) →
      Safe P 6 X (Ends [tBool] (true, ())) (cPb ns bs keep th m (-1) w (k : Int)) := by
    intro j
    induction j with
    | zero =>
      intro k th m w hk h60 hd hl hw hg
      obtain ⟨d1, fin⟩ := done th m w hd hl hw hg
      refine go hz hX hT Try.func6 (loopPb ns bs keep th m (-1) w k) ?_
      rw [show flE (-1) = 0 from rfl]
      repeat' (with_reducible (first | refine h_eq ?_ | refine h_need ?_ ?_ | refine h_dec (fun _ => ?_) (fun _ => ?_) | refine h_beq (fun _ => ?_) (fun _ => ?_) | refine h_bne (fun _ => ?_) (fun _ => ?_) | refine h_tt ?_ | refine h_ff ?_ | refine h_not ?_ | refine h_ite (fun _ => ?_) (fun _ => ?_) | refine h_both (fun _ => ?_) (fun _ => ?_) | refine h_ret ?_ | refine h_at ?_))
      all_goals first | trivial | rfl | assumption | omega | (exfalso; simp_all; done)
    | succ j ih =>
      intro k th m w hk h60 hd hl hw hg
      obtain ⟨d1, fin⟩ := done th m w hd hl hw hg
      have hr := row_u8 hn (k : Int).toNat
      have hkn : (k : Int).toNat = k := by omega
      refine go hz hX hT Try.func6 (loopPb ns bs keep th m (-1) w k) ?_
      rw [show flE (-1) = 0 from rfl]
      have n0 : 0 ≤ (ns.getD (k : Int).toNat 0).tmod 16 := Int.tmod_nonneg _ hr.1
      have n1 : (ns.getD (k : Int).toNat 0).tmod 16 < 16 := Int.tmod_lt_of_pos _ (by omega)
      have t11 := fun m' f' e' => loopPb11 ns bs keep th m' f' w (k : Int) e'
      have hkn : (k : Int).toNat = k := by omega
      generalize hn' : (ns.getD (k : Int).toNat 0).tmod 16 = n at *
      generalize hs' : bs.getD (k : Int).toNat ByteArray.empty = s at *
      have hp : pOk th n = true := pOk_iff.2 ⟨n0, by rw [pgN_of hl]; omega⟩
      have body : (k : Int) < bs.length → Safe P 6 X (Ends [tBool] (true, ())) (cPb11 ns bs keep th (gwR th m (-1) n s).1 (gwR th m (-1) n s).2.1 w (k : Int) (gwR th m (-1) n s).2.2) := by
        intro hb
        by_cases h254 : s.size ≤ 254
        · obtain ⟨w1, w2, w3, w4⟩ := gw_yes hd hp h254
          have hd' := ok_gw (n := n) (s := s) hd
          rw [w1] at hd' ⊢
          have next := ih (k + 1) th (gwR th m (-1) n s).1 (w.set n.toNat s) (by omega) h60 hd' hl (by simpa using hw) fun p hp16 => by
            by_cases e : (p : Int) = n
            · have : p = n.toNat := by omega
              rw [e, w2, w3, this]
              exact ⟨rfl, by simp [List.getD, hw, show n.toNat < 16 from by omega]⟩
            · obtain ⟨q1, q2⟩ := w4 _ e
              obtain ⟨r1, r2⟩ := hg p hp16
              rw [q1, q2]
              exact ⟨r1, by rw [r2]; simp [List.getD, List.getElem?_set_ne (show n.toNat ≠ p from by omega)]⟩
          generalize (gwR th m (-1) n s).1 = m' at *
          refine go hz hX hT Try.func6 (t11 m' (-1) 0) ?_
          rw [Nat.zero_add, decide_eq_true (show (s.size : Int) ≤ 254 from by omega), show (!(((0 : Int) == 0) == true)) = false from rfl, show ((0 : Int) == 0) = true from rfl]
          repeat' (with_reducible (first | refine h_eq ?_ | refine h_need ?_ ?_ | refine h_dec (fun _ => ?_) (fun _ => ?_) | refine h_beq (fun _ => ?_) (fun _ => ?_) | refine h_bne (fun _ => ?_) (fun _ => ?_) | refine h_tt ?_ | refine h_ff ?_ | refine h_not ?_ | refine h_ite (fun _ => ?_) (fun _ => ?_) | refine h_both (fun _ => ?_) (fun _ => ?_) | refine h_ret ?_ | refine h_at ?_))
          all_goals first | trivial | rfl | assumption | omega | exact ⟨by omega, by omega⟩ | exact next | (exfalso; simp_all; done)
        · rw [gw_no hp h254]
          have next := ih (k + 1) th m w (by omega) h60 hd hl hw hg
          refine go hz hX hT Try.func6 (t11 m (-1) 40) ?_
          rw [decide_eq_false (show ¬ (s.size : Int) ≤ 254 from by omega), show (!(((40 : Int) == 0) == false)) = false from rfl, show ((40 : Int) == 0) = false from rfl]
          repeat' (with_reducible (first | refine h_eq ?_ | refine h_need ?_ ?_ | refine h_dec (fun _ => ?_) (fun _ => ?_) | refine h_beq (fun _ => ?_) (fun _ => ?_) | refine h_bne (fun _ => ?_) (fun _ => ?_) | refine h_tt ?_ | refine h_ff ?_ | refine h_not ?_ | refine h_ite (fun _ => ?_) (fun _ => ?_) | refine h_both (fun _ => ?_) (fun _ => ?_) | refine h_ret ?_ | refine h_at ?_))
          all_goals first | trivial | rfl | assumption | omega | exact ⟨by omega, by omega⟩ | exact next | (exfalso; simp_all; done) | (exfalso; simp_all; omega)
      repeat' (with_reducible (first | refine h_eq ?_ | refine h_need ?_ ?_ | refine h_dec (fun _ => ?_) (fun _ => ?_) | refine h_beq (fun _ => ?_) (fun _ => ?_) | refine h_bne (fun _ => ?_) (fun _ => ?_) | refine h_tt ?_ | refine h_ff ?_ | refine h_not ?_ | refine h_ite (fun _ => ?_) (fun _ => ?_) | refine h_both (fun _ => ?_) (fun _ => ?_) | refine h_ret ?_ | refine h_at ?_))
      all_goals first | trivial | rfl | assumption | omega | exact ⟨by omega, by omega⟩ | exact body (by assumption) | (exfalso; simp_all; done)
  refine go hz hX hT Try.func6 (trPb ns bs keep) ?_
  repeat' (with_reducible (first | refine h_eq ?_ | refine h_need ?_ ?_ | refine h_dec (fun _ => ?_) (fun _ => ?_) | refine h_beq (fun _ => ?_) (fun _ => ?_) | refine h_bne (fun _ => ?_) (fun _ => ?_) | refine h_tt ?_ | refine h_ff ?_ | refine h_not ?_ | refine h_ite (fun _ => ?_) (fun _ => ?_) | refine h_both (fun _ => ?_) (fun _ => ?_) | refine h_ret ?_ | refine h_at ?_))
  all_goals first | exact ends_b | omega | skip
  refine inv ns.length 0 _ [] _ (by omega) (by omega) (ok_new (by omega)) (by simp) (by simp) fun p hp => ?_
  obtain ⟨e1, e2⟩ := gr_zero (n := 64) (p := (p : Int)) (pOk_iff.2 ⟨by omega, by rw [pgN_of (n := 64) (by simp)]; omega⟩)
  exact ⟨e1, e2.trans (by rw [getD_lt (by simpa using hp), List.getElem_replicate])⟩
end Ds

namespace Ds
open Go Go.Sx Go.Proofs Lf
/-! ### the document's disk -/
abbrev cK : List CK := [.int .i64, .str]
abbrev kN (x : CL cK) : Int := x.1
abbrev kT (x : CL cK) : ByteArray := x.2.1
abbrev kM (n : Int) (s : ByteArray) : CL cK := (n, s, ())
abbrev eK : TypeId := 118
abbrev eR : TypeId := 115
abbrev Kp : Type := List (CL cK)
abbrev obR (t : List ByteArray) (a : Kp) (f : Int) : AObj := .own [.s (.ro (.strs t)), .s (.ro (.typ cK a)), avI f] eR
abbrev roL : List (Nat × Nat × Bool × Con × TypeId) := [(0, 0, true, .strs [], 9), (0, 1, true, .typ cK [], eK)]
abbrev inR : List FuncId := [59, 60]
def nsRR : List (Nat × Norm) := [(4, ⟨[], [0, 1, 6], 1, roL⟩)]
noncomputable def cRR (t : List ByteArray) (a : Kp) (f n i : Int) : Cfg := ⟨sl 52 [(0, .ptr 0 0), (1, avI n), (6, avI i)], [obR t a f], hd Try.f42 4, {}⟩
theorem treeRR (t : List ByteArray) (a : Kp) (f n : Int) : run P tab0.sum Try.f42 nsRR (start Try.f42 [.ptr 0 0, avI n] [obR t a f]) inR =
  Tree.ite (decide (n < (0 : Int))) (Tree.ret [AObj.own [AV.s (SV.ro (Con.strs t)), AV.s (SV.ro (Con.typ cK a)), AV.s (SV.int IntKind.i64 f)] (115 : Nat)] (AV.tup [AV.s (SV.str ByteArray.empty), AV.s (SV.ilit IntKind.i64 (5 : Int))])) (Tree.ite (decide (n ≥ (↑t.length : Int))) (Tree.ret [AObj.own [AV.s (SV.ro (Con.strs t)), AV.s (SV.ro (Con.typ cK a)), AV.s (SV.int IntKind.i64 f)] (115 : Nat)] (AV.tup [AV.s (SV.str ByteArray.empty), AV.s (SV.ilit IntKind.i64 (5 : Int))])) (Tree.at (Cfg.mk (sl (52 : Nat) [((0 : Nat), AV.ptr (0 : Nat) (0 : Nat)), ((1 : Nat), AV.s (SV.int IntKind.i64 n)), ((6 : Nat), AV.s (SV.int IntKind.i64 (0 : Int)))]) [AObj.own [AV.s (SV.ro (Con.strs t)), AV.s (SV.ro (Con.typ cK a)), AV.s (SV.int IntKind.i64 f)] (115 : Nat)] (hd Try.f42 (4 : Nat)) (Stk.mk none false (0 : Nat) [] (0 : Nat))))) := by kernel_rfl
theorem loopRR (t : List ByteArray) (a : Kp) (f n i : Int) : run P tab0.sum Try.f42 nsRR (cRR t a f n i) inR =
  Tree.ite (decide (i < (↑(List.length a) : Int))) (Tree.need ((0 : Int) ≤ i) (Tree.need (i < (↑(List.length a) : Int)) (Tree.ite (kN (el a i) == n) (Tree.need ((0 : Int) ≤ i) (Tree.need (i < (↑(List.length a) : Int)) (Tree.ret [AObj.own [AV.s (SV.ro (Con.strs t)), AV.s (SV.ro (Con.typ cK a)), AV.s (SV.int IntKind.i64 f)] (115 : Nat)] (AV.tup [AV.s (SV.str (kT (el a i))), AV.s (SV.ilit IntKind.i64 (0 : Int))])))) (Tree.need (inI64 (i + (1 : Int))) (Tree.at (Cfg.mk (sl (52 : Nat) [((0 : Nat), AV.ptr (0 : Nat) (0 : Nat)), ((1 : Nat), AV.s (SV.int IntKind.i64 n)), ((6 : Nat), AV.s (SV.int IntKind.i64 (i + (1 : Int))))]) [AObj.own [AV.s (SV.ro (Con.strs t)), AV.s (SV.ro (Con.typ cK a)), AV.s (SV.int IntKind.i64 f)] (115 : Nat)] (hd Try.f42 (4 : Nat)) (Stk.mk none false (0 : Nat) [] (0 : Nat)))))))) (Tree.need ((0 : Int) ≤ n) (Tree.need (n < (↑t.length : Int)) (Tree.ret [AObj.own [AV.s (SV.ro (Con.strs t)), AV.s (SV.ro (Con.typ cK a)), AV.s (SV.int IntKind.i64 f)] (115 : Nat)] (AV.tup [AV.s (SV.str (t.getD n.toNat ByteArray.empty)), AV.s (SV.ilit IntKind.i64 (0 : Int))])))) := by kernel_rfl
def nsRW : List (Nat × Norm) := [(11, ⟨[(8, .typ cK [], eK)], [0, 1, 2, 8, 9, 10], 1, roL⟩), (18, ⟨[(8, .typ cK [], eK)], [0, 1, 2, 8, 9], 1, roL⟩)]
noncomputable def cRW (t : List ByteArray) (a : Kp) (f n : Int) (s : ByteArray) (l : Kp) (put : Bool) (i : Int) : Cfg := ⟨sl 91 [(0, .ptr 0 0), (1, avI n), (2, .s (.str s)), (8, .vec 1), (9, .s (.bool put)), (10, avI i)], [obR t a f, .vec (.typ cK l) eK], hd Try.f34 11, {}⟩
noncomputable def cRW18 (t : List ByteArray) (a : Kp) (f n : Int) (s : ByteArray) (l : Kp) (put : Bool) : Cfg := ⟨sl 91 [(0, .ptr 0 0), (1, avI n), (2, .s (.str s)), (8, .vec 1), (9, .s (.bool put))], [obR t a f, .vec (.typ cK l) eK], hr Try.f34 18, {}⟩
theorem treeRW (t : List ByteArray) (a : Kp) (f n : Int) (s : ByteArray) : run P tab0.sum Try.f34 nsRW (start Try.f34 [.ptr 0 0, avI n, .s (.str s)] [obR t a f]) inR =
  Tree.ite (decide (n < (0 : Int))) (Tree.ret [AObj.own [AV.s (SV.ro (Con.strs t)), AV.s (SV.ro (Con.typ cK a)), AV.s (SV.int IntKind.i64 f)] (115 : Nat)] (AV.s (SV.ilit IntKind.i64 (5 : Int)))) (Tree.ite (decide (n ≥ (↑t.length : Int))) (Tree.ret [AObj.own [AV.s (SV.ro (Con.strs t)), AV.s (SV.ro (Con.typ cK a)), AV.s (SV.int IntKind.i64 f)] (115 : Nat)] (AV.s (SV.ilit IntKind.i64 (5 : Int)))) (Tree.ite ((↑s.size : Int) != (64 : Int)) (Tree.ret [AObj.own [AV.s (SV.ro (Con.strs t)), AV.s (SV.ro (Con.typ cK a)), AV.s (SV.int IntKind.i64 f)] (115 : Nat)] (AV.s (SV.ilit IntKind.i64 (1 : Int)))) (Tree.ite (f == (0 : Int)) (Tree.ret [AObj.own [AV.s (SV.ro (Con.strs t)), AV.s (SV.ro (Con.typ cK a)), AV.s (SV.int IntKind.i64 f)] (115 : Nat)] (AV.s (SV.ilit IntKind.i64 (42 : Int)))) (Tree.ite (decide (f > (0 : Int))) (Tree.need (inI64 (f - (1 : Int))) (Tree.at (Cfg.mk (sl (91 : Nat) [((0 : Nat), AV.ptr (0 : Nat) (0 : Nat)), ((1 : Nat), AV.s (SV.int IntKind.i64 n)), ((2 : Nat), AV.s (SV.str s)), ((8 : Nat), AV.vec (1 : Nat)), ((9 : Nat), AV.s (SV.bool false)), ((10 : Nat), AV.s (SV.int IntKind.i64 (0 : Int)))]) [AObj.own [AV.s (SV.ro (Con.strs t)), AV.s (SV.ro (Con.typ cK a)), AV.s (SV.int IntKind.i64 (f - (1 : Int)))] (115 : Nat), AObj.vec (Con.typ cK []) (118 : Nat)] (hd Try.f34 (11 : Nat)) (Stk.mk none false (0 : Nat) [] (0 : Nat))))) (Tree.at (Cfg.mk (sl (91 : Nat) [((0 : Nat), AV.ptr (0 : Nat) (0 : Nat)), ((1 : Nat), AV.s (SV.int IntKind.i64 n)), ((2 : Nat), AV.s (SV.str s)), ((8 : Nat), AV.vec (1 : Nat)), ((9 : Nat), AV.s (SV.bool false)), ((10 : Nat), AV.s (SV.int IntKind.i64 (0 : Int)))]) [AObj.own [AV.s (SV.ro (Con.strs t)), AV.s (SV.ro (Con.typ cK a)), AV.s (SV.int IntKind.i64 f)] (115 : Nat), AObj.vec (Con.typ cK []) (118 : Nat)] (hd Try.f34 (11 : Nat)) (Stk.mk none false (0 : Nat) [] (0 : Nat)))))))) := by kernel_rfl
theorem loopRW (t : List ByteArray) (a : Kp) (f n : Int) (s : ByteArray) (l : Kp) (put : Bool) (i : Int) : run P tab0.sum Try.f34 nsRW (cRW t a f n s l put i) inR =
  Tree.ite (decide (i < (↑(List.length a) : Int)))
  (Tree.need ((0 : Int) ≤ i)
    (Tree.need (i < (↑(List.length a) : Int))
      (Tree.ite (decide (kN (el a i) ≥ n)) (Tree.ite (!put) (Tree.need (List.length l + (1 : Nat) ≤ (4294967296 : Nat)) (Tree.need ((0 : Int) ≤ i) (Tree.need (i < (↑(List.length a) : Int)) (Tree.ite (kN (el a i) != n) (Tree.need ((0 : Int) ≤ i) (Tree.need (i < (↑(List.length a) : Int)) (Tree.need ((l ++ [kM n s]).length + (1 : Nat) ≤ (4294967296 : Nat)) (Tree.need (inI64 (i + (1 : Int))) (Tree.at (Cfg.mk (sl (91 : Nat) [((0 : Nat), AV.ptr (0 : Nat) (0 : Nat)), ((1 : Nat), AV.s (SV.int IntKind.i64 n)), ((2 : Nat), AV.s (SV.str s)), ((8 : Nat), AV.vec (1 : Nat)), ((9 : Nat), AV.s (SV.bool true)), ((10 : Nat), AV.s (SV.int IntKind.i64 (i + (1 : Int))))]) [AObj.own [AV.s (SV.ro (Con.strs t)), AV.s (SV.ro (Con.typ cK a)), AV.s (SV.int IntKind.i64 f)] (115 : Nat), AObj.vec (Con.typ cK (l ++ [kM n s] ++ [el a i])) (118 : Nat)] (hd Try.f34 (11 : Nat)) (Stk.mk none false (0 : Nat) [] (0 : Nat)))))))) (Tree.need (inI64 (i + (1 : Int))) (Tree.at (Cfg.mk (sl (91 : Nat) [((0 : Nat), AV.ptr (0 : Nat) (0 : Nat)), ((1 : Nat), AV.s (SV.int IntKind.i64 n)), ((2 : Nat), AV.s (SV.str s)), ((8 : Nat), AV.vec (1 : Nat)), ((9 : Nat), AV.s (SV.bool true)), ((10 : Nat), AV.s (SV.int IntKind.i64 (i + (1 : Int))))]) [AObj.own [AV.s (SV.ro (Con.strs t)), AV.s (SV.ro (Con.typ cK a)), AV.s (SV.int IntKind.i64 f)] (115 : Nat), AObj.vec (Con.typ cK (l ++ [kM n s])) (118 : Nat)] (hd Try.f34 (11 : Nat)) (Stk.mk none false (0 : Nat) [] (0 : Nat))))))))) (Tree.need ((0 : Int) ≤ i) (Tree.need (i < (↑(List.length a) : Int)) (Tree.ite (kN (el a i) != n) (Tree.need ((0 : Int) ≤ i) (Tree.need (i < (↑(List.length a) : Int)) (Tree.need (List.length l + (1 : Nat) ≤ (4294967296 : Nat)) (Tree.need (inI64 (i + (1 : Int))) (Tree.at (Cfg.mk (sl (91 : Nat) [((0 : Nat), AV.ptr (0 : Nat) (0 : Nat)), ((1 : Nat), AV.s (SV.int IntKind.i64 n)), ((2 : Nat), AV.s (SV.str s)), ((8 : Nat), AV.vec (1 : Nat)), ((9 : Nat), AV.s (SV.bool put)), ((10 : Nat), AV.s (SV.int IntKind.i64 (i + (1 : Int))))]) [AObj.own [AV.s (SV.ro (Con.strs t)), AV.s (SV.ro (Con.typ cK a)), AV.s (SV.int IntKind.i64 f)] (115 : Nat), AObj.vec (Con.typ cK (l ++ [el a i])) (118 : Nat)] (hd Try.f34 (11 : Nat)) (Stk.mk none false (0 : Nat) [] (0 : Nat)))))))) (Tree.need (inI64 (i + (1 : Int))) (Tree.at (Cfg.mk (sl (91 : Nat) [((0 : Nat), AV.ptr (0 : Nat) (0 : Nat)), ((1 : Nat), AV.s (SV.int IntKind.i64 n)), ((2 : Nat), AV.s (SV.str s)), ((8 : Nat), AV.vec (1 : Nat)), ((9 : Nat), AV.s (SV.bool put)), ((10 : Nat), AV.s (SV.int IntKind.i64 (i + (1 : Int))))]) [AObj.own [AV.s (SV.ro (Con.strs t)), AV.s (SV.ro (Con.typ cK a)), AV.s (SV.int IntKind.i64 f)] (115 : Nat), AObj.vec (Con.typ cK l) (118 : Nat)] (hd Try.f34 (11 : Nat)) (Stk.mk none false (0 : Nat) [] (0 : Nat)))))))))
        (Tree.need ((0 : Int) ≤ i) (Tree.need (i < (↑(List.length a) : Int)) (Tree.ite (kN (el a i) != n) (Tree.need ((0 : Int) ≤ i) (Tree.need (i < (↑(List.length a) : Int)) (Tree.need (List.length l + (1 : Nat) ≤ (4294967296 : Nat)) (Tree.need (inI64 (i + (1 : Int))) (Tree.at (Cfg.mk (sl (91 : Nat) [((0 : Nat), AV.ptr (0 : Nat) (0 : Nat)), ((1 : Nat), AV.s (SV.int IntKind.i64 n)), ((2 : Nat), AV.s (SV.str s)), ((8 : Nat), AV.vec (1 : Nat)), ((9 : Nat), AV.s (SV.bool put)), ((10 : Nat), AV.s (SV.int IntKind.i64 (i + (1 : Int))))]) [AObj.own [AV.s (SV.ro (Con.strs t)), AV.s (SV.ro (Con.typ cK a)), AV.s (SV.int IntKind.i64 f)] (115 : Nat), AObj.vec (Con.typ cK (l ++ [el a i])) (118 : Nat)] (hd Try.f34 (11 : Nat)) (Stk.mk none false (0 : Nat) [] (0 : Nat)))))))) (Tree.need (inI64 (i + (1 : Int))) (Tree.at (Cfg.mk (sl (91 : Nat) [((0 : Nat), AV.ptr (0 : Nat) (0 : Nat)), ((1 : Nat), AV.s (SV.int IntKind.i64 n)), ((2 : Nat), AV.s (SV.str s)), ((8 : Nat), AV.vec (1 : Nat)), ((9 : Nat), AV.s (SV.bool put)), ((10 : Nat), AV.s (SV.int IntKind.i64 (i + (1 : Int))))]) [AObj.own [AV.s (SV.ro (Con.strs t)), AV.s (SV.ro (Con.typ cK a)), AV.s (SV.int IntKind.i64 f)] (115 : Nat), AObj.vec (Con.typ cK l) (118 : Nat)] (hd Try.f34 (11 : Nat)) (Stk.mk none false (0 : Nat) [] (0 : Nat)))))))))))
  (Tree.at (Cfg.mk (sl (91 : Nat) [((0 : Nat), AV.ptr (0 : Nat) (0 : Nat)), ((1 : Nat), AV.s (SV.int IntKind.i64 n)), ((2 : Nat), AV.s (SV.str s)), ((8 : Nat), AV.vec (1 : Nat)), ((9 : Nat), AV.s (SV.bool put))]) [AObj.own [AV.s (SV.ro (Con.strs t)), AV.s (SV.ro (Con.typ cK a)), AV.s (SV.int IntKind.i64 f)] (115 : Nat), AObj.vec (Con.typ cK l) (118 : Nat)] (hr Try.f34 (18 : Nat)) (Stk.mk none false (0 : Nat) [] (0 : Nat)))) := by kernel_rfl
theorem loopRW18 (t : List ByteArray) (a : Kp) (f n : Int) (s : ByteArray) (l : Kp) (put : Bool) : run P tab0.sum Try.f34 nsRW (cRW18 t a f n s l put) inR =
  Tree.ite (!put) (Tree.need (List.length l + (1 : Nat) ≤ (4294967296 : Nat)) (Tree.ret [AObj.own [AV.s (SV.ro (Con.strs t)), AV.vec (3 : Nat), AV.s (SV.int IntKind.i64 f)] (115 : Nat), AObj.dead, AObj.vec (Con.typ cK [kM n s]) (118 : Nat), AObj.vec (Con.typ cK (l ++ [kM n s])) (118 : Nat)] (AV.s (SV.ilit IntKind.i64 (0 : Int))))) (Tree.ret [AObj.own [AV.s (SV.ro (Con.strs t)), AV.vec (1 : Nat), AV.s (SV.int IntKind.i64 f)] (115 : Nat), AObj.vec (Con.typ cK l) (118 : Nat)] (AV.s (SV.ilit IntKind.i64 (0 : Int)))) := by kernel_rfl
def nsRF : List (Nat × Norm) := [(5, ⟨[], [0, 4], 1, roL⟩)]
noncomputable def cRF (t : List ByteArray) (a : Kp) (f i : Int) : Cfg := ⟨sl 40 [(0, .ptr 0 0), (4, avI i)], [obR t a f], hd Try.f35 5, {}⟩
theorem treeRF (t : List ByteArray) (a : Kp) (f : Int) : run P tab0.sum Try.f35 nsRF (start Try.f35 [.ptr 0 0] [obR t a f]) inR =
  Tree.ite (f == (0 : Int)) (Tree.ret [AObj.own [AV.s (SV.ro (Con.strs t)), AV.s (SV.ro (Con.typ cK a)), AV.s (SV.int IntKind.i64 f)] (115 : Nat)] (AV.s (SV.ilit IntKind.i64 (42 : Int)))) (Tree.ite (decide (f > (0 : Int))) (Tree.need (inI64 (f - (1 : Int))) (Tree.at (Cfg.mk (sl (40 : Nat) [((0 : Nat), AV.ptr (0 : Nat) (0 : Nat)), ((4 : Nat), AV.s (SV.int IntKind.i64 (0 : Int)))]) [AObj.own [AV.s (SV.ro (Con.strs t)), AV.s (SV.ro (Con.typ cK a)), AV.s (SV.int IntKind.i64 (f - (1 : Int)))] (115 : Nat)] (hd Try.f35 (5 : Nat)) (Stk.mk none false (0 : Nat) [] (0 : Nat))))) (Tree.at (Cfg.mk (sl (40 : Nat) [((0 : Nat), AV.ptr (0 : Nat) (0 : Nat)), ((4 : Nat), AV.s (SV.int IntKind.i64 (0 : Int)))]) [AObj.own [AV.s (SV.ro (Con.strs t)), AV.s (SV.ro (Con.typ cK a)), AV.s (SV.int IntKind.i64 f)] (115 : Nat)] (hd Try.f35 (5 : Nat)) (Stk.mk none false (0 : Nat) [] (0 : Nat))))) := by kernel_rfl
abbrev sWi : Spec (List ByteArray × Kp × Int × Int × ByteArray) := ⟨fun (_, _, _, n, s) => [.ptr 0 0, avI n, .s (.str s)], fun (t, a, f, _) => [obR t a f], fun (t, _, _, n, _) => [0 ≤ n, n < (t.length : Int), t.length ≤ 4096], fun (t, a, f, n, s) => [obR (t.set n.toNat s) a f], fun _ => .tup []⟩
theorem treeWi (t : List ByteArray) (a : Kp) (f n : Int) (s : ByteArray) : run P tab0.sum Try.f60 [] (start Try.f60 [.ptr 0 0, avI n, .s (.str s)] [obR t a f]) =
  Tree.need ((0 : Nat) + t.length ≤ (4294967296 : Nat)) (Tree.need ((0 : Int) ≤ n) (Tree.need (n < (↑([] ++ t).length : Int)) (Tree.ret [AObj.own [AV.vec (2 : Nat), AV.s (SV.ro (Con.typ cK a)), AV.s (SV.int IntKind.i64 f)] (115 : Nat), AObj.dead, AObj.vec (Con.strs (([] ++ t).set n.toNat s)) (9 : Nat)] (AV.tup [])))) := by kernel_rfl
def mR : List AV → RM ((List ByteArray × Kp × Int) × List Nat)
  | [.ptr id 0] => .look id fun o => match o with
    | some (.own [.s (.ro (.strs t)), .s (.ro (.typ [.int .i64, .str] a)), f] _) => match f.num? with
      | some (_, _, f) => .ret ((t, a, f), [id])
      | none => .fail "no number"
    | _ => .fail "no disk of the document's"
  | _ => .fail "no disk"
def mWi : List AV → RM ((List ByteArray × Kp × Int × Int × ByteArray) × List Nat)
  | [.ptr id 0, n, .s (.str s)] => (mR [.ptr id 0]).bind fun ((t, a, f), σ) => match n.num? with
    | some (_, _, n) => .ret ((t, a, f, n, s), σ)
    | none => .fail "no number"
  | _ => .fail "no disk"
abbrev sumWi := sumS sWi mWi
def tabRF : Tab := [(60, sumWi)]
abbrev inB : List FuncId := [59]
theorem loopRF (t : List ByteArray) (a : Kp) (f i : Int) : run P tabRF.sum Try.f35 nsRF (cRF t a f i) inB =
  Tree.ite (decide (i < (↑(List.length a) : Int))) (Tree.need ((0 : Int) ≤ i) (Tree.need (i < (↑(List.length a) : Int)) (Tree.need ((0 : Int) ≤ i) (Tree.need (i < (↑(List.length a) : Int)) (Tree.need (Slf (some [AV.ptr (0 : Nat) (0 : Nat), AV.s (SV.int IntKind.i64 (kN (el a i))), AV.s (SV.str (kT (el a i)))])) (Tree.need (Slf (some [AObj.own [AV.s (SV.ro (Con.strs t)), AV.s (SV.ro (Con.typ cK a)), AV.s (SV.int IntKind.i64 f)] (115 : Nat)])) (Tree.need ((0 : Int) ≤ kN (el a i)) (Tree.need (kN (el a i) < (↑t.length : Int)) (Tree.need (t.length ≤ (4096 : Nat)) (Tree.need (inI64 (i + (1 : Int))) (Tree.at (Cfg.mk (sl (40 : Nat) [((0 : Nat), AV.ptr (0 : Nat) (0 : Nat)), ((4 : Nat), AV.s (SV.int IntKind.i64 (i + (1 : Int))))]) [AObj.own [AV.s (SV.ro (Con.strs (t.set (kN (el a i)).toNat (kT (el a i))))), AV.s (SV.ro (Con.typ cK a)), AV.s (SV.int IntKind.i64 f)] (115 : Nat)] (hd Try.f35 (5 : Nat)) (Stk.mk none false (0 : Nat) [] (0 : Nat)))))))))))))) (Tree.ret [AObj.own [AV.s (SV.ro (Con.strs t)), AV.emp, AV.s (SV.int IntKind.i64 f)] (115 : Nat)] (AV.s (SV.ilit IntKind.i64 (0 : Int)))) := by kernel_rfl
theorem treeRF2 (t : List ByteArray) (a : Kp) (f : Int) : run P tabRF.sum Try.f35 nsRF (start Try.f35 [.ptr 0 0] [obR t a f]) inB =
  Tree.ite (f == (0 : Int)) (Tree.ret [AObj.own [AV.s (SV.ro (Con.strs t)), AV.s (SV.ro (Con.typ cK a)), AV.s (SV.int IntKind.i64 f)] (115 : Nat)] (AV.s (SV.ilit IntKind.i64 (42 : Int)))) (Tree.ite (decide (f > (0 : Int))) (Tree.need (inI64 (f - (1 : Int))) (Tree.at (Cfg.mk (sl (40 : Nat) [((0 : Nat), AV.ptr (0 : Nat) (0 : Nat)), ((4 : Nat), AV.s (SV.int IntKind.i64 (0 : Int)))]) [AObj.own [AV.s (SV.ro (Con.strs t)), AV.s (SV.ro (Con.typ cK a)), AV.s (SV.int IntKind.i64 (f - (1 : Int)))] (115 : Nat)] (hd Try.f35 (5 : Nat)) (Stk.mk none false (0 : Nat) [] (0 : Nat))))) (Tree.at (Cfg.mk (sl (40 : Nat) [((0 : Nat), AV.ptr (0 : Nat) (0 : Nat)), ((4 : Nat), AV.s (SV.int IntKind.i64 (0 : Int)))]) [AObj.own [AV.s (SV.ro (Con.strs t)), AV.s (SV.ro (Con.typ cK a)), AV.s (SV.int IntKind.i64 f)] (115 : Nat)] (hd Try.f35 (5 : Nat)) (Stk.mk none false (0 : Nat) [] (0 : Nat))))) := by kernel_rfl
def nsRC : List (Nat × Norm) := [(4, ⟨[], [0, 1, 2, 3, 9], 1, roL⟩)]
noncomputable def cRC (t : List ByteArray) (a : Kp) (f : Int) (keep : List Bool) (torn cut i : Int) : Cfg := ⟨sl 77 [(0, .ptr 0 0), (1, avB keep), (2, avI torn), (3, avI cut), (9, avI i)], [obR t a f], hd Try.f38 4, {}⟩
theorem treeRC (t : List ByteArray) (a : Kp) (f : Int) (keep : List Bool) (torn cut : Int) : run P tabRF.sum Try.f38 nsRC (start Try.f38 [.ptr 0 0, avB keep, avI torn, avI cut] [obR t a f]) inB =
  Tree.ite (decide (cut < (0 : Int))) (Tree.ret [AObj.own [AV.s (SV.ro (Con.strs t)), AV.s (SV.ro (Con.typ cK a)), AV.s (SV.int IntKind.i64 f)] (115 : Nat)] (AV.s (SV.ilit IntKind.i64 (1 : Int)))) (Tree.ite (decide (cut > (64 : Int))) (Tree.ret [AObj.own [AV.s (SV.ro (Con.strs t)), AV.s (SV.ro (Con.typ cK a)), AV.s (SV.int IntKind.i64 f)] (115 : Nat)] (AV.s (SV.ilit IntKind.i64 (1 : Int)))) (Tree.at (Cfg.mk (sl (77 : Nat) [((0 : Nat), AV.ptr (0 : Nat) (0 : Nat)), ((1 : Nat), AV.s (SV.ro (Con.bools keep))), ((2 : Nat), AV.s (SV.int IntKind.i64 torn)), ((3 : Nat), AV.s (SV.int IntKind.i64 cut)), ((9 : Nat), AV.s (SV.int IntKind.i64 (0 : Int)))]) [AObj.own [AV.s (SV.ro (Con.strs t)), AV.s (SV.ro (Con.typ cK a)), AV.s (SV.int IntKind.i64 f)] (115 : Nat)] (hd Try.f38 (4 : Nat)) (Stk.mk none false (0 : Nat) [] (0 : Nat))))) := by kernel_rfl
theorem loopRC (t : List ByteArray) (a : Kp) (f : Int) (keep : List Bool) (torn cut i : Int) : run P tabRF.sum Try.f38 nsRC (cRC t a f keep torn cut i) inB =
  Tree.ite (decide (i < (↑(List.length a) : Int)))
  (Tree.need ((0 : Int) ≤ i)
    (Tree.need (i < (↑(List.length a) : Int)) (Tree.ite (i == torn) (Tree.need ((0 : Int) ≤ (0 : Int)) (Tree.need ((0 : Int) ≤ cut) (Tree.need (cut ≤ (↑(kT (el a i)).size : Int)) (Tree.need ((0 : Int) ≤ kN (el a i)) (Tree.need (kN (el a i) < (↑t.length : Int)) (Tree.need ((0 : Int) ≤ cut) (Tree.need (cut ≤ (↑(t.getD (kN (el a i)).toNat ByteArray.empty).size : Int)) (Tree.need ((↑(t.getD (kN (el a i)).toNat ByteArray.empty).size : Int) ≤ (↑(t.getD (kN (el a i)).toNat ByteArray.empty).size : Int)) (Tree.need (((kT (el a i)).extract (Int.toNat (0 : Int)) cut.toNat).size + ((t.getD (kN (el a i)).toNat ByteArray.empty).extract cut.toNat (↑(t.getD (kN (el a i)).toNat ByteArray.empty).size : Int).toNat).size ≤ (4611686018427387904 : Nat)) (Tree.need (Slf (some [AV.ptr (0 : Nat) (0 : Nat), AV.s (SV.int IntKind.i64 (kN (el a i))), AV.s (SV.str ((kT (el a i)).extract (Int.toNat (0 : Int)) cut.toNat ++ (t.getD (kN (el a i)).toNat ByteArray.empty).extract cut.toNat (↑(t.getD (kN (el a i)).toNat ByteArray.empty).size : Int).toNat))])) (Tree.need (Slf (some [AObj.own [AV.s (SV.ro (Con.strs t)), AV.s (SV.ro (Con.typ cK a)), AV.s (SV.int IntKind.i64 f)] (115 : Nat)])) (Tree.need ((0 : Int) ≤ kN (el a i)) (Tree.need (kN (el a i) < (↑t.length : Int)) (Tree.need (t.length ≤ (4096 : Nat)) (Tree.need (inI64 (i + (1 : Int))) (Tree.at (Cfg.mk (sl (77 : Nat) [((0 : Nat), AV.ptr (0 : Nat) (0 : Nat)), ((1 : Nat), AV.s (SV.ro (Con.bools keep))), ((2 : Nat), AV.s (SV.int IntKind.i64 torn)), ((3 : Nat), AV.s (SV.int IntKind.i64 cut)), ((9 : Nat), AV.s (SV.int IntKind.i64 (i + (1 : Int))))]) [AObj.own [AV.s (SV.ro (Con.strs (t.set (kN (el a i)).toNat ((kT (el a i)).extract (Int.toNat (0 : Int)) cut.toNat ++ (t.getD (kN (el a i)).toNat ByteArray.empty).extract cut.toNat (↑(t.getD (kN (el a i)).toNat ByteArray.empty).size : Int).toNat)))), AV.s (SV.ro (Con.typ cK a)), AV.s (SV.int IntKind.i64 f)] (115 : Nat)] (hd Try.f38 (4 : Nat)) (Stk.mk none false (0 : Nat) [] (0 : Nat))))))))))))))))))) (Tree.ite (decide (i < (↑keep.length : Int))) (Tree.need ((0 : Int) ≤ i) (Tree.need (i < (↑keep.length : Int)) (Tree.ite (keep.getD i.toNat false) (Tree.need (Slf (some [AV.ptr (0 : Nat) (0 : Nat), AV.s (SV.int IntKind.i64 (kN (el a i))), AV.s (SV.str (kT (el a i)))])) (Tree.need (Slf (some [AObj.own [AV.s (SV.ro (Con.strs t)), AV.s (SV.ro (Con.typ cK a)), AV.s (SV.int IntKind.i64 f)] (115 : Nat)])) (Tree.need ((0 : Int) ≤ kN (el a i)) (Tree.need (kN (el a i) < (↑t.length : Int)) (Tree.need (t.length ≤ (4096 : Nat)) (Tree.need (inI64 (i + (1 : Int))) (Tree.at (Cfg.mk (sl (77 : Nat) [((0 : Nat), AV.ptr (0 : Nat) (0 : Nat)), ((1 : Nat), AV.s (SV.ro (Con.bools keep))), ((2 : Nat), AV.s (SV.int IntKind.i64 torn)), ((3 : Nat), AV.s (SV.int IntKind.i64 cut)), ((9 : Nat), AV.s (SV.int IntKind.i64 (i + (1 : Int))))]) [AObj.own [AV.s (SV.ro (Con.strs (t.set (kN (el a i)).toNat (kT (el a i))))), AV.s (SV.ro (Con.typ cK a)), AV.s (SV.int IntKind.i64 f)] (115 : Nat)] (hd Try.f38 (4 : Nat)) (Stk.mk none false (0 : Nat) [] (0 : Nat)))))))))) (Tree.need (inI64 (i + (1 : Int))) (Tree.at (Cfg.mk (sl (77 : Nat) [((0 : Nat), AV.ptr (0 : Nat) (0 : Nat)), ((1 : Nat), AV.s (SV.ro (Con.bools keep))), ((2 : Nat), AV.s (SV.int IntKind.i64 torn)), ((3 : Nat), AV.s (SV.int IntKind.i64 cut)), ((9 : Nat), AV.s (SV.int IntKind.i64 (i + (1 : Int))))]) [AObj.own [AV.s (SV.ro (Con.strs t)), AV.s (SV.ro (Con.typ cK a)), AV.s (SV.int IntKind.i64 f)] (115 : Nat)] (hd Try.f38 (4 : Nat)) (Stk.mk none false (0 : Nat) [] (0 : Nat)))))))) (Tree.need (inI64 (i + (1 : Int))) (Tree.at (Cfg.mk (sl (77 : Nat) [((0 : Nat), AV.ptr (0 : Nat) (0 : Nat)), ((1 : Nat), AV.s (SV.ro (Con.bools keep))), ((2 : Nat), AV.s (SV.int IntKind.i64 torn)), ((3 : Nat), AV.s (SV.int IntKind.i64 cut)), ((9 : Nat), AV.s (SV.int IntKind.i64 (i + (1 : Int))))]) [AObj.own [AV.s (SV.ro (Con.strs t)), AV.s (SV.ro (Con.typ cK a)), AV.s (SV.int IntKind.i64 f)] (115 : Nat)] (hd Try.f38 (4 : Nat)) (Stk.mk none false (0 : Nat) [] (0 : Nat)))))))))
  (Tree.ret [AObj.own [AV.s (SV.ro (Con.strs t)), AV.emp, AV.s (SV.ilit IntKind.i64 (-1 : Int))] (115 : Nat)] (AV.s (SV.ilit IntKind.i64 (0 : Int)))) := by kernel_rfl
theorem treeRFu (t : List ByteArray) (a : Kp) (f n : Int) : run P tab0.sum Try.f37 [] (start Try.f37 [.ptr 0 0, avI n] [obR t a f]) =
  Tree.ite (decide (n < (0 : Int))) (Tree.ret [AObj.own [AV.s (SV.ro (Con.strs t)), AV.s (SV.ro (Con.typ cK a)), AV.s (SV.int IntKind.i64 f)] (115 : Nat)] (AV.s (SV.ilit IntKind.i64 (1 : Int)))) (Tree.ite (f == (0 : Int)) (Tree.ret [AObj.own [AV.s (SV.ro (Con.strs t)), AV.s (SV.ro (Con.typ cK a)), AV.s (SV.int IntKind.i64 f)] (115 : Nat)] (AV.s (SV.ilit IntKind.i64 (42 : Int)))) (Tree.ret [AObj.own [AV.s (SV.ro (Con.strs t)), AV.s (SV.ro (Con.typ cK a)), AV.s (SV.int IntKind.i64 n)] (115 : Nat)] (AV.s (SV.ilit IntKind.i64 (0 : Int))))) := by kernel_rfl
/-! what they do -/
def inL (t : List ByteArray) (n : Int) : Bool := decide (0 ≤ n) && decide (n < (t.length : Int))
def aget (a : Kp) (n : Int) : Option ByteArray := (a.find? fun x => kN x == n).map kT
def rrT (t : List ByteArray) (a : Kp) (n : Int) : ByteArray := if inL t n = true then (aget a n).getD (t.getD n.toNat ByteArray.empty) else ByteArray.empty
def rrE (t : List ByteArray) (n : Int) : Int := if inL t n = true then 0 else 5
def burnR (f : Int) : Int := if f > 0 then f - 1 else f
def wrK (n : Int) (s : ByteArray) : Kp → Bool → Kp × Bool
  | [], p => ([], p)
  | x :: xs, p => ((if kN x ≥ n ∧ p = false then [kM n s] else []) ++ (if kN x ≠ n then [x] else []) ++ (wrK n s xs (p || decide (kN x ≥ n))).1, (wrK n s xs (p || decide (kN x ≥ n))).2)
def wrA (a : Kp) (n : Int) (s : ByteArray) : Kp := (wrK n s a false).1 ++ (if (wrK n s a false).2 = false then [kM n s] else [])
def rwE (t : List ByteArray) (f n : Int) (s : ByteArray) : Int := if inL t n = true then (if s.size = 64 then (if f = 0 then 42 else 0) else 1) else 5
def rwA (t : List ByteArray) (a : Kp) (f n : Int) (s : ByteArray) : Kp := if rwE t f n s = 0 then wrA a n s else a
def rwF (t : List ByteArray) (f n : Int) (s : ByteArray) : Int := if inL t n = true ∧ s.size = 64 then burnR f else f
def putT : List ByteArray → Kp → List ByteArray
  | t, [] => t
  | t, x :: a => putT (t.set (kN x).toNat (kT x)) a
def rfT (t : List ByteArray) (a : Kp) (f : Int) : List ByteArray := if f = 0 then t else putT t a
def rfA (a : Kp) (f : Int) : Kp := if f = 0 then a else []
structure okR (t : List ByteArray) (a : Kp) (f : Int) : Prop where
  t4 : t.length ≤ 4096
  a4 : a.length ≤ 4096
  an : ∀ x ∈ a, 0 ≤ kN x ∧ kN x < (t.length : Int)
  f9 : -1 ≤ f ∧ f ≤ 9223372036854775807
  t64 : ∀ i, i < t.length → (t.getD i ByteArray.empty).size = 64
  a64 : ∀ x ∈ a, (kT x).size = 64
abbrev sRR : Spec (List ByteArray × Kp × Int × Int) := ⟨fun (_, _, _, n) => [.ptr 0 0, avI n], fun (t, a, f, _) => [obR t a f], fun (t, a, f, _) => [okR t a f], fun (t, a, f, _) => [obR t a f], fun (t, a, _, n) => .tup [.s (.str (rrT t a n)), avI (rrE t n)]⟩
abbrev sRW : Spec (List ByteArray × Kp × Int × Int × ByteArray) := ⟨fun (_, _, _, n, s) => [.ptr 0 0, avI n, .s (.str s)], fun (t, a, f, _) => [obR t a f], fun (t, a, f, _) => [okR t a f], fun (t, a, f, n, s) => [obR t (rwA t a f n s) (rwF t f n s)], fun (t, _, f, n, s) => avI (rwE t f n s)⟩
abbrev sRF : Spec (List ByteArray × Kp × Int) := ⟨fun _ => [.ptr 0 0], fun (t, a, f) => [obR t a f], fun (t, a, f) => [okR t a f], fun (t, a, f) => [obR (rfT t a f) (rfA a f) (burnR f)], fun (_, _, f) => avI (flE f)⟩
abbrev sRFu : Spec (List ByteArray × Kp × Int × Int) := ⟨fun (_, _, _, n) => [.ptr 0 0, avI n], fun (t, a, f, _) => [obR t a f], fun _ => [], fun (t, a, f, n) => [obR t a (fuF f n)], fun (_, _, f, n) => avI (fuE f n)⟩
abbrev sRDe : Spec (List ByteArray × Kp × Int) := ⟨fun _ => [.ptr 0 0], fun (t, a, f) => [obR t a f], fun _ => [], fun (t, a, f) => [obR t a f], fun (_, _, f) => .s (.bool (f == 0))⟩
def rcS (keep : List Bool) (torn cut : Int) (old new : ByteArray) (k : Nat) : ByteArray := if (k : Int) = torn then new.extract 0 cut.toNat ++ old.extract cut.toNat 64 else if keep.getD k false = true then new else old
def rcT (keep : List Bool) (torn cut : Int) : Kp → Nat → List ByteArray → List ByteArray
  | [], _, t => t
  | x :: a, k, t => rcT keep torn cut a (k + 1) (t.set (kN x).toNat (rcS keep torn cut (t.getD (kN x).toNat ByteArray.empty) (kT x) k))
def rcH (t : List ByteArray) (a : Kp) (keep : List Bool) (torn cut : Int) : List ByteArray := if okC cut = true then rcT keep torn cut a 0 t else t
def rcA (a : Kp) (cut : Int) : Kp := if okC cut = true then [] else a
abbrev sRC : Spec (List ByteArray × Kp × Int × List Bool × Int × Int) := ⟨fun (_, _, _, keep, torn, cut) => [.ptr 0 0, avB keep, avI torn, avI cut], fun (t, a, f, _) => [obR t a f], fun (t, a, f, _) => [okR t a f], fun (t, a, f, keep, torn, cut) => [obR (rcH t a keep torn cut) (rcA a cut) (crF f cut)], fun (_, _, _, _, _, cut) => avI (crE cut)⟩
theorem wi_ok {Z : Glob} : FnS P Z 60 sWi := by
  refine fnS_of_safe Try.func60 (by kernel_rfl) (fun x => Nat.le_of_ble_eq_true (by kernel_rfl)) ?_
  rintro ⟨(t : List ByteArray), (a : Kp), (f : Int), (n : Int), (s : ByteArray)⟩ ⟨(h0 : 0 ≤ n), (h1 : n < (t.length : Int)), (h2 : t.length ≤ 4096), _⟩ X hX hz
  exact goS hz hX (by simp) Tab.Ok.nil Try.func60 (treeWi t a f n s) ⟨by omega, h0, h1, endC 1 roL rfl (Nat.le_refl _) rfl rfl⟩
theorem inL_iff {t : List ByteArray} {n : Int} : inL t n = true ↔ 0 ≤ n ∧ n < (t.length : Int) := by simp [inL]
theorem rr_ok {Z : Glob} : FnS P Z 42 sRR := by
  refine fnS_of_safe Try.func42 (by kernel_rfl) (fun x => Nat.le_of_ble_eq_true (by kernel_rfl)) ?_
  rintro ⟨(t : List ByteArray), (a : Kp), (f : Int), (n : Int)⟩ ⟨(hd : okR t a f), _⟩ X hX hz
  have hns : ∀ x ∈ nsRR, (sRR.heap (t, a, f, n)).length ≤ x.2.m := by intro y hy; simp [nsRR] at hy; rcases hy with rfl; exact Nat.le_refl _
  have ha := hd.a4
  have bad : ¬ (0 ≤ n ∧ n < (t.length : Int)) → rrT t a n = ByteArray.empty ∧ rrE t n = 5 := fun h => by
    have : ¬ inL t n = true := fun h2 => h (inL_iff.1 h2)
    simp only [rrT, rrE, if_neg this, and_self]
  have loop : 0 ≤ n → n < (t.length : Int) → ∀ (j k : Nat), k + j = a.length → aget a n = aget (a.drop k) n → Safe P 42 X (EndS sRR (t, a, f, n)) (cRR t a f n (k : Int)) := by
    intro h0 h1 j
    have hin := inL_iff.2 ⟨h0, h1⟩
    induction j with
    | zero =>
      intro k hk hg
      refine goS hz hX hns Tab.Ok.nil Try.func42 (loopRR t a f n k) ⟨fun h => absurd (of_decide_eq_true h) (by omega), fun _ => ⟨h0, h1, ?_⟩⟩
      rw [List.drop_eq_nil_of_le (by omega)] at hg
      have e : rrT t a n = t.getD n.toNat ByteArray.empty := by rw [rrT, if_pos hin, hg]; rfl
      have e2 : rrE t n = 0 := by rw [rrE, if_pos hin]
      refine endS 1 rfl (Nat.le_refl _) ?_ rfl
      simp [e, e2, rnS]
    | succ j ih =>
      intro k hk hg
      have hlt : k < a.length := by omega
      rw [List.drop_eq_getElem_cons hlt] at hg
      refine goS hz hX hns Tab.Ok.nil Try.func42 (loopRR t a f n k) ?_
      rw [el_lt hlt]
      generalize a[k] = x at *
      have e2 : rrE t n = 0 := by rw [rrE, if_pos hin]
      repeat' (with_reducible (first | refine h_eq ?_ | refine h_need ?_ ?_ | refine h_dec (fun _ => ?_) (fun _ => ?_) | refine h_beq (fun _ => ?_) (fun _ => ?_) | refine h_bne (fun _ => ?_) (fun _ => ?_) | refine h_tt ?_ | refine h_ff ?_ | refine h_not ?_ | refine h_ite (fun _ => ?_) (fun _ => ?_) | refine h_both (fun _ => ?_) (fun _ => ?_) | refine h_ret ?_ | refine h_at ?_))
      all_goals first | omega | exact ⟨by omega, by omega⟩ | skip
      · rename_i h
        have e : rrT t a n = kT x := by rw [rrT, if_pos hin, hg]; unfold aget; rw [List.find?_cons_of_pos (by simpa using h)]; rfl
        refine endS 1 rfl (Nat.le_refl _) ?_ rfl
        simp [e, e2, rnS]
      · rename_i h
        refine ih (k + 1) (by omega) ?_
        rw [hg]; unfold aget; rw [List.find?_cons_of_neg (by simpa using h)]
  refine goS hz hX hns Tab.Ok.nil Try.func42 (treeRR t a f n) ?_
  repeat' (with_reducible (first | refine h_eq ?_ | refine h_need ?_ ?_ | refine h_dec (fun _ => ?_) (fun _ => ?_) | refine h_beq (fun _ => ?_) (fun _ => ?_) | refine h_bne (fun _ => ?_) (fun _ => ?_) | refine h_tt ?_ | refine h_ff ?_ | refine h_not ?_ | refine h_ite (fun _ => ?_) (fun _ => ?_) | refine h_both (fun _ => ?_) (fun _ => ?_) | refine h_ret ?_ | refine h_at ?_))
  · obtain ⟨e1, e2⟩ := bad (by omega)
    refine endS 1 rfl (Nat.le_refl _) ?_ rfl
    simp [e1, e2, rnS]
  · obtain ⟨e1, e2⟩ := bad (by omega)
    refine endS 1 rfl (Nat.le_refl _) ?_ rfl
    simp [e1, e2, rnS]
  · exact loop (by omega) (by omega) a.length 0 (by omega) rfl
theorem rfu_ok {Z : Glob} : FnS P Z 37 sRFu := by
  refine fnS_of_safe Try.func37 (by kernel_rfl) (fun x => Nat.le_of_ble_eq_true (by kernel_rfl)) ?_
  rintro ⟨(t : List ByteArray), (a : Kp), (f : Int), (n : Int)⟩ _ X hX hz
  refine goS hz hX (by simp) Tab.Ok.nil Try.func37 (treeRFu t a f n) ?_
  repeat' (with_reducible (first | refine h_eq ?_ | refine h_need ?_ ?_ | refine h_dec (fun _ => ?_) (fun _ => ?_) | refine h_beq (fun _ => ?_) (fun _ => ?_) | refine h_bne (fun _ => ?_) (fun _ => ?_) | refine h_tt ?_ | refine h_ff ?_ | refine h_not ?_ | refine h_ite (fun _ => ?_) (fun _ => ?_) | refine h_both (fun _ => ?_) (fun _ => ?_) | refine h_ret ?_ | refine h_at ?_))
  all_goals refine endS 1 rfl (Nat.le_refl _) ?_ ?_ <;> simp [fuE, fuF, rnS, *]
/-! Flush, Write -/
theorem putT_len : ∀ (a : Kp) (t : List ByteArray), (putT t a).length = t.length
  | [], t => rfl
  | x :: a, t => (putT_len a _).trans List.length_set
theorem rf_ok {Z : Glob} : FnS P Z 35 sRF := by
  refine fnS_of_safe Try.func35 (by kernel_rfl) (fun x => Nat.le_of_ble_eq_true (by kernel_rfl)) ?_
  rintro ⟨(t : List ByteArray), (a : Kp), (f : Int)⟩ ⟨(hd : okR t a f), _⟩ X hX hz
  have hT : tabRF.Ok P Z := Tab.Ok.cons (wi_ok.sum mWi) Tab.Ok.nil
  have hns : ∀ x ∈ nsRF, (sRF.heap (t, a, f)).length ≤ x.2.m := by intro y hy; simp [nsRF] at hy; rcases hy with rfl; exact Nat.le_refl _
  have ha := hd.a4
  have ht := hd.t4
  have loop : f ≠ 0 → ∀ (j k : Nat) (t' : List ByteArray), k + j = a.length → t'.length = t.length → putT t' (a.drop k) = putT t a → Safe P 35 X (EndS sRF (t, a, f)) (cRF t' a (burnR f) (k : Int)) := by
    intro hf j
    induction j with
    | zero =>
      intro k t' hk hl hp
      refine goS hz hX hns hT Try.func35 (loopRF t' a (burnR f) k) ⟨fun h => absurd (of_decide_eq_true h) (by omega), fun _ => ?_⟩
      rw [List.drop_eq_nil_of_le (by omega)] at hp
      refine endC 1 roL rfl (Nat.le_refl _) ?_ ?_ <;> simp [flE, rfT, rfA, hf, ← hp, putT, rnS]
    | succ j ih =>
      intro k t' hk hl hp
      have hlt : k < a.length := by omega
      have hr := hd.an _ (List.getElem_mem hlt)
      rw [List.drop_eq_getElem_cons hlt] at hp
      refine goS hz hX hns hT Try.func35 (loopRF t' a (burnR f) k) ?_
      rw [el_lt hlt]
      generalize a[k] = x at *
      repeat' (with_reducible (first | refine h_eq ?_ | refine h_need ?_ ?_ | refine h_dec (fun _ => ?_) (fun _ => ?_) | refine h_beq (fun _ => ?_) (fun _ => ?_) | refine h_bne (fun _ => ?_) (fun _ => ?_) | refine h_tt ?_ | refine h_ff ?_ | refine h_not ?_ | refine h_ite (fun _ => ?_) (fun _ => ?_) | refine h_both (fun _ => ?_) (fun _ => ?_) | refine h_ret ?_ | refine h_at ?_))
      all_goals first | omega | exact ⟨by omega, by omega⟩ | skip
      exact ih (k + 1) _ (by omega) (by rw [List.length_set]; exact hl) hp
  have f9 := hd.f9
  by_cases hf : f = 0
  · refine goS hz hX hns hT Try.func35 (treeRF2 t a f) ?_
    repeat' (with_reducible (first | refine h_eq ?_ | refine h_need ?_ ?_ | refine h_dec (fun _ => ?_) (fun _ => ?_) | refine h_beq (fun _ => ?_) (fun _ => ?_) | refine h_bne (fun _ => ?_) (fun _ => ?_) | refine h_tt ?_ | refine h_ff ?_ | refine h_not ?_ | refine h_ite (fun _ => ?_) (fun _ => ?_) | refine h_both (fun _ => ?_) (fun _ => ?_) | refine h_ret ?_ | refine h_at ?_))
    all_goals first | omega | skip
    refine endS 1 rfl (Nat.le_refl _) ?_ ?_ <;> simp [flE, rfT, rfA, burnR, hf, rnS]
  · have := loop hf a.length 0 t (by omega) rfl rfl
    refine goS hz hX hns hT Try.func35 (treeRF2 t a f) ?_
    unfold burnR at this
    repeat' (with_reducible (first | refine h_eq ?_ | refine h_need ?_ ?_ | refine h_dec (fun _ => ?_) (fun _ => ?_) | refine h_beq (fun _ => ?_) (fun _ => ?_) | refine h_bne (fun _ => ?_) (fun _ => ?_) | refine h_tt ?_ | refine h_ff ?_ | refine h_not ?_ | refine h_ite (fun _ => ?_) (fun _ => ?_) | refine h_both (fun _ => ?_) (fun _ => ?_) | refine h_ret ?_ | refine h_at ?_))
    all_goals first | omega | exact ⟨by omega, by omega⟩ | (simp_all; done) | skip
    · rw [if_pos (by assumption)] at this; exact this
    · rw [if_neg (by assumption)] at this; exact this
theorem rw_ok {Z : Glob} : FnS P Z 34 sRW := by
  refine fnS_of_safe Try.func34 (by kernel_rfl) (fun x => Nat.le_of_ble_eq_true (by kernel_rfl)) ?_
  rintro ⟨(t : List ByteArray), (a : Kp), (f : Int), (n : Int), (s : ByteArray)⟩ ⟨(hd : okR t a f), _⟩ X hX hz
  have hns : ∀ x ∈ nsRW, (sRW.heap (t, a, f, n, s)).length ≤ x.2.m := by intro y hy; simp [nsRW] at hy; rcases hy with rfl | rfl <;> exact Nat.le_refl _
  have ha := hd.a4
  have f9 := hd.f9
  have loop : inL t n = true → s.size = 64 → f ≠ 0 → ∀ (j k : Nat) (l : Kp) (put : Bool), k + j = a.length → l.length ≤ 2 * k → l ++ (wrK n s (a.drop k) put).1 = (wrK n s a false).1 → (wrK n s (a.drop k) put).2 = (wrK n s a false).2 →
      Safe P 34 X (EndS sRW (t, a, f, n, s)) (cRW t a (burnR f) n s l put (k : Int)) := by
    intro hin hs hf j
    have eE : rwE t f n s = 0 := by simp [rwE, hin, hs, hf]
    have eF : rwF t f n s = burnR f := by simp [rwF, hin, hs]
    have eA : rwA t a f n s = wrA a n s := by simp [rwA, eE]
    induction j with
    | zero =>
      intro k l put hk hl h1 h2
      rw [List.drop_eq_nil_of_le (by omega)] at h1 h2
      simp only [wrK, List.append_nil] at h1 h2
      refine goS hz hX hns Tab.Ok.nil Try.func34 (loopRW t a (burnR f) n s l put k) ⟨fun h => absurd (of_decide_eq_true h) (by omega), fun _ => ?_⟩
      show Safe P _ X _ (cRW18 t a (burnR f) n s l put)
      refine goS hz hX hns Tab.Ok.nil Try.func34 (loopRW18 t a (burnR f) n s l put) ?_
      repeat' (with_reducible (first | refine h_eq ?_ | refine h_need ?_ ?_ | refine h_dec (fun _ => ?_) (fun _ => ?_) | refine h_beq (fun _ => ?_) (fun _ => ?_) | refine h_bne (fun _ => ?_) (fun _ => ?_) | refine h_tt ?_ | refine h_ff ?_ | refine h_not ?_ | refine h_ite (fun _ => ?_) (fun _ => ?_) | refine h_both (fun _ => ?_) (fun _ => ?_) | refine h_ret ?_ | refine h_at ?_))
      all_goals first | omega | skip
      · rename_i hp
        refine endC 1 roL rfl (Nat.le_refl _) ?_ ?_ <;> simp [eE, eF, eA, wrA, ← h1, ← h2, hp, rnS]
      · rename_i hp
        refine endC 1 roL rfl (Nat.le_refl _) ?_ ?_ <;> simp [eE, eF, eA, wrA, ← h1, ← h2, hp, rnS]
    | succ j ih =>
      intro k l put hk hl h1 h2
      have hlt : k < a.length := by omega
      rw [List.drop_eq_getElem_cons hlt] at h1 h2
      refine goS hz hX hns Tab.Ok.nil Try.func34 (loopRW t a (burnR f) n s l put k) ?_
      rw [el_lt hlt]
      generalize a[k] = x at *
      simp only [wrK] at h1 h2
      have next := fun l' put' => ih (k + 1) l' put' (by omega)
      repeat' (with_reducible (first | refine h_eq ?_ | refine h_need ?_ ?_ | refine h_dec (fun _ => ?_) (fun _ => ?_) | refine h_beq (fun _ => ?_) (fun _ => ?_) | refine h_bne (fun _ => ?_) (fun _ => ?_) | refine h_tt ?_ | refine h_ff ?_ | refine h_not ?_ | refine h_ite (fun _ => ?_) (fun _ => ?_) | refine h_both (fun _ => ?_) (fun _ => ?_) | refine h_ret ?_ | refine h_at ?_))
      all_goals first | omega | exact ⟨by omega, by omega⟩ | (simp only [List.length_append, List.length_cons, List.length_nil]; omega) | skip
      all_goals refine next _ _ ?_ ?_ ?_
      all_goals first
        | (simp only [List.length_append, List.length_cons, List.length_nil]; omega)
        | omega
        | (rw [← h1]; clear h1 h2 next ih; simp [*]; done)
        | (rw [← h2]; clear h1 h2 next ih; simp [*]; done)
  have bad : ¬ (inL t n = true ∧ s.size = 64 ∧ f ≠ 0) → rwE t f n s ≠ 0 ∧ rwA t a f n s = a ∧ rwF t f n s = f := fun h => by
    have e : rwE t f n s ≠ 0 := by
      unfold rwE
      split
      · split
        · split
          · decide
          · exact absurd ⟨by assumption, by assumption, by assumption⟩ h
        · decide
      · decide
    refine ⟨e, by rw [rwA, if_neg e], ?_⟩
    unfold rwF burnR
    split
    · rename_i hh
      have : f = 0 := Classical.byContradiction fun hf => h ⟨hh.1, hh.2, hf⟩
      rw [if_neg (by omega)]
    · rfl
  have lp := fun h1 h2 h3 => loop h1 h2 h3 a.length 0 [] false (by omega) (Nat.le_refl _) rfl rfl
  refine goS hz hX hns Tab.Ok.nil Try.func34 (treeRW t a f n s) ?_
  repeat' (with_reducible (first | refine h_eq ?_ | refine h_need ?_ ?_ | refine h_dec (fun _ => ?_) (fun _ => ?_) | refine h_beq (fun _ => ?_) (fun _ => ?_) | refine h_bne (fun _ => ?_) (fun _ => ?_) | refine h_tt ?_ | refine h_ff ?_ | refine h_not ?_ | refine h_ite (fun _ => ?_) (fun _ => ?_) | refine h_both (fun _ => ?_) (fun _ => ?_) | refine h_ret ?_ | refine h_at ?_))
  all_goals first | omega | exact ⟨by omega, by omega⟩ | skip
  · obtain ⟨e1, e2, e3⟩ := bad (fun h => by have := inL_iff.1 h.1; omega)
    have e : rwE t f n s = 5 := by rw [rwE, if_neg (fun h => by have := inL_iff.1 h; omega)]
    refine endC 1 roL rfl (Nat.le_refl _) ?_ ?_ <;> simp [e, e2, e3, rnS]
  · obtain ⟨e1, e2, e3⟩ := bad (fun h => by have := inL_iff.1 h.1; omega)
    have e : rwE t f n s = 5 := by rw [rwE, if_neg (fun h => by have := inL_iff.1 h; omega)]
    refine endC 1 roL rfl (Nat.le_refl _) ?_ ?_ <;> simp [e, e2, e3, rnS]
  · have hin : inL t n = true := inL_iff.2 ⟨by omega, by omega⟩
    have hs : s.size ≠ 64 := by omega
    obtain ⟨e1, e2, e3⟩ := bad (fun h => hs h.2.1)
    have e : rwE t f n s = 1 := by rw [rwE, if_pos hin, if_neg hs]
    refine endC 1 roL rfl (Nat.le_refl _) ?_ ?_ <;> simp [e, e2, e3, rnS]
  · have hin : inL t n = true := inL_iff.2 ⟨by omega, by omega⟩
    have hs : s.size = 64 := by omega
    obtain ⟨e1, e2, e3⟩ := bad (fun h => h.2.2 (by assumption))
    have e : rwE t f n s = 42 := by rw [rwE, if_pos hin, if_pos hs, if_pos (by assumption)]
    refine endC 1 roL rfl (Nat.le_refl _) ?_ ?_ <;> simp [e, e2, e3, rnS]
  · have := lp (inL_iff.2 ⟨by omega, by omega⟩) (by omega) (by assumption)
    unfold burnR at this
    rw [if_pos (by assumption)] at this
    exact this
  · have := lp (inL_iff.2 ⟨by omega, by omega⟩) (by omega) (by assumption)
    unfold burnR at this
    rw [if_neg (by assumption)] at this
    exact this
/-! Crash -/
theorem getD_set_size {t : List ByteArray} {j : Nat} {s : ByteArray} (h : ∀ i, i < t.length → (t.getD i ByteArray.empty).size = 64) (hs : s.size = 64) : ∀ i, i < (t.set j s).length → ((t.set j s).getD i ByteArray.empty).size = 64 := by
  intro i hi
  rw [List.length_set] at hi
  by_cases e : i = j
  · subst e; rw [arr_set_self hi]; exact hs
  · rw [arr_set_ne e]; exact h i hi
theorem rcS_size {keep : List Bool} {torn cut : Int} {old new : ByteArray} {k : Nat} (ho : old.size = 64) (hn : new.size = 64) (h0 : 0 ≤ cut) (h1 : cut ≤ 64) : (rcS keep torn cut old new k).size = 64 := by
  unfold rcS
  split
  · rw [ByteArray.size_append, ByteArray.size_extract, ByteArray.size_extract]; omega
  · split
    · exact hn
    · exact ho
theorem set_same {t : List ByteArray} {i : Nat} : t.set i (t.getD i ByteArray.empty) = t := by
  rcases Nat.lt_or_ge i t.length with h | h
  · rw [getD_lt h]; exact List.set_getElem_self h
  · exact List.set_eq_of_length_le h
theorem rc_ok {Z : Glob} : FnS P Z 38 sRC := by
  refine fnS_of_safe Try.func38 (by kernel_rfl) (fun x => Nat.le_of_ble_eq_true (by kernel_rfl)) ?_
  rintro ⟨(t : List ByteArray), (a : Kp), (f : Int), (keep : List Bool), (torn : Int), (cut : Int)⟩ ⟨(hd : okR t a f), _⟩ X hX hz
  have hT : tabRF.Ok P Z := Tab.Ok.cons (wi_ok.sum mWi) Tab.Ok.nil
  have hns : ∀ x ∈ nsRC, (sRC.heap (t, a, f, keep, torn, cut)).length ≤ x.2.m := by intro y hy; simp [nsRC] at hy; rcases hy with rfl; exact Nat.le_refl _
  have ha := hd.a4
  have ht := hd.t4
  have loop : 0 ≤ cut → cut ≤ 64 → ∀ (j k : Nat) (t' : List ByteArray), k + j = a.length → t'.length = t.length → (∀ i, i < t'.length → (t'.getD i ByteArray.empty).size = 64) → rcT keep torn cut (a.drop k) k t' = rcT keep torn cut a 0 t →
      Safe P 38 X (EndS sRC (t, a, f, keep, torn, cut)) (cRC t' a f keep torn cut (k : Int)) := by
    intro h0 h1 j
    have hc : okC cut = true := by simp [okC, h0, h1]
    induction j with
    | zero =>
      intro k t' hk hl h64 hp
      refine goS hz hX hns hT Try.func38 (loopRC t' a f keep torn cut k) ⟨fun h => absurd (of_decide_eq_true h) (by omega), fun _ => ?_⟩
      rw [List.drop_eq_nil_of_le (by omega)] at hp
      refine endC 1 roL rfl (Nat.le_refl _) ?_ ?_ <;> simp [crE, rcH, rcA, crF, hc, ← hp, rcT, rnS]
    | succ j ih =>
      intro k t' hk hl h64 hp
      have hlt : k < a.length := by omega
      have hr := hd.an _ (List.getElem_mem hlt)
      have hs := hd.a64 _ (List.getElem_mem hlt)
      rw [List.drop_eq_getElem_cons hlt] at hp
      refine goS hz hX hns hT Try.func38 (loopRC t' a f keep torn cut k) ?_
      rw [el_lt hlt]
      generalize a[k] = x at *
      have ho := h64 (kN x).toNat (by omega)
      have next := ih (k + 1) (t'.set (kN x).toNat (rcS keep torn cut (t'.getD (kN x).toNat ByteArray.empty) (kT x) k)) (by omega) (by rw [List.length_set]; exact hl) (getD_set_size h64 (rcS_size ho hs h0 h1)) hp
      have e64 : ((t'.getD (kN x).toNat ByteArray.empty).size : Int).toNat = 64 := by omega
      have ek : (k : Int).toNat = k := Int.toNat_natCast k
      have hka : keep.length ≤ k → keep.getD k false = false := fun h => by simp [List.getD, List.getElem?_eq_none h]
      have q1 : ((kT x).extract (Int.toNat 0) cut.toNat).size ≤ 64 := by rw [ByteArray.size_extract]; omega
      have q2 : ((t'.getD (kN x).toNat ByteArray.empty).extract cut.toNat 64).size ≤ 64 := by rw [ByteArray.size_extract]; omega
      rw [e64, ek]
      unfold rcS at next
      have nx1 : (k : Int) = torn → Safe P 38 X (EndS sRC (t, a, f, keep, torn, cut)) (cRC (t'.set (kN x).toNat ((kT x).extract 0 cut.toNat ++ (t'.getD (kN x).toNat ByteArray.empty).extract cut.toNat 64)) a f keep torn cut ((k + 1 : Nat) : Int)) := fun h => by rw [if_pos h] at next; exact next
      have nx2 : ¬ (k : Int) = torn → keep.getD k false = true → Safe P 38 X (EndS sRC (t, a, f, keep, torn, cut)) (cRC (t'.set (kN x).toNat (kT x)) a f keep torn cut ((k + 1 : Nat) : Int)) := fun h h2 => by rw [if_neg h, if_pos h2] at next; exact next
      have nx3 : ¬ (k : Int) = torn → keep.getD k false = false → Safe P 38 X (EndS sRC (t, a, f, keep, torn, cut)) (cRC t' a f keep torn cut ((k + 1 : Nat) : Int)) := fun h h2 => by rw [if_neg h, if_neg (by rw [h2]; simp), set_same] at next; exact next
      clear next ih hp
      repeat' (with_reducible (first | refine h_eq ?_ | refine h_need ?_ ?_ | refine h_dec (fun _ => ?_) (fun _ => ?_) | refine h_beq (fun _ => ?_) (fun _ => ?_) | refine h_bne (fun _ => ?_) (fun _ => ?_) | refine h_tt ?_ | refine h_ff ?_ | refine h_not ?_ | refine h_ite (fun _ => ?_) (fun _ => ?_) | refine h_both (fun _ => ?_) (fun _ => ?_) | refine h_ret ?_ | refine h_at ?_))
      all_goals first | omega | exact ⟨by omega, by omega⟩ | exact nx1 (by assumption) | exact nx2 (by assumption) (by assumption) | exact nx3 (by assumption) (by first | assumption | exact hka (by omega))
  refine goS hz hX hns hT Try.func38 (treeRC t a f keep torn cut) ?_
  repeat' (with_reducible (first | refine h_eq ?_ | refine h_need ?_ ?_ | refine h_dec (fun _ => ?_) (fun _ => ?_) | refine h_beq (fun _ => ?_) (fun _ => ?_) | refine h_bne (fun _ => ?_) (fun _ => ?_) | refine h_tt ?_ | refine h_ff ?_ | refine h_not ?_ | refine h_ite (fun _ => ?_) (fun _ => ?_) | refine h_both (fun _ => ?_) (fun _ => ?_) | refine h_ret ?_ | refine h_at ?_))
  · have hc : okC cut = false := by simp [okC]; omega
    refine endC 1 roL rfl (Nat.le_refl _) ?_ ?_ <;> simp [crE, rcH, rcA, crF, hc, rnS]
  · have hc : okC cut = false := by simp [okC]; omega
    refine endC 1 roL rfl (Nat.le_refl _) ?_ ?_ <;> simp [crE, rcH, rcA, crF, hc, rnS]
  · exact loop (by omega) (by omega) a.length 0 t (by omega) rfl hd.t64 rfl
end Ds

/-! The document's disk of a disk. -/
namespace Ds
open Go Go.Sx Go.Proofs Lf
def tOf (th : Th) : List ByteArray := th.map fun x => bytesStr (arrOf x)
def gK (m : As) (n : Int) : CL cK := kM n (bytesStr (nowA m n))
def aOf (m : As) : Kp := (asK m).map (gK m)
theorem tOf_len (th : Th) : (tOf th).length = th.length := List.length_map _
theorem tOf_get {th : Th} {i : Nat} (h : i < th.length) : (tOf th).getD i ByteArray.empty = bytesStr (arrOf (th.getD i (CL.d cS))) := by
  rw [getD_lt (by rw [tOf_len]; exact h), getD_lt h]
  simp [tOf]
theorem inL_of (th : Th) (n : Int) : inL (tOf th) n = inTh th n := by unfold inL inTh; rw [tOf_len]
theorem okR_of {th : Th} {m : As} {fu : Int} (h : okD th m fu) : okR (tOf th) (aOf m) fu := by
  have hm := keys_len h.m h.t.1
  refine ⟨by rw [tOf_len]; exact h.t.1, by rw [aOf, List.length_map, asK_len]; exact hm, fun x hx => ?_, h.f, fun i hi => ?_, fun x hx => ?_⟩
  · obtain ⟨n, hn, rfl⟩ := List.mem_map.1 hx
    rw [tOf_len]
    exact (nowA_len h.m hn).2
  · rw [tOf_len] at hi
    rw [tOf_get hi, bytes_len]
    exact h.t.2 i hi
  · obtain ⟨n, hn, rfl⟩ := List.mem_map.1 hx
    show (bytesStr (nowA m n)).size = 64
    rw [bytes_len]
    exact (nowA_len h.m hn).1
theorem mem_asK {m : As} {n : Int} : n ∈ asK m ↔ ∃ p ∈ m, p.1 = n := by rw [(asK_perm m).mem_iff, List.mem_map]
theorem find_map (m : As) (n : Int) : ∀ L : List Int, (L.map (gK m)).find? (fun x => kN x == n) = if n ∈ L then some (gK m n) else none
  | [] => rfl
  | y :: L => by
    rw [List.map_cons, List.find?_cons]
    by_cases e : y = n
    · subst e
      rw [show (kN (gK m y) == y) = true from by simp [gK], if_pos List.mem_cons_self]
    · rw [show (kN (gK m y) == n) = false from by simpa [gK] using e]
      simp only []
      rw [find_map m n L]
      by_cases h : n ∈ L
      · rw [if_pos h, if_pos (List.mem_cons_of_mem _ h)]
      · rw [if_neg h, if_neg (fun h2 => (List.mem_cons.1 h2).elim (fun e2 => e e2.symm) h)]
theorem mget_ask {m : As} (h : (m.map (·.1)).Nodup) {n : Int} : (n ∈ asK m → mget m n = some (nowA m n)) ∧ (n ∉ asK m → mget m n = none) := by
  refine ⟨fun hm => ?_, fun hm => mget_none fun p hp e => hm (mem_asK.2 ⟨p, hp, e⟩)⟩
  obtain ⟨p, hp, rfl⟩ := mem_asK.1 hm
  unfold nowA
  rw [mget_of h hp]
  rfl
theorem rd_of {th : Th} {m : As} {fu : Int} (h : okD th m fu) (n : Int) : rrT (tOf th) (aOf m) n = rdS th m n ∧ rrE (tOf th) n = rdE th n := by
  refine ⟨?_, by unfold rrE rdE; rw [inL_of]⟩
  unfold rrT rdS
  rw [inL_of]
  split
  · rename_i hi
    obtain ⟨h0, h1⟩ := inTh_iff.1 hi
    unfold aget aOf nowS
    rw [find_map]
    by_cases hm : n ∈ asK m
    · rw [if_pos hm, (mget_ask h.m.1).1 hm]
      rfl
    · rw [if_neg hm, (mget_ask h.m.1).2 hm]
      exact tOf_get (by omega)
  · rfl
theorem burn_of {f : Int} (h : okF f) : burnR f = burnF f := by
  unfold okF at h
  unfold burnR burnF imax
  repeat' split
  all_goals omega
theorem rwE_of (th : Th) (f n : Int) (s : ByteArray) : rwE (tOf th) f n s = wrE th f n s := by unfold rwE wrE; rw [inL_of]
theorem tOf_set (th : Th) (i : Nat) (ws : List Int) : tOf (th.set i (toArr ws)) = (tOf th).set i (bytesStr ws) := by
  unfold tOf
  rw [List.map_set]
  rfl
theorem crStep_of {th : Th} {m : As} (ht : okT th) {keep : List Bool} {torn cut : Int} (h0 : 0 ≤ cut) (h1 : cut ≤ 64) {k : Nat} {n : Int} (hn : (nowA m n).length = 64 ∧ 0 ≤ n ∧ n < (th.length : Int)) :
    (tOf th).set n.toNat (rcS keep torn cut ((tOf th).getD n.toNat ByteArray.empty) (bytesStr (nowA m n)) k) = tOf (crStep keep torn cut m th k n) := by
  have hl : n.toNat < th.length := by omega
  rw [tOf_get hl]
  unfold rcS crStep
  split
  · rw [tOf_set, bytes_torn (ht.2 _ hl) hn.1 (by omega)]
  · split
    · rw [tOf_set]
    · rw [← tOf_get hl]; exact set_same
theorem crT_of {m : As} {keep : List Bool} {torn cut : Int} (h0 : 0 ≤ cut) (h1 : cut ≤ 64) : ∀ (L : List Int) (k : Nat) (th : Th), okT th → (∀ n ∈ L, (nowA m n).length = 64 ∧ 0 ≤ n ∧ n < (th.length : Int)) →
    rcT keep torn cut (L.map (gK m)) k (tOf th) = tOf (crT keep torn cut m L k th)
  | [], k, th, _, _ => rfl
  | n :: L, k, th, ht, hL => by
    have hn := hL n List.mem_cons_self
    show rcT keep torn cut (L.map (gK m)) (k + 1) ((tOf th).set n.toNat (rcS keep torn cut ((tOf th).getD n.toNat ByteArray.empty) (bytesStr (nowA m n)) k)) = tOf (crT keep torn cut m L (k + 1) (crStep keep torn cut m th k n))
    rw [crStep_of ht h0 h1 hn]
    exact crT_of h0 h1 L (k + 1) _ (crStep_ok ht hn.2.1 hn.2.2 h0 h1 hn.1) fun x hx => by rw [crStep_len]; exact hL x (List.mem_cons_of_mem _ hx)
theorem rcH_of {th : Th} {m : As} {fu : Int} (h : okD th m fu) (keep : List Bool) (torn cut : Int) : rcH (tOf th) (aOf m) keep torn cut = tOf (crH th m keep torn cut) := by
  unfold rcH crH
  split
  · rename_i hc
    obtain ⟨h0, h1⟩ := okC_iff.1 hc
    exact crT_of h0 h1 _ _ _ h.t fun n hn => nowA_len h.m hn
  · rfl
theorem aOf_nil : aOf [] = [] := rfl
theorem putT_get (m : As) : ∀ (L : List Int), L.Nodup → (∀ n ∈ L, 0 ≤ n) → ∀ (t : List ByteArray) (i : Nat), i < t.length → (putT t (L.map (gK m))).getD i ByteArray.empty = if (i : Int) ∈ L then bytesStr (nowA m (i : Int)) else t.getD i ByteArray.empty
  | [], _, _, t, i, hi => rfl
  | n :: L, hn, h0, t, i, hi => by
    obtain ⟨hn1, hn2⟩ := List.nodup_cons.1 hn
    show (putT (t.set n.toNat (bytesStr (nowA m n))) (L.map (gK m))).getD i ByteArray.empty = _
    rw [putT_get m L hn2 (fun x hx => h0 x (List.mem_cons_of_mem _ hx)) _ i (by rw [List.length_set]; exact hi)]
    have hn0 := h0 n List.mem_cons_self
    by_cases e : (i : Int) = n
    · have e' : n.toNat = i := by omega
      rw [if_neg (by rw [e]; exact hn1), if_pos (by rw [e]; exact List.mem_cons_self), e', arr_set_self hi, e]
    · rw [arr_set_ne (by omega)]
      by_cases hm : (i : Int) ∈ L
      · rw [if_pos hm, if_pos (List.mem_cons_of_mem _ hm)]
      · rw [if_neg hm, if_neg (fun h => (List.mem_cons.1 h).elim e hm)]
theorem rfT_of {th : Th} {m : As} {fu : Int} (h : okD th m fu) : rfT (tOf th) (aOf m) fu = tOf (flT th m fu) := by
  unfold rfT flT
  split
  · rfl
  · refine List.ext_getElem (by rw [putT_len, tOf_len, tOf_len, ovl_len]) fun i h1 h2 => ?_
    have hi : i < th.length := by rw [putT_len, tOf_len] at h1; exact h1
    have := putT_get m (asK m) (asK_nodup h.m) (fun n hn => (nowA_len h.m hn).2.1) (tOf th) i (by rw [tOf_len]; exact hi)
    rw [← getD_lt h1 (d := ByteArray.empty), ← getD_lt h2 (d := ByteArray.empty), tOf_get (by rw [ovl_len]; exact hi), ovl_get hi]
    refine this.trans ?_
    unfold nowS
    by_cases hm : (i : Int) ∈ asK m
    · rw [if_pos hm, (mget_ask h.m.1).1 hm]
    · rw [if_neg hm, (mget_ask h.m.1).2 hm, tOf_get hi, Int.toNat_natCast]
def insK (n : Int) : List Int → List Int
  | [] => [n]
  | y :: l => if y ≥ n then (if y = n then y :: l else n :: y :: l) else y :: insK n l
theorem wrK_true (n : Int) (s : ByteArray) : ∀ l : Kp, (∀ x ∈ l, kN x ≠ n) → wrK n s l true = (l, true)
  | [], _ => rfl
  | x :: l, h => by
    unfold wrK
    simp only [Bool.true_or]
    rw [wrK_true n s l fun y hy => h y (List.mem_cons_of_mem _ hy), if_neg (by simp), if_pos (h x List.mem_cons_self)]
    rfl
theorem wrA_ins (m m' : As) (n : Int) (s : ByteArray) (hn : gK m' n = kM n s) : ∀ L : List Int, L.Pairwise (fun x y => x < y) → (∀ x ∈ L, x ≠ n → gK m' x = gK m x) → wrA (L.map (gK m)) n s = (insK n L).map (gK m')
  | [], _, _ => by
    show [kM n s] = [gK m' n]
    rw [hn]
  | y :: L, hL, hg => by
    obtain ⟨h1, h2⟩ := List.pairwise_cons.1 hL
    have ky : kN (gK m y) = y := rfl
    by_cases hy : y ≥ n
    · have hne : ∀ x ∈ L, x ≠ n := fun x hx => by have := h1 x hx; omega
      have hrest : L.map (gK m') = L.map (gK m) := List.map_congr_left fun x hx => hg x (List.mem_cons_of_mem _ hx) (hne x hx)
      have e1 : wrK n s (L.map (gK m)) true = (L.map (gK m), true) := wrK_true n s _ fun x hx => by
        obtain ⟨z, hz, rfl⟩ := List.mem_map.1 hx
        exact hne z hz
      have e2 : (false || decide (kN (gK m y) ≥ n)) = true := by rw [ky]; simpa using hy
      unfold wrA insK
      rw [List.map_cons]
      simp only [wrK]
      rw [e2, e1, if_pos ⟨by rw [ky]; exact hy, trivial⟩, if_pos hy, ky]
      simp only [Bool.true_eq_false, if_false, List.append_nil]
      by_cases e : y = n
      · rw [if_neg (fun h => h e), if_pos e, List.map_cons, hrest, e, hn]
        rfl
      · rw [if_pos e, if_neg e, List.map_cons, List.map_cons, hrest, hn, hg y List.mem_cons_self e]
        rfl
    · have ih := wrA_ins m m' n s hn L h2 fun x hx => hg x (List.mem_cons_of_mem _ hx)
      have e2 : (false || decide (kN (gK m y) ≥ n)) = false := by rw [ky]; simpa using hy
      have ei : insK n (y :: L) = y :: insK n L := by rw [insK, if_neg hy]
      rw [ei, List.map_cons, List.map_cons, hg y List.mem_cons_self (by omega), ← ih]
      unfold wrA
      simp only [wrK]
      rw [e2, if_neg (fun h => hy (by have := h.1; rw [ky] at this; exact this)), ky, if_pos (show y ≠ n by omega)]
      simp
theorem insK_mem (n : Int) : ∀ L : List Int, L.Pairwise (fun x y => x < y) → n ∈ L → insK n L = L
  | [], _, h => by cases h
  | y :: L, hL, h => by
    obtain ⟨h1, h2⟩ := List.pairwise_cons.1 hL
    unfold insK
    by_cases e : y = n
    · rw [if_pos (by omega), if_pos e]
    · have hm : n ∈ L := (List.mem_cons.1 h).resolve_left fun h => e h.symm
      have := h1 n hm
      rw [if_neg (by omega), insK_mem n L h2 hm]
theorem insK_not (n : Int) : ∀ L : List Int, n ∉ L → insK n L = insZ n L
  | [], _ => rfl
  | y :: L, h => by
    have e : y ≠ n := fun e => h (e ▸ List.mem_cons_self)
    unfold insK insZ
    by_cases hy : y ≥ n
    · rw [if_pos hy, if_neg e, decide_eq_true hy, cond_true]
    · rw [if_neg hy, decide_eq_false hy, cond_false, insK_not n L fun hm => h (List.mem_cons_of_mem _ hm)]
theorem asK_put {N : Nat} {m : As} (h : okM N m) (n : Int) (v : kS.V) : asK (mput m n v) = insK n (asK m) := by
  by_cases hm : n ∈ asK m
  · rw [insK_mem n _ (asK_lt h) hm]
    unfold asK
    have hh : mhas m n = true := by rw [mget_has, (mget_ask h.1).1 hm]; rfl
    unfold mput
    rw [if_pos hh, map_keys_put]
  · rw [insK_not n _ hm]
    have hh : mhas m n = false := by rw [mget_has, (mget_ask h.1).2 hm]; rfl
    have e : mput m n v = m ++ [(n, v)] := by unfold mput; rw [if_neg (by rw [hh]; simp)]
    unfold asK
    rw [e, List.map_append, srtI_eq]
    have hp : (m.map (·.1) ++ [n]).Perm (n :: m.map (·.1)) := List.perm_append_singleton _ _
    rw [show (List.map (fun x : Int × kS.V => x.1) [(n, v)]) = [n] from rfl, srtZ_of hp, ← srtI_eq]
    rfl
theorem nowA_put {m : As} (h : (m.map (·.1)).Nodup) (n x : Int) (v : kS.V) : nowA (mput m n v) x = if x = n then v else nowA m x := by
  have e := mget_put h (n := n) (x := x) (v := v)
  show (mget (mput m n v) x).getD kS.d = _
  rw [e]
  by_cases hx : x = n
  · rw [if_pos hx]; exact (if_pos hx).symm
  · rw [if_neg hx]; exact (if_neg hx).symm
theorem rwA_of {th : Th} {m : As} {fu : Int} (h : okD th m fu) (n : Int) (s : ByteArray) : rwA (tOf th) (aOf m) fu n s = aOf (wrM th m fu n s) := by
  unfold rwA wrM
  rw [rwE_of]
  split
  · have hv := fun x => nowA_put h.m.1 n x (strInts s)
    refine Eq.trans (wrA_ins m (mput m n (strInts s)) n s ?_ _ (asK_lt h.m) fun x _ hx => ?_) (congrArg (List.map (gK (mput m n (strInts s)))) (asK_put h.m n (strInts s))).symm
    · exact (congrArg (fun z => kM n (bytesStr z)) ((hv n).trans (if_pos rfl))).trans (congrArg (kM n) (bytes_strInts s))
    · exact congrArg (fun z => kM x (bytesStr z)) ((hv x).trans (if_neg hx))
  · rfl
theorem rwF_of {th : Th} {fu : Int} (h : okF fu) (n : Int) (s : ByteArray) : rwF (tOf th) fu n s = wrF th fu n s := by
  unfold rwF wrF
  rw [inL_of, burn_of h]
def mRR : List AV → RM ((List ByteArray × Kp × Int × Int) × List Nat)
  | [.ptr id 0, n] => (mR [.ptr id 0]).bind fun ((t, a, f), σ) => match n.num? with
    | some (_, _, n) => .ret ((t, a, f, n), σ)
    | none => .fail "no number"
  | _ => .fail "no disk"
def mRC : List AV → RM ((List ByteArray × Kp × Int × List Bool × Int × Int) × List Nat)
  | [.ptr id 0, .s (.ro (.bools ks)), t, c] => (mR [.ptr id 0]).bind fun ((t0, a, f), σ) => match t.num?, c.num? with
    | some (_, _, t), some (_, _, c) => .ret ((t0, a, f, ks, t, c), σ)
    | _, _ => .fail "no number"
  | _ => .fail "no disk"
end Ds
