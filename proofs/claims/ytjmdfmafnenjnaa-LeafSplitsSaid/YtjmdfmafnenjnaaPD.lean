/- Lemmas: L1, L2, L3, L4, L5, L6, L7, Lm, L8, R1, R2. -/
import Derived.Test.YtjmdfmafnenjnaaProg
import Derived.Lib.Walk
import Derived.WalkKit
import Derived.Laws.Externs
import Derived.Lib.Bytealg
import Derived.Test.YtjmdfmafnenjnaaPC

namespace Lf
open Go Go.Sx Go.Proofs
noncomputable abbrev P : Program := Try.prog
theorem mixed : P.follows .mixedOrders = true := by kernel_rfl
abbrev tInt : Ty := .b (.int .i64)
abbrev tBool : Ty := .b .bool
abbrev tStr : Ty := .b .str
abbrev tInts : Ty := .b (.row (.ints .i64) 3)
abbrev cE : List CK := [.str, .str]
abbrev cB : List CK := [.str, .int .i64]
abbrev En : Type := ByteArray × ByteArray × Unit
abbrev Br : Type := ByteArray × Int × Unit
abbrev eE : TypeId := 59
abbrev eB : TypeId := 36
abbrev eRE : TypeId := 134
abbrev eRB : TypeId := 135
abbrev tEs : Ty := .b (.row (.typ cE) eE)
abbrev tBs : Ty := .b (.row (.typ cB) eB)
abbrev tNode : Ty := .st [.bool, .row (.typ cE) eE, .row (.typ cB) eB]
abbrev tRN : Ty := .st [.bool, .row (.typ cE) eRE, .row (.typ cB) eRB]
abbrev tREs : Ty := .b (.row (.typ cE) eRE)
abbrev tRBs : Ty := .b (.row (.typ cB) eRB)
abbrev avN (l : Bool) (es : List En) (bs : List Br) : AV := .agg [.s (.bool l), .s (.ro (.typ cE es)), .s (.ro (.typ cB bs))]
abbrev obN (l : Bool) (es : List En) (bs : List Br) (t : TypeId) : AObj := .own [.s (.bool l), .s (.ro (.typ cE es)), .s (.ro (.typ cB bs))] t

theorem go {Z : Glob} {X : Ctx} {t : Tab} {f : FuncId} {fn : Func} {ns : List (Nat × Norm)} {c : Cfg} {tr : Tree} {K : List AObj → AV → Prop} (hz : ZCtx Z X) (hX : ∀ id, X.H id = none) (hT : t.Ok P Z) (hf : P.funcs[f]? = some fn)
    (e : run P t.sum fn ns c = tr) (h : tr.Holds K (Safe P f X K)) : Safe P f X K c := safe_of_run (Tab.sOk hT) hz mixed hf (fun _ _ id _ => hX id) e h

def dE : En := (ByteArray.empty, ByteArray.empty, ())
def dB : Br := (ByteArray.empty, 0, ())

/-! ### May -/
def okE (es : List En) (i : Nat) : Bool := !(decide ((es.getD i dE).1 = ByteArray.empty) || decide (((es.getD i dE).1.size : Int) > 24) || decide (((es.getD i dE).2.1.size : Int) > 100) || (decide (0 < i) && !slt (es.getD (i - 1) dE).1 (es.getD i dE).1))
def okB (bs : List Br) (i : Nat) : Bool := !(decide (((bs.getD i dB).1.size : Int) > 24) || decide ((bs.getD i dB).2.1 < 2) || decide ((bs.getD i dB).2.1 ≥ 1024) || (decide (0 < i) && !slt (bs.getD (i - 1) dB).1 (bs.getD i dB).1))
def okEs (es : List En) : Bool := (List.range es.length).all (okE es)
def okBs (bs : List Br) : Bool := (List.range bs.length).all (okB bs)
def mayN (l : Bool) (es : List En) (bs : List Br) : Bool := !((l && decide ((bs.length : Int) > 0)) || (!l && decide ((es.length : Int) > 0))) && okEs es && okBs bs

def tab0 : Tab := []
def nsMay : List (Nat × Norm) := [(4, ⟨[], [1, 27, 28, 29], 0, []⟩), (10, ⟨[], [1, 67, 68, 69], 0, []⟩)]
noncomputable def cMay1 (l : Bool) (es : List En) (bs : List Br) (i : Int) : Cfg := ⟨sl 105 [(1, .ptr 0 0), (27, .s (.ro (.typ cE es))), (28, .s (.int .i64 (es.length : Int))), (29, .s (.int .i64 i))], [obN l es bs 31], hd Try.f25 4, {}⟩
noncomputable def cMay2 (l : Bool) (es : List En) (bs : List Br) (i : Int) : Cfg := ⟨sl 105 [(1, .ptr 0 0), (67, .s (.ro (.typ cB bs))), (68, .s (.int .i64 (bs.length : Int))), (69, .s (.int .i64 i))], [obN l es bs 31], hd Try.f25 10, {}⟩
theorem treeMay (l : Bool) (es : List En) (bs : List Br) : run P tab0.sum Try.f25 nsMay (start Try.f25 [avN l es bs] []) =
  Tree.ite l (Tree.ite (decide ((↑bs.length : Int) > (0 : Int))) (Tree.ret [AObj.own [AV.s (SV.bool l), AV.s (SV.ro (Con.typ [CK.str, CK.str] es)), AV.s (SV.ro (Con.typ [CK.str, CK.int IntKind.i64] bs))] (31 : Nat)] (AV.s (SV.blit false))) (Tree.ite (!l) (Tree.ite (decide ((↑es.length : Int) > (0 : Int))) (Tree.ret [AObj.own [AV.s (SV.bool l), AV.s (SV.ro (Con.typ [CK.str, CK.str] es)), AV.s (SV.ro (Con.typ [CK.str, CK.int IntKind.i64] bs))] (31 : Nat)] (AV.s (SV.blit false))) (Tree.at (Cfg.mk (sl (105 : Nat) [((1 : Nat), AV.ptr (0 : Nat) (0 : Nat)), ((27 : Nat), AV.s (SV.ro (Con.typ [CK.str, CK.str] es))), ((28 : Nat), AV.s (SV.int IntKind.i64 (↑es.length : Int))), ((29 : Nat), AV.s (SV.int IntKind.i64 (0 : Int)))]) [AObj.own [AV.s (SV.bool l), AV.s (SV.ro (Con.typ [CK.str, CK.str] es)), AV.s (SV.ro (Con.typ [CK.str, CK.int IntKind.i64] bs))] (31 : Nat)] (hd Try.f25 (4 : Nat)) (Stk.mk none false (0 : Nat) [] (0 : Nat))))) (Tree.at (Cfg.mk (sl (105 : Nat) [((1 : Nat), AV.ptr (0 : Nat) (0 : Nat)), ((27 : Nat), AV.s (SV.ro (Con.typ [CK.str, CK.str] es))), ((28 : Nat), AV.s (SV.int IntKind.i64 (↑es.length : Int))), ((29 : Nat), AV.s (SV.int IntKind.i64 (0 : Int)))]) [AObj.own [AV.s (SV.bool l), AV.s (SV.ro (Con.typ [CK.str, CK.str] es)), AV.s (SV.ro (Con.typ [CK.str, CK.int IntKind.i64] bs))] (31 : Nat)] (hd Try.f25 (4 : Nat)) (Stk.mk none false (0 : Nat) [] (0 : Nat)))))) (Tree.ite (!l) (Tree.ite (decide ((↑es.length : Int) > (0 : Int))) (Tree.ret [AObj.own [AV.s (SV.bool l), AV.s (SV.ro (Con.typ [CK.str, CK.str] es)), AV.s (SV.ro (Con.typ [CK.str, CK.int IntKind.i64] bs))] (31 : Nat)] (AV.s (SV.blit false))) (Tree.at (Cfg.mk (sl (105 : Nat) [((1 : Nat), AV.ptr (0 : Nat) (0 : Nat)), ((27 : Nat), AV.s (SV.ro (Con.typ [CK.str, CK.str] es))), ((28 : Nat), AV.s (SV.int IntKind.i64 (↑es.length : Int))), ((29 : Nat), AV.s (SV.int IntKind.i64 (0 : Int)))]) [AObj.own [AV.s (SV.bool l), AV.s (SV.ro (Con.typ [CK.str, CK.str] es)), AV.s (SV.ro (Con.typ [CK.str, CK.int IntKind.i64] bs))] (31 : Nat)] (hd Try.f25 (4 : Nat)) (Stk.mk none false (0 : Nat) [] (0 : Nat))))) (Tree.at (Cfg.mk (sl (105 : Nat) [((1 : Nat), AV.ptr (0 : Nat) (0 : Nat)), ((27 : Nat), AV.s (SV.ro (Con.typ [CK.str, CK.str] es))), ((28 : Nat), AV.s (SV.int IntKind.i64 (↑es.length : Int))), ((29 : Nat), AV.s (SV.int IntKind.i64 (0 : Int)))]) [AObj.own [AV.s (SV.bool l), AV.s (SV.ro (Con.typ [CK.str, CK.str] es)), AV.s (SV.ro (Con.typ [CK.str, CK.int IntKind.i64] bs))] (31 : Nat)] (hd Try.f25 (4 : Nat)) (Stk.mk none false (0 : Nat) [] (0 : Nat))))) := by kernel_rfl
theorem loopMay1 (l : Bool) (es : List En) (bs : List Br) (i : Int) : run P tab0.sum Try.f25 nsMay (cMay1 l es bs i) =
  Tree.ite (decide (i < (↑es.length : Int))) (Tree.need ((0 : Int) ≤ i) (Tree.need (i < (↑es.length : Int)) (Tree.ite (decide ((es.getD i.toNat (CL.d [CK.str, CK.str])).fst = ByteArray.empty)) (Tree.ret [AObj.own [AV.s (SV.bool l), AV.s (SV.ro (Con.typ [CK.str, CK.str] es)), AV.s (SV.ro (Con.typ [CK.str, CK.int IntKind.i64] bs))] (31 : Nat), AObj.own [AV.s (SV.str (es.getD i.toNat (CL.d [CK.str, CK.str])).fst), AV.s (SV.str (es.getD i.toNat (CL.d [CK.str, CK.str])).snd.fst)] (59 : Nat)] (AV.s (SV.blit false))) (Tree.ite (decide ((↑(ByteArray.size (es.getD i.toNat (CL.d [CK.str, CK.str])).fst) : Int) > (24 : Int))) (Tree.ret [AObj.own [AV.s (SV.bool l), AV.s (SV.ro (Con.typ [CK.str, CK.str] es)), AV.s (SV.ro (Con.typ [CK.str, CK.int IntKind.i64] bs))] (31 : Nat), AObj.own [AV.s (SV.str (es.getD i.toNat (CL.d [CK.str, CK.str])).fst), AV.s (SV.str (es.getD i.toNat (CL.d [CK.str, CK.str])).snd.fst)] (59 : Nat)] (AV.s (SV.blit false))) (Tree.ite (decide ((↑(ByteArray.size (es.getD i.toNat (CL.d [CK.str, CK.str])).snd.fst) : Int) > (100 : Int))) (Tree.ret [AObj.own [AV.s (SV.bool l), AV.s (SV.ro (Con.typ [CK.str, CK.str] es)), AV.s (SV.ro (Con.typ [CK.str, CK.int IntKind.i64] bs))] (31 : Nat), AObj.own [AV.s (SV.str (es.getD i.toNat (CL.d [CK.str, CK.str])).fst), AV.s (SV.str (es.getD i.toNat (CL.d [CK.str, CK.str])).snd.fst)] (59 : Nat)] (AV.s (SV.blit false))) (Tree.ite (decide (i > (0 : Int))) (Tree.need (inI64 (i - (1 : Int))) (Tree.need ((0 : Int) ≤ i - (1 : Int)) (Tree.need (i - (1 : Int) < (↑es.length : Int)) (Tree.ite (!slt (es.getD (i - (1 : Int)).toNat (CL.d [CK.str, CK.str])).fst (es.getD i.toNat (CL.d [CK.str, CK.str])).fst) (Tree.ret [AObj.own [AV.s (SV.bool l), AV.s (SV.ro (Con.typ [CK.str, CK.str] es)), AV.s (SV.ro (Con.typ [CK.str, CK.int IntKind.i64] bs))] (31 : Nat), AObj.own [AV.s (SV.str (es.getD i.toNat (CL.d [CK.str, CK.str])).fst), AV.s (SV.str (es.getD i.toNat (CL.d [CK.str, CK.str])).snd.fst)] (59 : Nat)] (AV.s (SV.blit false))) (Tree.need (inI64 (i + (1 : Int))) (Tree.at (Cfg.mk (sl (105 : Nat) [((1 : Nat), AV.ptr (0 : Nat) (0 : Nat)), ((27 : Nat), AV.s (SV.ro (Con.typ [CK.str, CK.str] es))), ((28 : Nat), AV.s (SV.int IntKind.i64 (↑es.length : Int))), ((29 : Nat), AV.s (SV.int IntKind.i64 (i + (1 : Int))))]) [AObj.own [AV.s (SV.bool l), AV.s (SV.ro (Con.typ [CK.str, CK.str] es)), AV.s (SV.ro (Con.typ [CK.str, CK.int IntKind.i64] bs))] (31 : Nat)] (hd Try.f25 (4 : Nat)) (Stk.mk none false (0 : Nat) [] (0 : Nat))))))))) (Tree.need (inI64 (i + (1 : Int))) (Tree.at (Cfg.mk (sl (105 : Nat) [((1 : Nat), AV.ptr (0 : Nat) (0 : Nat)), ((27 : Nat), AV.s (SV.ro (Con.typ [CK.str, CK.str] es))), ((28 : Nat), AV.s (SV.int IntKind.i64 (↑es.length : Int))), ((29 : Nat), AV.s (SV.int IntKind.i64 (i + (1 : Int))))]) [AObj.own [AV.s (SV.bool l), AV.s (SV.ro (Con.typ [CK.str, CK.str] es)), AV.s (SV.ro (Con.typ [CK.str, CK.int IntKind.i64] bs))] (31 : Nat)] (hd Try.f25 (4 : Nat)) (Stk.mk none false (0 : Nat) [] (0 : Nat))))))))))) (Tree.at (Cfg.mk (sl (105 : Nat) [((1 : Nat), AV.ptr (0 : Nat) (0 : Nat)), ((67 : Nat), AV.s (SV.ro (Con.typ [CK.str, CK.int IntKind.i64] bs))), ((68 : Nat), AV.s (SV.int IntKind.i64 (↑bs.length : Int))), ((69 : Nat), AV.s (SV.int IntKind.i64 (0 : Int)))]) [AObj.own [AV.s (SV.bool l), AV.s (SV.ro (Con.typ [CK.str, CK.str] es)), AV.s (SV.ro (Con.typ [CK.str, CK.int IntKind.i64] bs))] (31 : Nat)] (hd Try.f25 (10 : Nat)) (Stk.mk none false (0 : Nat) [] (0 : Nat)))) := by kernel_rfl
theorem loopMay2 (l : Bool) (es : List En) (bs : List Br) (i : Int) : run P tab0.sum Try.f25 nsMay (cMay2 l es bs i) =
  Tree.ite (decide (i < (↑bs.length : Int))) (Tree.need ((0 : Int) ≤ i) (Tree.need (i < (↑bs.length : Int)) (Tree.ite (decide ((↑(ByteArray.size (bs.getD i.toNat (CL.d [CK.str, CK.int IntKind.i64])).fst) : Int) > (24 : Int))) (Tree.ret [AObj.own [AV.s (SV.bool l), AV.s (SV.ro (Con.typ [CK.str, CK.str] es)), AV.s (SV.ro (Con.typ [CK.str, CK.int IntKind.i64] bs))] (31 : Nat), AObj.own [AV.s (SV.str (bs.getD i.toNat (CL.d [CK.str, CK.int IntKind.i64])).fst), AV.s (SV.int IntKind.i64 (bs.getD i.toNat (CL.d [CK.str, CK.int IntKind.i64])).snd.fst)] (36 : Nat)] (AV.s (SV.blit false))) (Tree.ite (decide ((bs.getD i.toNat (CL.d [CK.str, CK.int IntKind.i64])).snd.fst < (2 : Int))) (Tree.ret [AObj.own [AV.s (SV.bool l), AV.s (SV.ro (Con.typ [CK.str, CK.str] es)), AV.s (SV.ro (Con.typ [CK.str, CK.int IntKind.i64] bs))] (31 : Nat), AObj.own [AV.s (SV.str (bs.getD i.toNat (CL.d [CK.str, CK.int IntKind.i64])).fst), AV.s (SV.int IntKind.i64 (bs.getD i.toNat (CL.d [CK.str, CK.int IntKind.i64])).snd.fst)] (36 : Nat)] (AV.s (SV.blit false))) (Tree.ite (decide ((bs.getD i.toNat (CL.d [CK.str, CK.int IntKind.i64])).snd.fst ≥ (1024 : Int))) (Tree.ret [AObj.own [AV.s (SV.bool l), AV.s (SV.ro (Con.typ [CK.str, CK.str] es)), AV.s (SV.ro (Con.typ [CK.str, CK.int IntKind.i64] bs))] (31 : Nat), AObj.own [AV.s (SV.str (bs.getD i.toNat (CL.d [CK.str, CK.int IntKind.i64])).fst), AV.s (SV.int IntKind.i64 (bs.getD i.toNat (CL.d [CK.str, CK.int IntKind.i64])).snd.fst)] (36 : Nat)] (AV.s (SV.blit false))) (Tree.ite (decide (i > (0 : Int))) (Tree.need (inI64 (i - (1 : Int))) (Tree.need ((0 : Int) ≤ i - (1 : Int)) (Tree.need (i - (1 : Int) < (↑bs.length : Int)) (Tree.ite (!slt (bs.getD (i - (1 : Int)).toNat (CL.d [CK.str, CK.int IntKind.i64])).fst (bs.getD i.toNat (CL.d [CK.str, CK.int IntKind.i64])).fst) (Tree.ret [AObj.own [AV.s (SV.bool l), AV.s (SV.ro (Con.typ [CK.str, CK.str] es)), AV.s (SV.ro (Con.typ [CK.str, CK.int IntKind.i64] bs))] (31 : Nat), AObj.own [AV.s (SV.str (bs.getD i.toNat (CL.d [CK.str, CK.int IntKind.i64])).fst), AV.s (SV.int IntKind.i64 (bs.getD i.toNat (CL.d [CK.str, CK.int IntKind.i64])).snd.fst)] (36 : Nat)] (AV.s (SV.blit false))) (Tree.need (inI64 (i + (1 : Int))) (Tree.at (Cfg.mk (sl (105 : Nat) [((1 : Nat), AV.ptr (0 : Nat) (0 : Nat)), ((67 : Nat), AV.s (SV.ro (Con.typ [CK.str, CK.int IntKind.i64] bs))), ((68 : Nat), AV.s (SV.int IntKind.i64 (↑bs.length : Int))), ((69 : Nat), AV.s (SV.int IntKind.i64 (i + (1 : Int))))]) [AObj.own [AV.s (SV.bool l), AV.s (SV.ro (Con.typ [CK.str, CK.str] es)), AV.s (SV.ro (Con.typ [CK.str, CK.int IntKind.i64] bs))] (31 : Nat)] (hd Try.f25 (10 : Nat)) (Stk.mk none false (0 : Nat) [] (0 : Nat))))))))) (Tree.need (inI64 (i + (1 : Int))) (Tree.at (Cfg.mk (sl (105 : Nat) [((1 : Nat), AV.ptr (0 : Nat) (0 : Nat)), ((67 : Nat), AV.s (SV.ro (Con.typ [CK.str, CK.int IntKind.i64] bs))), ((68 : Nat), AV.s (SV.int IntKind.i64 (↑bs.length : Int))), ((69 : Nat), AV.s (SV.int IntKind.i64 (i + (1 : Int))))]) [AObj.own [AV.s (SV.bool l), AV.s (SV.ro (Con.typ [CK.str, CK.str] es)), AV.s (SV.ro (Con.typ [CK.str, CK.int IntKind.i64] bs))] (31 : Nat)] (hd Try.f25 (10 : Nat)) (Stk.mk none false (0 : Nat) [] (0 : Nat))))))))))) (Tree.ret [AObj.own [AV.s (SV.bool l), AV.s (SV.ro (Con.typ [CK.str, CK.str] es)), AV.s (SV.ro (Con.typ [CK.str, CK.int IntKind.i64] bs))] (31 : Nat)] (AV.s (SV.blit true))) := by kernel_rfl
theorem may_ok {Z : Glob} : FnOk P Z 25 [tNode] [tBool] (fun _ => []) (fun ((l, es, bs, ()), ()) => (mayN l es bs, ())) := by
  refine fnOk_of_safe Try.func25 (by kernel_rfl) (by kernel_rfl) ?_
  rintro ⟨⟨(l : Bool), (es : List En), (bs : List Br), ⟨⟩⟩, ⟨⟩⟩ ⟨⟨_, hle, hlb, _⟩, _⟩ _ X hX hz
  have hle : es.length ≤ 9223372036854775807 := hle
  have hlb : bs.length ≤ 9223372036854775807 := hlb
  have second : okEs es = true → mayN l es bs = okBs bs → ∀ (n k : Nat), k + n = bs.length → (∀ j, j < k → okB bs j = true) → Safe P 25 X (Ends [tBool] (mayN l es bs, ())) (cMay2 l es bs (k : Int)) := by
    intro he hm n
    induction n with
    | zero =>
      intro k hk hp
      refine go hz hX Tab.Ok.nil Try.func25 (loopMay2 l es bs k) ⟨fun h => absurd (of_decide_eq_true h) (by omega), fun h => ends_isl ?_⟩
      rw [hm]
      exact all_yes (fun j hj => hp j (by omega))
    | succ n ih =>
      intro k hk hp
      have no : okB bs k = false → mayN l es bs = false := fun h => by rw [hm]; exact all_no (by omega) h
      refine go hz hX Tab.Ok.nil Try.func25 (loopMay2 l es bs k) ⟨fun h => ⟨by omega, by omega, ?_⟩, fun h => absurd (of_decide_eq_false h) (by omega)⟩
      simp only [Int.toNat_natCast]
      refine ⟨fun h1 => ends_isl (no ?_), fun h1 => ⟨fun h2 => ends_isl (no ?_), fun h2 => ⟨fun h3 => ends_isl (no ?_), fun h3 => ⟨fun h4 => ?_, fun h4 => ⟨⟨by omega, by omega⟩, ?_⟩⟩⟩⟩⟩
      · show (!(decide (((bs.getD k dB).1.size : Int) > 24) || _ || _ || _)) = false
        rw [show decide (((bs.getD k dB).1.size : Int) > 24) = true from h1]; rfl
      · show (!(_ || decide ((bs.getD k dB).2.1 < 2) || _ || _)) = false
        rw [show decide ((bs.getD k dB).2.1 < 2) = true from h2]; simp
      · show (!(_ || _ || decide ((bs.getD k dB).2.1 ≥ 1024) || _)) = false
        rw [show decide ((bs.getD k dB).2.1 ≥ 1024) = true from h3]; simp
      · have h0 : (k : Int) > 0 := of_decide_eq_true h4
        rw [show ((k : Int) - 1).toNat = k - 1 from by omega]
        refine ⟨⟨by omega, by omega⟩, by omega, by omega, fun h5 => ends_isl (no ?_), fun h5 => ⟨⟨by omega, by omega⟩, ih (k + 1) (by omega) (fun j hj => ?_)⟩⟩
        · show (!(_ || _ || _ || (decide (0 < k) && !slt (bs.getD (k - 1) dB).1 (bs.getD k dB).1))) = false
          rw [show (!slt (bs.getD (k - 1) dB).1 (bs.getD k dB).1) = true from h5, show decide (0 < k) = true from decide_eq_true (by omega)]; simp
        · by_cases hj2 : j = k
          · subst hj2
            show (!(decide (((bs.getD j dB).1.size : Int) > 24) || decide ((bs.getD j dB).2.1 < 2) || decide ((bs.getD j dB).2.1 ≥ 1024) || (decide (0 < j) && !slt (bs.getD (j - 1) dB).1 (bs.getD j dB).1))) = true
            rw [show (!slt (bs.getD (j - 1) dB).1 (bs.getD j dB).1) = false from h5, show decide ((bs.getD j dB).2.1 ≥ 1024) = false from h3, show decide ((bs.getD j dB).2.1 < 2) = false from h2, show decide (((bs.getD j dB).1.size : Int) > 24) = false from h1]
            simp
          · exact hp j (by omega)
      · have h0 : ¬ (k : Int) > 0 := of_decide_eq_false h4
        refine ih (k + 1) (by omega) (fun j hj => ?_)
        by_cases hj2 : j = k
        · subst hj2
          show (!(decide (((bs.getD j dB).1.size : Int) > 24) || decide ((bs.getD j dB).2.1 < 2) || decide ((bs.getD j dB).2.1 ≥ 1024) || (decide (0 < j) && !slt (bs.getD (j - 1) dB).1 (bs.getD j dB).1))) = true
          rw [show decide ((bs.getD j dB).2.1 ≥ 1024) = false from h3, show decide ((bs.getD j dB).2.1 < 2) = false from h2, show decide (((bs.getD j dB).1.size : Int) > 24) = false from h1, decide_eq_false (by omega)]
          rfl
        · exact hp j (by omega)
  have first : mayN l es bs = (okEs es && okBs bs) → ∀ (n k : Nat), k + n = es.length → (∀ j, j < k → okE es j = true) → Safe P 25 X (Ends [tBool] (mayN l es bs, ())) (cMay1 l es bs (k : Int)) := by
    intro hm n
    induction n with
    | zero =>
      intro k hk hp
      have he : okEs es = true := all_yes (fun j hj => hp j (by omega))
      exact go hz hX Tab.Ok.nil Try.func25 (loopMay1 l es bs k) ⟨fun h => absurd (of_decide_eq_true h) (by omega), fun h => second he (by rw [hm, he]; rfl) bs.length 0 (by omega) (fun j hj => by omega)⟩
    | succ n ih =>
      intro k hk hp
      have no : okE es k = false → mayN l es bs = false := fun h => by rw [hm, show okEs es = false from all_no (by omega) h]; rfl
      refine go hz hX Tab.Ok.nil Try.func25 (loopMay1 l es bs k) ⟨fun h => ⟨by omega, by omega, ?_⟩, fun h => absurd (of_decide_eq_false h) (by omega)⟩
      simp only [Int.toNat_natCast]
      refine ⟨fun h1 => ends_isl (no ?_), fun h1 => ⟨fun h2 => ends_isl (no ?_), fun h2 => ⟨fun h3 => ends_isl (no ?_), fun h3 => ⟨fun h4 => ?_, fun h4 => ⟨⟨by omega, by omega⟩, ?_⟩⟩⟩⟩⟩
      · show (!(decide ((es.getD k dE).1 = ByteArray.empty) || _ || _ || _)) = false
        rw [show decide ((es.getD k dE).1 = ByteArray.empty) = true from h1]; rfl
      · show (!(_ || decide (((es.getD k dE).1.size : Int) > 24) || _ || _)) = false
        rw [show decide (((es.getD k dE).1.size : Int) > 24) = true from h2]; simp
      · show (!(_ || _ || decide (((es.getD k dE).2.1.size : Int) > 100) || _)) = false
        rw [show decide (((es.getD k dE).2.1.size : Int) > 100) = true from h3]; simp
      · have h0 : (k : Int) > 0 := of_decide_eq_true h4
        rw [show ((k : Int) - 1).toNat = k - 1 from by omega]
        refine ⟨⟨by omega, by omega⟩, by omega, by omega, fun h5 => ends_isl (no ?_), fun h5 => ⟨⟨by omega, by omega⟩, ih (k + 1) (by omega) (fun j hj => ?_)⟩⟩
        · show (!(_ || _ || _ || (decide (0 < k) && !slt (es.getD (k - 1) dE).1 (es.getD k dE).1))) = false
          rw [show (!slt (es.getD (k - 1) dE).1 (es.getD k dE).1) = true from h5, show decide (0 < k) = true from decide_eq_true (by omega)]; simp
        · by_cases hj2 : j = k
          · subst hj2
            show (!(decide ((es.getD j dE).1 = ByteArray.empty) || decide (((es.getD j dE).1.size : Int) > 24) || decide (((es.getD j dE).2.1.size : Int) > 100) || (decide (0 < j) && !slt (es.getD (j - 1) dE).1 (es.getD j dE).1))) = true
            rw [show (!slt (es.getD (j - 1) dE).1 (es.getD j dE).1) = false from h5, show decide (((es.getD j dE).2.1.size : Int) > 100) = false from h3, show decide (((es.getD j dE).1.size : Int) > 24) = false from h2, show decide ((es.getD j dE).1 = ByteArray.empty) = false from h1]
            simp
          · exact hp j (by omega)
      · have h0 : ¬ (k : Int) > 0 := of_decide_eq_false h4
        refine ih (k + 1) (by omega) (fun j hj => ?_)
        by_cases hj2 : j = k
        · subst hj2
          show (!(decide ((es.getD j dE).1 = ByteArray.empty) || decide (((es.getD j dE).1.size : Int) > 24) || decide (((es.getD j dE).2.1.size : Int) > 100) || (decide (0 < j) && !slt (es.getD (j - 1) dE).1 (es.getD j dE).1))) = true
          rw [show decide (((es.getD j dE).2.1.size : Int) > 100) = false from h3, show decide (((es.getD j dE).1.size : Int) > 24) = false from h2, show decide ((es.getD j dE).1 = ByteArray.empty) = false from h1, decide_eq_false (by omega)]
          rfl
        · exact hp j (by omega)
  refine go hz hX Tab.Ok.nil Try.func25 (treeMay l es bs) ⟨fun hl => ⟨fun h1 => ends_isl ?_, fun h1 => ⟨fun h2 => ?_, fun h2 => first ?_ es.length 0 (by omega) (fun j hj => by omega)⟩⟩, fun hl => ⟨fun h1 => ⟨fun h2 => ends_isl ?_, fun h2 => first ?_ es.length 0 (by omega) (fun j hj => by omega)⟩, fun h1 => ?_⟩⟩
  · show (!((l && decide ((bs.length : Int) > 0)) || _) && _ && _) = false
    rw [hl, h1]; rfl
  · subst hl; cases h2
  · show (!((l && decide ((bs.length : Int) > 0)) || (!l && _)) && _ && _) = _
    rw [hl, h1]; rfl
  · show (!((l && _) || (!l && decide ((es.length : Int) > 0))) && _ && _) = false
    rw [hl, h2]; rfl
  · show (!((l && _) || (!l && decide ((es.length : Int) > 0))) && _ && _) = _
    rw [hl, h2]; rfl
  · subst hl; cases h1
end Lf

namespace Lf
open Go Go.Sx Go.Proofs
theorem take_snoc {α : Type} {l : List α} {k : Nat} {d : α} (h : k < l.length) : l.take k ++ [l.getD k d] = l.take (k + 1) := by
  rw [getD_lt h, List.take_succ_eq_append_getElem h]
theorem en_eta (x : En) : (x.1, x.2.1, ()) = x := rfl
theorem br_eta (x : Br) : (x.1, x.2.1, ()) = x := rfl

/-! ### large -/
def bigE (es : List En) (i : Nat) : Bool := decide (((es.getD i dE).1.size : Int) > 300) || decide (((es.getD i dE).2.1.size : Int) > 300)
def bigB (bs : List Br) (i : Nat) : Bool := decide (((bs.getD i dB).1.size : Int) > 300)
def largeN (es : List En) (bs : List Br) : Bool := (decide ((es.length : Int) > 200) || decide ((bs.length : Int) > 200)) || (List.range es.length).any (bigE es) || (List.range bs.length).any (bigB bs)

def nsLarge : List (Nat × Norm) := [(4, ⟨[], [1, 3], 0, []⟩), (9, ⟨[], [1, 4], 0, []⟩)]
noncomputable def cLarge1 (l : Bool) (es : List En) (bs : List Br) (i : Int) : Cfg := ⟨sl 55 [(1, .ptr 0 0), (3, .s (.int .i64 i))], [obN l es bs 25], hd Try.f22 4, {}⟩
noncomputable def cLarge2 (l : Bool) (es : List En) (bs : List Br) (i : Int) : Cfg := ⟨sl 55 [(1, .ptr 0 0), (4, .s (.int .i64 i))], [obN l es bs 25], hd Try.f22 9, {}⟩
theorem treeLarge (l : Bool) (es : List En) (bs : List Br) : run P tab0.sum Try.f22 nsLarge (start Try.f22 [avN l es bs] []) =
  Tree.ite (decide ((↑es.length : Int) > (200 : Int))) (Tree.ret [AObj.own [AV.s (SV.bool l), AV.s (SV.ro (Con.typ [CK.str, CK.str] es)), AV.s (SV.ro (Con.typ [CK.str, CK.int IntKind.i64] bs))] (25 : Nat)] (AV.s (SV.blit true))) (Tree.ite (decide ((↑bs.length : Int) > (200 : Int))) (Tree.ret [AObj.own [AV.s (SV.bool l), AV.s (SV.ro (Con.typ [CK.str, CK.str] es)), AV.s (SV.ro (Con.typ [CK.str, CK.int IntKind.i64] bs))] (25 : Nat)] (AV.s (SV.blit true))) (Tree.at (Cfg.mk (sl (55 : Nat) [((1 : Nat), AV.ptr (0 : Nat) (0 : Nat)), ((3 : Nat), AV.s (SV.int IntKind.i64 (0 : Int)))]) [AObj.own [AV.s (SV.bool l), AV.s (SV.ro (Con.typ [CK.str, CK.str] es)), AV.s (SV.ro (Con.typ [CK.str, CK.int IntKind.i64] bs))] (25 : Nat)] (hd Try.f22 (4 : Nat)) (Stk.mk none false (0 : Nat) [] (0 : Nat))))) := by kernel_rfl
theorem loopLarge1 (l : Bool) (es : List En) (bs : List Br) (i : Int) : run P tab0.sum Try.f22 nsLarge (cLarge1 l es bs i) =
  Tree.ite (decide (i < (↑es.length : Int))) (Tree.need ((0 : Int) ≤ i) (Tree.need (i < (↑es.length : Int)) (Tree.ite (decide ((↑(ByteArray.size (es.getD i.toNat (CL.d [CK.str, CK.str])).fst) : Int) > (300 : Int))) (Tree.ret [AObj.own [AV.s (SV.bool l), AV.s (SV.ro (Con.typ [CK.str, CK.str] es)), AV.s (SV.ro (Con.typ [CK.str, CK.int IntKind.i64] bs))] (25 : Nat)] (AV.s (SV.blit true))) (Tree.need ((0 : Int) ≤ i) (Tree.need (i < (↑es.length : Int)) (Tree.ite (decide ((↑(ByteArray.size (es.getD i.toNat (CL.d [CK.str, CK.str])).snd.fst) : Int) > (300 : Int))) (Tree.ret [AObj.own [AV.s (SV.bool l), AV.s (SV.ro (Con.typ [CK.str, CK.str] es)), AV.s (SV.ro (Con.typ [CK.str, CK.int IntKind.i64] bs))] (25 : Nat)] (AV.s (SV.blit true))) (Tree.need (inI64 (i + (1 : Int))) (Tree.at (Cfg.mk (sl (55 : Nat) [((1 : Nat), AV.ptr (0 : Nat) (0 : Nat)), ((3 : Nat), AV.s (SV.int IntKind.i64 (i + (1 : Int))))]) [AObj.own [AV.s (SV.bool l), AV.s (SV.ro (Con.typ [CK.str, CK.str] es)), AV.s (SV.ro (Con.typ [CK.str, CK.int IntKind.i64] bs))] (25 : Nat)] (hd Try.f22 (4 : Nat)) (Stk.mk none false (0 : Nat) [] (0 : Nat))))))))))) (Tree.at (Cfg.mk (sl (55 : Nat) [((1 : Nat), AV.ptr (0 : Nat) (0 : Nat)), ((4 : Nat), AV.s (SV.int IntKind.i64 (0 : Int)))]) [AObj.own [AV.s (SV.bool l), AV.s (SV.ro (Con.typ [CK.str, CK.str] es)), AV.s (SV.ro (Con.typ [CK.str, CK.int IntKind.i64] bs))] (25 : Nat)] (hd Try.f22 (9 : Nat)) (Stk.mk none false (0 : Nat) [] (0 : Nat)))) := by kernel_rfl
theorem loopLarge2 (l : Bool) (es : List En) (bs : List Br) (i : Int) : run P tab0.sum Try.f22 nsLarge (cLarge2 l es bs i) =
  Tree.ite (decide (i < (↑bs.length : Int))) (Tree.need ((0 : Int) ≤ i) (Tree.need (i < (↑bs.length : Int)) (Tree.ite (decide ((↑(ByteArray.size (bs.getD i.toNat (CL.d [CK.str, CK.int IntKind.i64])).fst) : Int) > (300 : Int))) (Tree.ret [AObj.own [AV.s (SV.bool l), AV.s (SV.ro (Con.typ [CK.str, CK.str] es)), AV.s (SV.ro (Con.typ [CK.str, CK.int IntKind.i64] bs))] (25 : Nat)] (AV.s (SV.blit true))) (Tree.need (inI64 (i + (1 : Int))) (Tree.at (Cfg.mk (sl (55 : Nat) [((1 : Nat), AV.ptr (0 : Nat) (0 : Nat)), ((4 : Nat), AV.s (SV.int IntKind.i64 (i + (1 : Int))))]) [AObj.own [AV.s (SV.bool l), AV.s (SV.ro (Con.typ [CK.str, CK.str] es)), AV.s (SV.ro (Con.typ [CK.str, CK.int IntKind.i64] bs))] (25 : Nat)] (hd Try.f22 (9 : Nat)) (Stk.mk none false (0 : Nat) [] (0 : Nat)))))))) (Tree.ret [AObj.own [AV.s (SV.bool l), AV.s (SV.ro (Con.typ [CK.str, CK.str] es)), AV.s (SV.ro (Con.typ [CK.str, CK.int IntKind.i64] bs))] (25 : Nat)] (AV.s (SV.blit false))) := by kernel_rfl

/-! ### entries, branches, given -/
def nsEntries : List (Nat × Norm) := [(3, ⟨[(3, .typ cE [], eE)], [0, 3, 4], 0, []⟩)]
noncomputable def cEntries (es acc : List En) (i : Int) : Cfg := ⟨sl 19 [(0, .s (.ro (.typ cE es))), (3, .vec 0), (4, .s (.int .i64 i))], [.vec (.typ cE acc) eE], hd Try.f87 3, {}⟩
theorem treeEntries (es : List En) : run P tab0.sum Try.f87 nsEntries (start Try.f87 [.s (.ro (.typ cE es))] []) =
  Tree.at (Cfg.mk (sl (19 : Nat) [((0 : Nat), AV.s (SV.ro (Con.typ [CK.str, CK.str] es))), ((3 : Nat), AV.vec (0 : Nat)), ((4 : Nat), AV.s (SV.int IntKind.i64 (0 : Int)))]) [AObj.vec (Con.typ [CK.str, CK.str] []) (59 : Nat)] (hd Try.f87 (3 : Nat)) (Stk.mk none false (0 : Nat) [] (0 : Nat))) := by kernel_rfl
theorem loopEntries (es acc : List En) (i : Int) : run P tab0.sum Try.f87 nsEntries (cEntries es acc i) =
  Tree.ite (decide (i < (↑es.length : Int))) (Tree.need ((0 : Int) ≤ i) (Tree.need (i < (↑es.length : Int)) (Tree.need (acc.length + (1 : Nat) ≤ (4294967296 : Nat)) (Tree.need (inI64 (i + (1 : Int))) (Tree.at (Cfg.mk (sl (19 : Nat) [((0 : Nat), AV.s (SV.ro (Con.typ [CK.str, CK.str] es))), ((3 : Nat), AV.vec (0 : Nat)), ((4 : Nat), AV.s (SV.int IntKind.i64 (i + (1 : Int))))]) [AObj.vec (Con.typ [CK.str, CK.str] (acc ++ [((es.getD i.toNat (CL.d [CK.str, CK.str])).fst, (es.getD i.toNat (CL.d [CK.str, CK.str])).snd.fst, ())])) (59 : Nat)] (hd Try.f87 (3 : Nat)) (Stk.mk none false (0 : Nat) [] (0 : Nat)))))))) (Tree.ret [AObj.vec (Con.typ [CK.str, CK.str] acc) (59 : Nat)] (AV.vec (0 : Nat))) := by kernel_rfl
def nsBranches : List (Nat × Norm) := [(3, ⟨[(3, .typ cB [], eB)], [0, 3, 4], 0, []⟩)]
noncomputable def cBranches (es acc : List Br) (i : Int) : Cfg := ⟨sl 19 [(0, .s (.ro (.typ cB es))), (3, .vec 0), (4, .s (.int .i64 i))], [.vec (.typ cB acc) eB], hd Try.f88 3, {}⟩
theorem treeBranches (es : List Br) : run P tab0.sum Try.f88 nsBranches (start Try.f88 [.s (.ro (.typ cB es))] []) =
  Tree.at (Cfg.mk (sl (19 : Nat) [((0 : Nat), AV.s (SV.ro (Con.typ [CK.str, CK.int IntKind.i64] es))), ((3 : Nat), AV.vec (0 : Nat)), ((4 : Nat), AV.s (SV.int IntKind.i64 (0 : Int)))]) [AObj.vec (Con.typ [CK.str, CK.int IntKind.i64] []) (36 : Nat)] (hd Try.f88 (3 : Nat)) (Stk.mk none false (0 : Nat) [] (0 : Nat))) := by kernel_rfl
theorem loopBranches (es acc : List Br) (i : Int) : run P tab0.sum Try.f88 nsBranches (cBranches es acc i) =
  Tree.ite (decide (i < (↑es.length : Int))) (Tree.need ((0 : Int) ≤ i) (Tree.need (i < (↑es.length : Int)) (Tree.need (acc.length + (1 : Nat) ≤ (4294967296 : Nat)) (Tree.need (inI64 (i + (1 : Int))) (Tree.at (Cfg.mk (sl (19 : Nat) [((0 : Nat), AV.s (SV.ro (Con.typ [CK.str, CK.int IntKind.i64] es))), ((3 : Nat), AV.vec (0 : Nat)), ((4 : Nat), AV.s (SV.int IntKind.i64 (i + (1 : Int))))]) [AObj.vec (Con.typ [CK.str, CK.int IntKind.i64] (acc ++ [((es.getD i.toNat (CL.d [CK.str, CK.int IntKind.i64])).fst, (es.getD i.toNat (CL.d [CK.str, CK.int IntKind.i64])).snd.fst, ())])) (36 : Nat)] (hd Try.f88 (3 : Nat)) (Stk.mk none false (0 : Nat) [] (0 : Nat)))))))) (Tree.ret [AObj.vec (Con.typ [CK.str, CK.int IntKind.i64] acc) (36 : Nat)] (AV.vec (0 : Nat))) := by kernel_rfl
abbrev sEntries := sumOf [tREs] [tEs] (fun (l, ()) => [(l : List En).length ≤ 100000]) (fun (l, ()) => (l, ()))
abbrev sBranches := sumOf [tRBs] [tBs] (fun (l, ()) => [(l : List Br).length ≤ 100000]) (fun (l, ()) => (l, ()))
def tabGiven : Tab := [(87, sEntries), (88, sBranches)]
theorem treeGiven (l : Bool) (es : List En) (bs : List Br) : run P tabGiven.sum Try.f24 [] (start Try.f24 [avN l es bs] []) =
  Tree.need (es.length ≤ (100000 : Nat)) (Tree.need (bs.length ≤ (100000 : Nat)) (Tree.ret [AObj.own [AV.s (SV.bool l), AV.s (SV.ro (Con.typ [CK.str, CK.str] es)), AV.s (SV.ro (Con.typ [CK.str, CK.int IntKind.i64] bs))] (25 : Nat), AObj.own [AV.s (SV.bool l), AV.vec (2 : Nat), AV.vec (3 : Nat)] (31 : Nat), AObj.vec (Con.typ [CK.str, CK.str] es) (59 : Nat), AObj.vec (Con.typ [CK.str, CK.int IntKind.i64] bs) (36 : Nat)] (AV.agg [AV.s (SV.bool l), AV.vec (2 : Nat), AV.vec (3 : Nat)]))) := by kernel_rfl

/-! ### strings.Compare -/
abbrev sCmp0 := sumOf [tStr, tStr] [tInt] (fun _ => []) (fun (a, b, ()) => (cmpS a b, ()))
def tabCmp : Tab := [(122, sCmp0)]
theorem treeCmp (a b : ByteArray) : run P tabCmp.sum Try.f91 [] (start Try.f91 [.s (.str a), .s (.str b)] []) =
  Tree.ret [] (AV.s (SV.int IntKind.i64 (cmpS a b))) := by kernel_rfl
def tabCmp1 : Tab := [(91, sCmp0)]
theorem treePlace1 (x : Br) (b : ByteArray) : run P tabCmp1.sum Try.f90 [] (start Try.f90 [.agg [.s (.str x.1), .s (.int .i64 x.2.1)], .s (.str b)] []) =
  Tree.ret [AObj.own [AV.s (SV.str x.fst), AV.s (SV.int IntKind.i64 x.snd.fst)] (36 : Nat)] (AV.s (SV.int IntKind.i64 (cmpS x.fst b))) := by kernel_rfl
theorem treeSearch1 (x : En) (b : ByteArray) : run P tabCmp1.sum Try.f126 [] (start Try.f126 [.agg [.s (.str x.1), .s (.str x.2.1)], .s (.str b)] []) =
  Tree.ret [AObj.own [AV.s (SV.str x.fst), AV.s (SV.str x.snd.fst)] (59 : Nat)] (AV.s (SV.int IntKind.i64 (cmpS x.fst b))) := by kernel_rfl
theorem large_ok {Z : Glob} : FnOk P Z 22 [tRN] [tBool] (fun _ => []) (fun ((_, es, bs, ()), ()) => (largeN es bs, ())) := by
  refine fnOk_of_safe Try.func22 (by kernel_rfl) (by kernel_rfl) ?_
  rintro ⟨⟨(l : Bool), (es : List En), (bs : List Br), ⟨⟩⟩, ⟨⟩⟩ ⟨⟨_, hle, hlb, _⟩, _⟩ _ X hX hz
  have hle : es.length ≤ 9223372036854775807 := hle
  have hlb : bs.length ≤ 9223372036854775807 := hlb
  have second : largeN es bs = (List.range bs.length).any (bigB bs) → ∀ (n k : Nat), k + n = bs.length → (∀ j, j < k → bigB bs j = false) → Safe P 22 X (Ends [tBool] (largeN es bs, ())) (cLarge2 l es bs (k : Int)) := by
    intro hm n
    induction n with
    | zero =>
      intro k hk hp
      refine go hz hX Tab.Ok.nil Try.func22 (loopLarge2 l es bs k) ⟨fun h => absurd (of_decide_eq_true h) (by omega), fun h => ends_isl ?_⟩
      rw [hm]
      exact any_no (fun j hj => hp j (by omega))
    | succ n ih =>
      intro k hk hp
      refine go hz hX Tab.Ok.nil Try.func22 (loopLarge2 l es bs k) ⟨fun h => ⟨by omega, by omega, ?_⟩, fun h => absurd (of_decide_eq_false h) (by omega)⟩
      simp only [Int.toNat_natCast]
      refine ⟨fun h1 => ends_isl (by rw [hm]; exact any_yes (i := k) (by omega) h1), fun h1 => ⟨⟨by omega, by omega⟩, ih (k + 1) (by omega) (fun j hj => ?_)⟩⟩
      by_cases hj2 : j = k
      · subst hj2; exact h1
      · exact hp j (by omega)
  have first : largeN es bs = ((List.range es.length).any (bigE es) || (List.range bs.length).any (bigB bs)) → ∀ (n k : Nat), k + n = es.length → (∀ j, j < k → bigE es j = false) → Safe P 22 X (Ends [tBool] (largeN es bs, ())) (cLarge1 l es bs (k : Int)) := by
    intro hm n
    induction n with
    | zero =>
      intro k hk hp
      have he : (List.range es.length).any (bigE es) = false := any_no (fun j hj => hp j (by omega))
      exact go hz hX Tab.Ok.nil Try.func22 (loopLarge1 l es bs k) ⟨fun h => absurd (of_decide_eq_true h) (by omega), fun h => second (by rw [hm, he]; rfl) bs.length 0 (by omega) (fun j hj => by omega)⟩
    | succ n ih =>
      intro k hk hp
      have yes : bigE es k = true → largeN es bs = true := fun h => by rw [hm, any_yes (i := k) (by omega) h]; rfl
      refine go hz hX Tab.Ok.nil Try.func22 (loopLarge1 l es bs k) ⟨fun h => ⟨by omega, by omega, ?_⟩, fun h => absurd (of_decide_eq_false h) (by omega)⟩
      simp only [Int.toNat_natCast]
      refine ⟨fun h1 => ends_isl (yes ?_), fun h1 => ⟨by omega, by omega, fun h2 => ends_isl (yes ?_), fun h2 => ⟨⟨by omega, by omega⟩, ih (k + 1) (by omega) (fun j hj => ?_)⟩⟩⟩
      · show (decide (((es.getD k dE).1.size : Int) > 300) || _) = true
        rw [show decide (((es.getD k dE).1.size : Int) > 300) = true from h1]; rfl
      · show (_ || decide (((es.getD k dE).2.1.size : Int) > 300)) = true
        rw [show decide (((es.getD k dE).2.1.size : Int) > 300) = true from h2]; simp
      · by_cases hj2 : j = k
        · subst hj2
          show (decide (((es.getD j dE).1.size : Int) > 300) || decide (((es.getD j dE).2.1.size : Int) > 300)) = false
          rw [show decide (((es.getD j dE).1.size : Int) > 300) = false from h1, show decide (((es.getD j dE).2.1.size : Int) > 300) = false from h2]; rfl
        · exact hp j (by omega)
  refine go hz hX Tab.Ok.nil Try.func22 (treeLarge l es bs) ⟨fun h1 => ends_isl ?_, fun h1 => ⟨fun h2 => ends_isl ?_, fun h2 => first ?_ es.length 0 (by omega) (fun j hj => by omega)⟩⟩
  · show ((decide ((es.length : Int) > 200) || _) || _ || _) = true
    rw [h1]; rfl
  · show ((_ || decide ((bs.length : Int) > 200)) || _ || _) = true
    rw [h2]; simp
  · show ((decide ((es.length : Int) > 200) || decide ((bs.length : Int) > 200)) || _ || _) = _
    rw [h1, h2]; rfl

theorem entries_ok {Z : Glob} : FnOk P Z 87 [tREs] [tEs] (fun (l, ()) => [(l : List En).length ≤ 100000]) (fun (l, ()) => (l, ())) := by
  refine fnOk_of_safe Try.func87 (by kernel_rfl) (by kernel_rfl) ?_
  rintro ⟨(es : List En), ⟨⟩⟩ _ ⟨(hle : es.length ≤ 100000), _⟩ X hX hz
  have first : ∀ (n k : Nat), k + n = es.length → Safe P 87 X (Ends [tEs] (es, ())) (cEntries es (es.take k) (k : Int)) := by
    intro n
    induction n with
    | zero =>
      intro k hk
      refine go hz hX Tab.Ok.nil Try.func87 (loopEntries es _ k) ⟨fun h => absurd (of_decide_eq_true h) (by omega), fun h => ?_⟩
      rw [List.take_of_length_le (by omega)]
      exact ends_eq (es, ()) rfl (by kernel_rfl)
    | succ n ih =>
      intro k hk
      refine go hz hX Tab.Ok.nil Try.func87 (loopEntries es _ k) ⟨fun h => ⟨by omega, by omega, ?_, ⟨by omega, by omega⟩, ?_⟩, fun h => absurd (of_decide_eq_false h) (by omega)⟩
      · show (es.take k).length + 1 ≤ 4294967296
        rw [List.length_take]; omega
      · simp only [Int.toNat_natCast]
        have := ih (k + 1) (by omega)
        rw [← take_snoc (d := dE) (by omega)] at this
        exact this
  exact go hz hX Tab.Ok.nil Try.func87 (treeEntries es) (first es.length 0 (by omega))

theorem branches_ok {Z : Glob} : FnOk P Z 88 [tRBs] [tBs] (fun (l, ()) => [(l : List Br).length ≤ 100000]) (fun (l, ()) => (l, ())) := by
  refine fnOk_of_safe Try.func88 (by kernel_rfl) (by kernel_rfl) ?_
  rintro ⟨(es : List Br), ⟨⟩⟩ _ ⟨(hle : es.length ≤ 100000), _⟩ X hX hz
  have first : ∀ (n k : Nat), k + n = es.length → Safe P 88 X (Ends [tBs] (es, ())) (cBranches es (es.take k) (k : Int)) := by
    intro n
    induction n with
    | zero =>
      intro k hk
      refine go hz hX Tab.Ok.nil Try.func88 (loopBranches es _ k) ⟨fun h => absurd (of_decide_eq_true h) (by omega), fun h => ?_⟩
      rw [List.take_of_length_le (by omega)]
      exact ends_eq (es, ()) rfl (by kernel_rfl)
    | succ n ih =>
      intro k hk
      refine go hz hX Tab.Ok.nil Try.func88 (loopBranches es _ k) ⟨fun h => ⟨by omega, by omega, ?_, ⟨by omega, by omega⟩, ?_⟩, fun h => absurd (of_decide_eq_false h) (by omega)⟩
      · show (es.take k).length + 1 ≤ 4294967296
        rw [List.length_take]; omega
      · simp only [Int.toNat_natCast]
        have := ih (k + 1) (by omega)
        rw [← take_snoc (d := dB) (by omega)] at this
        exact this
  exact go hz hX Tab.Ok.nil Try.func88 (treeBranches es) (first es.length 0 (by omega))

theorem tabGiven_ok {Z : Glob} : tabGiven.Ok P Z := Tab.Ok.cons entries_ok.sum (Tab.Ok.cons branches_ok.sum Tab.Ok.nil)
theorem given_ok {Z : Glob} : FnOk P Z 24 [tRN] [tNode] (fun ((_, es, bs, ()), ()) => [(es : List En).length ≤ 100000, (bs : List Br).length ≤ 100000]) (fun (n, ()) => (n, ())) := by
  refine fnOk_of_safe Try.func24 (by kernel_rfl) (by kernel_rfl) ?_
  rintro ⟨⟨(l : Bool), (es : List En), (bs : List Br), ⟨⟩⟩, ⟨⟩⟩ _ ⟨(hle : es.length ≤ 100000), (hlb : bs.length ≤ 100000), _⟩ X hX hz
  exact go hz hX tabGiven_ok Try.func24 (treeGiven l es bs) ⟨hle, hlb, ends_eq ((l, es, bs, ()), ()) rfl (by kernel_rfl)⟩

set_option maxHeartbeats 1000000 in
set_option maxRecDepth 100000 in
theorem cmpstr_calls (a b : ByteArray) (w : World) : Calls P 122 #[.string a, .string b] w fun e w' => e = .returned (.int .i64 (cmpS a b)) ∧ w' = w := by
  have mixed := mixed
  have t3 := Try.underlying3
  have t9 := Try.underlying9
  have u3 := run_underlying t3; have u9 := run_underlying t9
  go_enter Try.func122, Try.ntmps122
  go_wp2
  rw [run_callFunc_extern Try.func133 (by kernel_rfl) (by kernel_rfl) (by kernel_rfl) (e := Extern.BytealgCompare.compare) (by kernel_rfl), Lib.run_compareString]
  simp only [Result.andThen]
  rw [Oper.upon_value]
  go_wp2
  go_ret
  exact ⟨rfl, rfl⟩
theorem cmp0_ok {Z : Glob} : FnOk P Z 122 [tStr, tStr] [tInt] (fun _ => []) (fun (a, b, ()) => (cmpS a b, ())) := by
  rintro ⟨(a : ByteArray), (b : ByteArray), ⟨⟩⟩ _ _ G w vs hG hz hd
  obtain ⟨v, rest, rfl, h1, h2⟩ := DenL_cons.1 hd
  obtain ⟨u, rest, rfl, h3, h4⟩ := DenL_cons.1 h2
  obtain rfl := DenL_nil.1 h4
  obtain rfl := str_den h1
  obtain rfl := str_den h3
  refine (cmpstr_calls a b w).mono ?_
  rintro e w' ⟨rfl, rfl⟩
  refine ⟨_, rfl, Good.val ⟨fun id o ho => by simp at ho, fun i j oi oj b hi => by simp at hi, fun b hb => ?_, hG⟩ ?_⟩
  · obtain ⟨id, o, ho, _⟩ := hb; cases ho
  · exact DenV_s (.int .i64 _)
theorem cmp_ok {Z : Glob} : FnOk P Z 91 [tStr, tStr] [tInt] (fun _ => []) (fun (a, b, ()) => (cmpS a b, ())) := by
  refine fnOk_of_safe Try.func91 (by kernel_rfl) (by kernel_rfl) ?_
  rintro ⟨(a : ByteArray), (b : ByteArray), ⟨⟩⟩ _ _ X hX hz
  exact go hz hX (Tab.Ok.cons cmp0_ok.sum Tab.Ok.nil) Try.func91 (treeCmp a b) ends_i
abbrev tBr : Ty := .st [.str, .int .i64]
abbrev tEn : Ty := .st [.str, .str]
theorem place1_ok {Z : Glob} : FnOk P Z 90 [tBr, tStr] [tInt] (fun _ => []) (fun ((a, _, ()), b, ()) => (cmpS a b, ())) := by
  refine fnOk_of_safe Try.func90 (by kernel_rfl) (by kernel_rfl) ?_
  rintro ⟨⟨(a : ByteArray), (n : Int), ⟨⟩⟩, (b : ByteArray), ⟨⟩⟩ _ _ X hX hz
  exact go hz hX (Tab.Ok.cons cmp_ok.sum Tab.Ok.nil) Try.func90 (treePlace1 (a, n, ()) b) ends_i
theorem search1_ok {Z : Glob} : FnOk P Z 126 [tEn, tStr] [tInt] (fun _ => []) (fun ((a, _, ()), b, ()) => (cmpS a b, ())) := by
  refine fnOk_of_safe Try.func126 (by kernel_rfl) (by kernel_rfl) ?_
  rintro ⟨⟨(a : ByteArray), (n : ByteArray), ⟨⟩⟩, (b : ByteArray), ⟨⟩⟩ _ _ X hX hz
  exact go hz hX (Tab.Ok.cons cmp_ok.sum Tab.Ok.nil) Try.func126 (treeSearch1 (a, n, ()) b) ends_i
end Lf

namespace Lf
open Go Go.Sx Go.Proofs
abbrev sPl1 := sumOf [tBr, tStr] [tInt] (fun _ => []) (fun ((a, _, ()), b, ()) => (cmpS a b, ()))
abbrev sSe1 := sumOf [tEn, tStr] [tInt] (fun _ => []) (fun ((a, _, ()), b, ()) => (cmpS a b, ()))
def tabBS : Tab := [(90, sPl1), (126, sSe1)]
def nsBS : List (Nat × Norm) := [(3, ⟨[], [0, 1, 2, 8, 9, 10], 0, []⟩)]
noncomputable def cBSB (bs : List Br) (key : ByteArray) (i j : Int) : Cfg := ⟨sl 49 [(0, .s (.ro (.typ cB bs))), (1, .s (.str key)), (2, .s (.fn0 90)), (8, .s (.int .i64 (bs.length : Int))), (9, .s (.int .i64 i)), (10, .s (.int .i64 j))], [], hd Try.f89 3, {}⟩
theorem treeBSB (bs : List Br) (key : ByteArray) : run P tabBS.sum Try.f89 nsBS (start Try.f89 [.s (.ro (.typ cB bs)), .s (.str key), .s (.fn0 90)] []) =
  Tree.at (Cfg.mk (sl (49 : Nat) [((0 : Nat), AV.s (SV.ro (Con.typ [CK.str, CK.int IntKind.i64] bs))), ((1 : Nat), AV.s (SV.str key)), ((2 : Nat), AV.s (SV.fn0 (90 : Nat))), ((8 : Nat), AV.s (SV.int IntKind.i64 (↑bs.length : Int))), ((9 : Nat), AV.s (SV.int IntKind.i64 (0 : Int))), ((10 : Nat), AV.s (SV.int IntKind.i64 (↑bs.length : Int)))]) [] (hd Try.f89 (3 : Nat)) (Stk.mk none false (0 : Nat) [] (0 : Nat))) := by kernel_rfl
theorem loopBSB (bs : List Br) (key : ByteArray) (i j : Int) : run P tabBS.sum Try.f89 nsBS (cBSB bs key i j) =
  Tree.ite (decide (i < j)) (Tree.need (inI64 (i + j)) (Tree.need ((0 : Int) ≤ (1 : Int)) (Tree.need (inI64 ((IntKind.u64.wrap (i + j)).fdiv ((2 : Int) ^ min (Int.toNat (1 : Int)) IntKind.u64.bits))) (Tree.need ((0 : Int) ≤ (IntKind.u64.wrap (i + j)).fdiv ((2 : Int) ^ min (Int.toNat (1 : Int)) IntKind.u64.bits)) (Tree.need ((IntKind.u64.wrap (i + j)).fdiv ((2 : Int) ^ min (Int.toNat (1 : Int)) IntKind.u64.bits) < (↑bs.length : Int)) (Tree.ite (decide (cmpS (bs.getD ((IntKind.u64.wrap (i + j)).fdiv ((2 : Int) ^ min (Int.toNat (1 : Int)) IntKind.u64.bits)).toNat (CL.d [CK.str, CK.int IntKind.i64])).fst key < (0 : Int))) (Tree.need (inI64 ((IntKind.u64.wrap (i + j)).fdiv ((2 : Int) ^ min (Int.toNat (1 : Int)) IntKind.u64.bits) + (1 : Int))) (Tree.at (Cfg.mk (sl (49 : Nat) [((0 : Nat), AV.s (SV.ro (Con.typ [CK.str, CK.int IntKind.i64] bs))), ((1 : Nat), AV.s (SV.str key)), ((2 : Nat), AV.s (SV.fn0 (90 : Nat))), ((8 : Nat), AV.s (SV.int IntKind.i64 (↑bs.length : Int))), ((9 : Nat), AV.s (SV.int IntKind.i64 ((IntKind.u64.wrap (i + j)).fdiv ((2 : Int) ^ min (Int.toNat (1 : Int)) IntKind.u64.bits) + (1 : Int)))), ((10 : Nat), AV.s (SV.int IntKind.i64 j))]) [] (hd Try.f89 (3 : Nat)) (Stk.mk none false (0 : Nat) [] (0 : Nat))))) (Tree.at (Cfg.mk (sl (49 : Nat) [((0 : Nat), AV.s (SV.ro (Con.typ [CK.str, CK.int IntKind.i64] bs))), ((1 : Nat), AV.s (SV.str key)), ((2 : Nat), AV.s (SV.fn0 (90 : Nat))), ((8 : Nat), AV.s (SV.int IntKind.i64 (↑bs.length : Int))), ((9 : Nat), AV.s (SV.int IntKind.i64 i)), ((10 : Nat), AV.s (SV.int IntKind.i64 ((IntKind.u64.wrap (i + j)).fdiv ((2 : Int) ^ min (Int.toNat (1 : Int)) IntKind.u64.bits))))]) [] (hd Try.f89 (3 : Nat)) (Stk.mk none false (0 : Nat) [] (0 : Nat)))))))))) (Tree.ite (decide (i < (↑bs.length : Int))) (Tree.need ((0 : Int) ≤ i) (Tree.need (i < (↑bs.length : Int)) (Tree.ret [] (AV.tup [AV.s (SV.int IntKind.i64 i), AV.s (SV.bool (cmpS (bs.getD i.toNat (CL.d [CK.str, CK.int IntKind.i64])).fst key == (0 : Int)))])))) (Tree.ret [] (AV.tup [AV.s (SV.int IntKind.i64 i), AV.s (SV.blit false)]))) := by kernel_rfl
noncomputable def cBSE (bs : List En) (key : ByteArray) (i j : Int) : Cfg := ⟨sl 49 [(0, .s (.ro (.typ cE bs))), (1, .s (.str key)), (2, .s (.fn0 126)), (8, .s (.int .i64 (bs.length : Int))), (9, .s (.int .i64 i)), (10, .s (.int .i64 j))], [], hd Try.f125 3, {}⟩
theorem treeBSE (bs : List En) (key : ByteArray) : run P tabBS.sum Try.f125 nsBS (start Try.f125 [.s (.ro (.typ cE bs)), .s (.str key), .s (.fn0 126)] []) =
  Tree.at (Cfg.mk (sl (49 : Nat) [((0 : Nat), AV.s (SV.ro (Con.typ [CK.str, CK.str] bs))), ((1 : Nat), AV.s (SV.str key)), ((2 : Nat), AV.s (SV.fn0 (126 : Nat))), ((8 : Nat), AV.s (SV.int IntKind.i64 (↑bs.length : Int))), ((9 : Nat), AV.s (SV.int IntKind.i64 (0 : Int))), ((10 : Nat), AV.s (SV.int IntKind.i64 (↑bs.length : Int)))]) [] (hd Try.f125 (3 : Nat)) (Stk.mk none false (0 : Nat) [] (0 : Nat))) := by kernel_rfl
theorem loopBSE (bs : List En) (key : ByteArray) (i j : Int) : run P tabBS.sum Try.f125 nsBS (cBSE bs key i j) =
  Tree.ite (decide (i < j)) (Tree.need (inI64 (i + j)) (Tree.need ((0 : Int) ≤ (1 : Int)) (Tree.need (inI64 ((IntKind.u64.wrap (i + j)).fdiv ((2 : Int) ^ min (Int.toNat (1 : Int)) IntKind.u64.bits))) (Tree.need ((0 : Int) ≤ (IntKind.u64.wrap (i + j)).fdiv ((2 : Int) ^ min (Int.toNat (1 : Int)) IntKind.u64.bits)) (Tree.need ((IntKind.u64.wrap (i + j)).fdiv ((2 : Int) ^ min (Int.toNat (1 : Int)) IntKind.u64.bits) < (↑bs.length : Int)) (Tree.ite (decide (cmpS (bs.getD ((IntKind.u64.wrap (i + j)).fdiv ((2 : Int) ^ min (Int.toNat (1 : Int)) IntKind.u64.bits)).toNat (CL.d [CK.str, CK.str])).fst key < (0 : Int))) (Tree.need (inI64 ((IntKind.u64.wrap (i + j)).fdiv ((2 : Int) ^ min (Int.toNat (1 : Int)) IntKind.u64.bits) + (1 : Int))) (Tree.at (Cfg.mk (sl (49 : Nat) [((0 : Nat), AV.s (SV.ro (Con.typ [CK.str, CK.str] bs))), ((1 : Nat), AV.s (SV.str key)), ((2 : Nat), AV.s (SV.fn0 (126 : Nat))), ((8 : Nat), AV.s (SV.int IntKind.i64 (↑bs.length : Int))), ((9 : Nat), AV.s (SV.int IntKind.i64 ((IntKind.u64.wrap (i + j)).fdiv ((2 : Int) ^ min (Int.toNat (1 : Int)) IntKind.u64.bits) + (1 : Int)))), ((10 : Nat), AV.s (SV.int IntKind.i64 j))]) [] (hd Try.f125 (3 : Nat)) (Stk.mk none false (0 : Nat) [] (0 : Nat))))) (Tree.at (Cfg.mk (sl (49 : Nat) [((0 : Nat), AV.s (SV.ro (Con.typ [CK.str, CK.str] bs))), ((1 : Nat), AV.s (SV.str key)), ((2 : Nat), AV.s (SV.fn0 (126 : Nat))), ((8 : Nat), AV.s (SV.int IntKind.i64 (↑bs.length : Int))), ((9 : Nat), AV.s (SV.int IntKind.i64 i)), ((10 : Nat), AV.s (SV.int IntKind.i64 ((IntKind.u64.wrap (i + j)).fdiv ((2 : Int) ^ min (Int.toNat (1 : Int)) IntKind.u64.bits))))]) [] (hd Try.f125 (3 : Nat)) (Stk.mk none false (0 : Nat) [] (0 : Nat)))))))))) (Tree.ite (decide (i < (↑bs.length : Int))) (Tree.need ((0 : Int) ≤ i) (Tree.need (i < (↑bs.length : Int)) (Tree.ret [] (AV.tup [AV.s (SV.int IntKind.i64 i), AV.s (SV.bool (cmpS (bs.getD i.toNat (CL.d [CK.str, CK.str])).fst key == (0 : Int)))])))) (Tree.ret [] (AV.tup [AV.s (SV.int IntKind.i64 i), AV.s (SV.blit false)]))) := by kernel_rfl
abbrev keyB (x : Br) : ByteArray := x.1
abbrev keyE (x : En) : ByteArray := x.1
abbrev ksB (l : List Br) : List ByteArray := l.map keyB
abbrev ksE (l : List En) : List ByteArray := l.map keyE
def lbP (ks : List ByteArray) (key : ByteArray) : Nat := (ks.takeWhile (fun k => slt k key)).length
def atK (ks : List ByteArray) (key : ByteArray) : Bool := decide (ks[lbP ks key]? = some key)
def srt (ks : List ByteArray) : Prop := ∀ i j, i < j → j < ks.length → slt (ks.getD i ByteArray.empty) (ks.getD j ByteArray.empty) = true

theorem map_getD {α : Type} (l : List α) (f : α → ByteArray) (d : α) (t : Nat) (hd : f d = ByteArray.empty := by rfl) : (l.map f).getD t ByteArray.empty = f (l.getD t d) := by
  simp only [List.getD, List.getElem?_map]
  cases l[t]? with
  | none => exact hd.symm
  | some x => rfl

theorem lbP_eq : ∀ {ks : List ByteArray} {key : ByteArray} {i : Nat}, i ≤ ks.length → (∀ t, t < i → slt (ks.getD t ByteArray.empty) key = true) → (i < ks.length → slt (ks.getD i ByteArray.empty) key = false) → lbP ks key = i
  | [], key, i, h, _, _ => by
    simp only [List.length_nil, Nat.le_zero] at h
    subst h; rfl
  | k :: ks, key, 0, h, _, h2 => by
    have := h2 (by simp)
    simp only [List.getD_cons_zero] at this
    simp [lbP, List.takeWhile, this]
  | k :: ks, key, i + 1, h, h1, h2 => by
    have h0 := h1 0 (by omega)
    simp only [List.getD_cons_zero] at h0
    have := lbP_eq (ks := ks) (key := key) (i := i) (by simpa using h) (fun t ht => by simpa using h1 (t + 1) (by omega)) (fun hi => by simpa using h2 (by simpa using hi))
    simp only [lbP] at this ⊢
    simp [List.takeWhile, h0, this]

theorem beq_decide (n : Int) : (n == 0) = decide (n = 0) := by
  by_cases h : n = 0 <;> simp [h]

theorem mid_eq {s : Int} (h0 : 0 ≤ s) (h1 : s < 9223372036854775808) : (IntKind.u64.wrap s).fdiv (2 ^ min (Int.toNat 1) IntKind.u64.bits) = s / 2 := by
  have e1 : IntKind.u64.wrap s = s := by
    show s % 18446744073709551616 = s
    omega
  rw [e1]
  show s.fdiv 2 = s / 2
  rw [Int.fdiv_eq_ediv_of_nonneg _ (by omega)]

theorem tabBS_ok {Z : Glob} : tabBS.Ok P Z := Tab.Ok.cons place1_ok.sum (Tab.Ok.cons search1_ok.sum Tab.Ok.nil)

theorem bsB_ok {Z : Glob} : FnOk P Z 89 [tBs, tStr, .b .fn] [tInt, tBool] (fun (l, _, f, ()) => [(f : Nat) = 90, (l : List Br).length ≤ 1000000, srt (ksB l)]) (fun (l, key, _, ()) => ((lbP (ksB l) key : Nat), atK (ksB l) key, ())) := by
  refine fnOk_of_safe Try.func89 (by kernel_rfl) (by kernel_rfl) ?_
  rintro ⟨(l : List Br), (key : ByteArray), (f : Nat), ⟨⟩⟩ _ ⟨(hf : f = 90), (hl : l.length ≤ 1000000), (hs : srt (ksB l)), _⟩ X hX hz
  subst hf
  have hk : ∀ t, (ksB l).getD t ByteArray.empty = (l.getD t dB).1 := fun t => map_getD l keyB dB t
  have hn : (ksB l).length = l.length := List.length_map _
  have loop : ∀ (n i j : Nat), j - i ≤ n → i ≤ j → j ≤ l.length → (∀ t, t < i → slt (l.getD t dB).1 key = true) → (∀ t, j ≤ t → t < l.length → slt (l.getD t dB).1 key = false) →
      Safe P 89 X (Ends [tInt, tBool] ((lbP (ksB l) key : Nat), atK (ksB l) key, ())) (cBSB l key (i : Int) (j : Int)) := by
    intro n
    induction n with
    | zero =>
      intro i j h1 h2 h3 h4 h5
      have hlb : lbP (ksB l) key = i := lbP_eq (by rw [hn]; omega) (fun t ht => by rw [hk]; exact h4 t ht) (fun h => by rw [hn] at h; rw [hk]; exact h5 i (by omega) h)
      refine go hz hX tabBS_ok Try.func89 (loopBSB l key i j) ⟨fun h => absurd (of_decide_eq_true h) (by omega), fun h => ⟨fun h6 => ⟨by omega, of_decide_eq_true h6, ?_⟩, fun h6 => ?_⟩⟩
      · have h7 : i < l.length := by have := of_decide_eq_true h6; omega
        simp only [Int.toNat_natCast]
        rw [atK, hlb]
        refine ends_eq ((i : Int), cmpS (l.getD i dB).1 key == 0, ()) ?_ (by kernel_rfl)
        congr 2
        rw [List.getElem?_map, List.getElem?_eq_getElem h7, getD_lt h7]
        simp only [Option.map_some, Option.some.injEq]
        rw [beq_decide, decide_eq_decide.2 (cmpS_eq _ _)]
      · have h7 : ¬ i < l.length := by have := of_decide_eq_false h6; omega
        rw [atK, hlb]
        refine ends_eq ((i : Int), false, ()) ?_ (by kernel_rfl)
        congr 2
        rw [List.getElem?_map, List.getElem?_eq_none (Nat.le_of_not_lt h7)]
        rfl
    | succ n ih =>
      intro i j h1 h2 h3 h4 h5
      by_cases hij : i < j
      · have e := mid_eq (s := (i : Int) + (j : Int)) (by omega) (by omega)
        have e2 : ((i : Int) + (j : Int)) / 2 = ((i + j) / 2 : Nat) := by omega
        refine go hz hX tabBS_ok Try.func89 (loopBSB l key i j) ?_
        rw [e, e2]
        simp only [Int.toNat_natCast]
        refine ⟨fun h => ⟨⟨by omega, by omega⟩, by decide, ⟨by omega, by omega⟩, by omega, by omega, fun h6 => ⟨⟨by omega, by omega⟩, ?_⟩, fun h6 => ?_⟩, fun h => absurd (of_decide_eq_false h) (by omega)⟩
        · have h7 : slt (l.getD ((i + j) / 2) dB).1 key = true := (cmpS_lt _ _).1 (of_decide_eq_true h6)
          refine ih ((i + j) / 2 + 1) j (by omega) (by omega) h3 (fun t ht => ?_) h5
          by_cases hte : t = (i + j) / 2
          · rw [hte]; exact h7
          · have := hs t ((i + j) / 2) (by omega) (by omega)
            rw [hk, hk] at this
            exact slt_trans this h7
        · have h7 : slt (l.getD ((i + j) / 2) dB).1 key = false := by
            cases h8 : slt (l.getD ((i + j) / 2) dB).1 key
            · rfl
            · exact absurd ((cmpS_lt _ _).2 h8) (of_decide_eq_false h6)
          refine ih i ((i + j) / 2) (by omega) (by omega) (by omega) h4 (fun t ht htl => ?_)
          by_cases hte : t = (i + j) / 2
          · rw [hte]; exact h7
          · have := hs ((i + j) / 2) t (by omega) (by omega)
            rw [hk, hk] at this
            cases h8 : slt (l.getD t dB).1 key
            · rfl
            · rw [slt_trans this h8] at h7; cases h7
      · exact ih i j (by omega) h2 h3 h4 h5
  exact go hz hX tabBS_ok Try.func89 (treeBSB l key) (loop l.length 0 l.length (by omega) (by omega) (by omega) (fun t ht => by omega) (fun t ht htl => by omega))

theorem bsE_ok {Z : Glob} : FnOk P Z 125 [tEs, tStr, .b .fn] [tInt, tBool] (fun (l, _, f, ()) => [(f : Nat) = 126, (l : List En).length ≤ 1000000, srt (ksE l)]) (fun (l, key, _, ()) => ((lbP (ksE l) key : Nat), atK (ksE l) key, ())) := by
  refine fnOk_of_safe Try.func125 (by kernel_rfl) (by kernel_rfl) ?_
  rintro ⟨(l : List En), (key : ByteArray), (f : Nat), ⟨⟩⟩ _ ⟨(hf : f = 126), (hl : l.length ≤ 1000000), (hs : srt (ksE l)), _⟩ X hX hz
  subst hf
  have hk : ∀ t, (ksE l).getD t ByteArray.empty = (l.getD t dE).1 := fun t => map_getD l keyE dE t
  have hn : (ksE l).length = l.length := List.length_map _
  have loop : ∀ (n i j : Nat), j - i ≤ n → i ≤ j → j ≤ l.length → (∀ t, t < i → slt (l.getD t dE).1 key = true) → (∀ t, j ≤ t → t < l.length → slt (l.getD t dE).1 key = false) →
      Safe P 125 X (Ends [tInt, tBool] ((lbP (ksE l) key : Nat), atK (ksE l) key, ())) (cBSE l key (i : Int) (j : Int)) := by
    intro n
    induction n with
    | zero =>
      intro i j h1 h2 h3 h4 h5
      have hlb : lbP (ksE l) key = i := lbP_eq (by rw [hn]; omega) (fun t ht => by rw [hk]; exact h4 t ht) (fun h => by rw [hn] at h; rw [hk]; exact h5 i (by omega) h)
      refine go hz hX tabBS_ok Try.func125 (loopBSE l key i j) ⟨fun h => absurd (of_decide_eq_true h) (by omega), fun h => ⟨fun h6 => ⟨by omega, of_decide_eq_true h6, ?_⟩, fun h6 => ?_⟩⟩
      · have h7 : i < l.length := by have := of_decide_eq_true h6; omega
        simp only [Int.toNat_natCast]
        rw [atK, hlb]
        refine ends_eq ((i : Int), cmpS (l.getD i dE).1 key == 0, ()) ?_ (by kernel_rfl)
        congr 2
        rw [List.getElem?_map, List.getElem?_eq_getElem h7, getD_lt h7]
        simp only [Option.map_some, Option.some.injEq]
        rw [beq_decide, decide_eq_decide.2 (cmpS_eq _ _)]
      · have h7 : ¬ i < l.length := by have := of_decide_eq_false h6; omega
        rw [atK, hlb]
        refine ends_eq ((i : Int), false, ()) ?_ (by kernel_rfl)
        congr 2
        rw [List.getElem?_map, List.getElem?_eq_none (Nat.le_of_not_lt h7)]
        rfl
    | succ n ih =>
      intro i j h1 h2 h3 h4 h5
      by_cases hij : i < j
      · have e := mid_eq (s := (i : Int) + (j : Int)) (by omega) (by omega)
        have e2 : ((i : Int) + (j : Int)) / 2 = ((i + j) / 2 : Nat) := by omega
        refine go hz hX tabBS_ok Try.func125 (loopBSE l key i j) ?_
        rw [e, e2]
        simp only [Int.toNat_natCast]
        refine ⟨fun h => ⟨⟨by omega, by omega⟩, by decide, ⟨by omega, by omega⟩, by omega, by omega, fun h6 => ⟨⟨by omega, by omega⟩, ?_⟩, fun h6 => ?_⟩, fun h => absurd (of_decide_eq_false h) (by omega)⟩
        · have h7 : slt (l.getD ((i + j) / 2) dE).1 key = true := (cmpS_lt _ _).1 (of_decide_eq_true h6)
          refine ih ((i + j) / 2 + 1) j (by omega) (by omega) h3 (fun t ht => ?_) h5
          by_cases hte : t = (i + j) / 2
          · rw [hte]; exact h7
          · have := hs t ((i + j) / 2) (by omega) (by omega)
            rw [hk, hk] at this
            exact slt_trans this h7
        · have h7 : slt (l.getD ((i + j) / 2) dE).1 key = false := by
            cases h8 : slt (l.getD ((i + j) / 2) dE).1 key
            · rfl
            · exact absurd ((cmpS_lt _ _).2 h8) (of_decide_eq_false h6)
          refine ih i ((i + j) / 2) (by omega) (by omega) (by omega) h4 (fun t ht htl => ?_)
          by_cases hte : t = (i + j) / 2
          · rw [hte]; exact h7
          · have := hs ((i + j) / 2) t (by omega) (by omega)
            rw [hk, hk] at this
            cases h8 : slt (l.getD t dE).1 key
            · rfl
            · rw [slt_trans this h8] at h7; cases h7
      · exact ih i j (by omega) h2 h3 h4 h5
  exact go hz hX tabBS_ok Try.func125 (treeBSE l key) (loop l.length 0 l.length (by omega) (by omega) (by omega) (fun t ht => by omega) (fun t ht htl => by omega))
end Lf

namespace Lf
open Go Go.Sx Go.Proofs
abbrev sBSB := sumOf [tBs, tStr, .b .fn] [tInt, tBool] (fun (l, _, f, ()) => [(f : Nat) = 90, (l : List Br).length ≤ 1000000, srt (ksB l)]) (fun (l, key, _, ()) => ((lbP (ksB l) key : Nat), atK (ksB l) key, ()))
abbrev sBSE := sumOf [tEs, tStr, .b .fn] [tInt, tBool] (fun (l, _, f, ()) => [(f : Nat) = 126, (l : List En).length ≤ 1000000, srt (ksE l)]) (fun (l, key, _, ()) => ((lbP (ksE l) key : Nat), atK (ksE l) key, ()))
def tabPl : Tab := [(89, sBSB), (125, sBSE)]
theorem treePlace (l : List Br) (key : ByteArray) : run P tabPl.sum Try.f26 [] (start Try.f26 [.s (.ro (.typ cB l)), .s (.str key)] []) =
  Tree.need ((90 : Nat) = (90 : (Ty.b B.fn).V)) (Tree.need (l.length ≤ (1000000 : Nat)) (Tree.need (srt (ksB l)) (Tree.ite (!atK (ksB l) key) (Tree.need (inI64 ((↑(lbP (ksB l) key) : tInt.V) - (1 : Int))) (Tree.ret [] (AV.s (SV.int IntKind.i64 (imax (0 : Int) ((↑(lbP (ksB l) key) : tInt.V) - (1 : Int))))))) (Tree.ret [] (AV.s (SV.int IntKind.i64 (imax (0 : Int) (↑(lbP (ksB l) key) : tInt.V)))))))) := by kernel_rfl
theorem treeSearch (l : List En) (key : ByteArray) : run P tabPl.sum Try.f104 [] (start Try.f104 [.s (.ro (.typ cE l)), .s (.str key)] []) =
  Tree.need ((126 : Nat) = (126 : (Ty.b B.fn).V)) (Tree.need (l.length ≤ (1000000 : Nat)) (Tree.need (srt (ksE l)) (Tree.ret [] (AV.tup [AV.s (SV.int IntKind.i64 (↑(lbP (ksE l) key) : tInt.V)), AV.s (SV.bool (atK (ksE l) key))])))) := by kernel_rfl

/-! ### sizes -/
def nsSizes : List (Nat × Norm) := [(3, ⟨[(3, .ints .i64 [], 3)], [1, 3, 9, 10, 11], 0, []⟩), (8, ⟨[(3, .ints .i64 [], 3)], [3, 28, 29, 30], 0, []⟩)]
noncomputable def cSizes1 (l : Bool) (es : List En) (bs : List Br) (acc : List Int) (i : Int) : Cfg := ⟨sl 43 [(1, .ptr 0 0), (3, .vec 1), (9, .s (.ro (.typ cE es))), (10, .s (.int .i64 (es.length : Int))), (11, .s (.int .i64 i))], [obN l es bs 31, .vec (.ints .i64 acc) 3], hd Try.f98 3, {}⟩
noncomputable def cSizes2 (bs : List Br) (acc : List Int) (i : Int) : Cfg := ⟨sl 43 [(3, .vec 0), (28, .s (.ro (.typ cB bs))), (29, .s (.int .i64 (bs.length : Int))), (30, .s (.int .i64 i))], [.vec (.ints .i64 acc) 3], hd Try.f98 8, {}⟩
theorem treeSizes (l : Bool) (es : List En) (bs : List Br) : run P tab0.sum Try.f98 nsSizes (start Try.f98 [avN l es bs] []) =
  Tree.at (Cfg.mk (sl (43 : Nat) [((1 : Nat), AV.ptr (0 : Nat) (0 : Nat)), ((3 : Nat), AV.vec (1 : Nat)), ((9 : Nat), AV.s (SV.ro (Con.typ [CK.str, CK.str] es))), ((10 : Nat), AV.s (SV.int IntKind.i64 (↑es.length : Int))), ((11 : Nat), AV.s (SV.int IntKind.i64 (0 : Int)))]) [AObj.own [AV.s (SV.bool l), AV.s (SV.ro (Con.typ [CK.str, CK.str] es)), AV.s (SV.ro (Con.typ [CK.str, CK.int IntKind.i64] bs))] (31 : Nat), AObj.vec (Con.ints IntKind.i64 []) (3 : Nat)] (hd Try.f98 (3 : Nat)) (Stk.mk none false (0 : Nat) [] (0 : Nat))) := by kernel_rfl
theorem loopSizes1 (l : Bool) (es : List En) (bs : List Br) (acc : List Int) (i : Int) : run P tab0.sum Try.f98 nsSizes (cSizes1 l es bs acc i) =
  Tree.ite (decide (i < (↑es.length : Int))) (Tree.need ((0 : Int) ≤ i) (Tree.need (i < (↑es.length : Int)) (Tree.need (inI64 ((2 : Int) + (↑(ByteArray.size (es.getD i.toNat (CL.d [CK.str, CK.str])).fst) : Int))) (Tree.need (inI64 ((2 : Int) + (↑(ByteArray.size (es.getD i.toNat (CL.d [CK.str, CK.str])).fst) : Int) + (↑(ByteArray.size (es.getD i.toNat (CL.d [CK.str, CK.str])).snd.fst) : Int))) (Tree.need (acc.length + (1 : Nat) ≤ (4294967296 : Nat)) (Tree.need (inI64 (i + (1 : Int))) (Tree.at (Cfg.mk (sl (43 : Nat) [((1 : Nat), AV.ptr (0 : Nat) (0 : Nat)), ((3 : Nat), AV.vec (1 : Nat)), ((9 : Nat), AV.s (SV.ro (Con.typ [CK.str, CK.str] es))), ((10 : Nat), AV.s (SV.int IntKind.i64 (↑es.length : Int))), ((11 : Nat), AV.s (SV.int IntKind.i64 (i + (1 : Int))))]) [AObj.own [AV.s (SV.bool l), AV.s (SV.ro (Con.typ [CK.str, CK.str] es)), AV.s (SV.ro (Con.typ [CK.str, CK.int IntKind.i64] bs))] (31 : Nat), AObj.vec (Con.ints IntKind.i64 (acc ++ [(2 : Int) + (↑(ByteArray.size (es.getD i.toNat (CL.d [CK.str, CK.str])).fst) : Int) + (↑(ByteArray.size (es.getD i.toNat (CL.d [CK.str, CK.str])).snd.fst) : Int)])) (3 : Nat)] (hd Try.f98 (3 : Nat)) (Stk.mk none false (0 : Nat) [] (0 : Nat)))))))))) (Tree.at (Cfg.mk (sl (43 : Nat) [((3 : Nat), AV.vec (0 : Nat)), ((28 : Nat), AV.s (SV.ro (Con.typ [CK.str, CK.int IntKind.i64] bs))), ((29 : Nat), AV.s (SV.int IntKind.i64 (↑bs.length : Int))), ((30 : Nat), AV.s (SV.int IntKind.i64 (0 : Int)))]) [AObj.vec (Con.ints IntKind.i64 acc) (3 : Nat)] (hd Try.f98 (8 : Nat)) (Stk.mk none false (0 : Nat) [] (0 : Nat)))) := by kernel_rfl
theorem loopSizes2 (bs : List Br) (acc : List Int) (i : Int) : run P tab0.sum Try.f98 nsSizes (cSizes2 bs acc i) =
  Tree.ite (decide (i < (↑bs.length : Int))) (Tree.need ((0 : Int) ≤ i) (Tree.need (i < (↑bs.length : Int)) (Tree.need (inI64 ((3 : Int) + (↑(ByteArray.size (bs.getD i.toNat (CL.d [CK.str, CK.int IntKind.i64])).fst) : Int))) (Tree.need (acc.length + (1 : Nat) ≤ (4294967296 : Nat)) (Tree.need (inI64 (i + (1 : Int))) (Tree.at (Cfg.mk (sl (43 : Nat) [((3 : Nat), AV.vec (0 : Nat)), ((28 : Nat), AV.s (SV.ro (Con.typ [CK.str, CK.int IntKind.i64] bs))), ((29 : Nat), AV.s (SV.int IntKind.i64 (↑bs.length : Int))), ((30 : Nat), AV.s (SV.int IntKind.i64 (i + (1 : Int))))]) [AObj.vec (Con.ints IntKind.i64 (acc ++ [(3 : Int) + (↑(ByteArray.size (bs.getD i.toNat (CL.d [CK.str, CK.int IntKind.i64])).fst) : Int)])) (3 : Nat)] (hd Try.f98 (8 : Nat)) (Stk.mk none false (0 : Nat) [] (0 : Nat))))))))) (Tree.ret [AObj.vec (Con.ints IntKind.i64 acc) (3 : Nat)] (AV.vec (0 : Nat))) := by kernel_rfl
def szE (x : En) : Int := 2 + (x.1.size : Int) + (x.2.1.size : Int)
def szB (x : Br) : Int := 3 + (x.1.size : Int)
def sizesF (es : List En) (bs : List Br) : List Int := es.map szE ++ bs.map szB
def sumI (l : List Int) : Int := l.foldl (· + ·) 0
def sizeN (es : List En) (bs : List Br) : Int := 1 + ((es.map szE).sum + (bs.map szB).sum)
def smallE (es : List En) : Prop := es.length ≤ 1000 ∧ ∀ x ∈ es, x.1.size ≤ 1000 ∧ x.2.1.size ≤ 1000
def smallB (bs : List Br) : Prop := bs.length ≤ 1000 ∧ ∀ x ∈ bs, x.1.size ≤ 1000
abbrev sSizes := sumOf [tNode] [tInts] (fun ((_, es, bs, ()), ()) => [smallE es, smallB bs]) (fun ((_, es, bs, ()), ()) => (sizesF es bs, ()))
def tabSz : Tab := [(98, sSizes)]
def nsSize : List (Nat × Norm) := [(3, ⟨[], [3, 7, 8, 9], 0, []⟩)]
noncomputable def cSize (l : List Int) (a i : Int) : Cfg := ⟨sl 18 [(3, .s (.int .i64 a)), (7, .vec 0), (8, .s (.int .i64 (l.length : Int))), (9, .s (.int .i64 i))], [.vec (.ints .i64 l) 3], hd Try.f34 3, {}⟩
theorem treeSize (l : Bool) (es : List En) (bs : List Br) : run P tabSz.sum Try.f34 nsSize (start Try.f34 [avN l es bs] []) =
  Tree.need (smallE es) (Tree.need (smallB bs) (Tree.at (Cfg.mk (sl (18 : Nat) [((3 : Nat), AV.s (SV.int IntKind.i64 (1 : Int))), ((7 : Nat), AV.vec (0 : Nat)), ((8 : Nat), AV.s (SV.int IntKind.i64 (↑(sizesF es bs).length : Int))), ((9 : Nat), AV.s (SV.int IntKind.i64 (0 : Int)))]) [AObj.vec (Con.ints IntKind.i64 (sizesF es bs)) (3 : Nat)] (hd Try.f34 (3 : Nat)) (Stk.mk none false (0 : Nat) [] (0 : Nat))))) := by kernel_rfl
theorem loopSize (l : List Int) (a i : Int) : run P tabSz.sum Try.f34 nsSize (cSize l a i) =
  Tree.ite (decide (i < (↑l.length : Int))) (Tree.need ((0 : Int) ≤ i) (Tree.need (i < (↑l.length : Int)) (Tree.need (inI64 (a + l.getD i.toNat (0 : Int))) (Tree.need (inI64 (i + (1 : Int))) (Tree.at (Cfg.mk (sl (18 : Nat) [((3 : Nat), AV.s (SV.int IntKind.i64 (a + l.getD i.toNat (0 : Int)))), ((7 : Nat), AV.vec (0 : Nat)), ((8 : Nat), AV.s (SV.int IntKind.i64 (↑l.length : Int))), ((9 : Nat), AV.s (SV.int IntKind.i64 (i + (1 : Int))))]) [AObj.vec (Con.ints IntKind.i64 l) (3 : Nat)] (hd Try.f34 (3 : Nat)) (Stk.mk none false (0 : Nat) [] (0 : Nat)))))))) (Tree.ret [AObj.vec (Con.ints IntKind.i64 l) (3 : Nat)] (AV.s (SV.int IntKind.i64 a))) := by kernel_rfl
abbrev sSize := sumOf [tNode] [tInt] (fun ((_, es, bs, ()), ()) => [smallE es, smallB bs]) (fun ((_, es, bs, ()), ()) => (sizeN es bs, ()))
def tabFi : Tab := [(34, sSize)]
theorem treeFits (l : Bool) (es : List En) (bs : List Br) : run P tabFi.sum Try.f35 [] (start Try.f35 [avN l es bs] []) =
  Tree.need (smallE es) (Tree.need (smallB bs) (Tree.ret [AObj.own [AV.s (SV.bool l), AV.s (SV.ro (Con.typ [CK.str, CK.str] es)), AV.s (SV.ro (Con.typ [CK.str, CK.int IntKind.i64] bs))] (31 : Nat)] (AV.s (SV.bool (decide (sizeN es bs ≤ (254 : Int))))))) := by kernel_rfl
theorem tabPl_ok {Z : Glob} : tabPl.Ok P Z := Tab.Ok.cons bsB_ok.sum (Tab.Ok.cons bsE_ok.sum Tab.Ok.nil)
def placeF (l : List Br) (key : ByteArray) : Int := imax 0 (if atK (ksB l) key = true then (lbP (ksB l) key : Int) else (lbP (ksB l) key : Int) - 1)
theorem lbP_le (ks : List ByteArray) (key : ByteArray) : lbP ks key ≤ ks.length := by
  unfold lbP
  exact (List.takeWhile_sublist _).length_le
theorem place_ok {Z : Glob} : FnOk P Z 26 [tBs, tStr] [tInt] (fun (l, _, ()) => [(l : List Br).length ≤ 1000000, srt (ksB l)]) (fun (l, key, ()) => (placeF l key, ())) := by
  refine fnOk_of_safe Try.func26 (by kernel_rfl) (by kernel_rfl) ?_
  rintro ⟨(l : List Br), (key : ByteArray), ⟨⟩⟩ _ ⟨(hl : l.length ≤ 1000000), (hs : srt (ksB l)), _⟩ X hX hz
  have hb := lbP_le (ksB l) key
  rw [show (ksB l).length = l.length from List.length_map _] at hb
  refine go hz hX tabPl_ok Try.func26 (treePlace l key) ⟨rfl, hl, hs, fun h => ⟨⟨by omega, by omega⟩, ends_ii ?_⟩, fun h => ends_ii ?_⟩
  · have h : atK (ksB l) key = false := by simpa using h
    simp [placeF, h]
  · have h : atK (ksB l) key = true := by simpa using h
    simp [placeF, h]
theorem search_ok {Z : Glob} : FnOk P Z 104 [tEs, tStr] [tInt, tBool] (fun (l, _, ()) => [(l : List En).length ≤ 1000000, srt (ksE l)]) (fun (l, key, ()) => ((lbP (ksE l) key : Nat), atK (ksE l) key, ())) := by
  refine fnOk_of_safe Try.func104 (by kernel_rfl) (by kernel_rfl) ?_
  rintro ⟨(l : List En), (key : ByteArray), ⟨⟩⟩ _ ⟨(hl : l.length ≤ 1000000), (hs : srt (ksE l)), _⟩ X hX hz
  exact go hz hX tabPl_ok Try.func104 (treeSearch l key) ⟨rfl, hl, hs, ends_eq _ rfl (by kernel_rfl)⟩

theorem small_getE {es : List En} (h : smallE es) (i : Nat) : (es.getD i dE).1.size ≤ 1000 ∧ (es.getD i dE).2.1.size ≤ 1000 := by
  by_cases hi : i < es.length
  · rw [getD_lt hi]; exact h.2 _ (List.getElem_mem hi)
  · rw [show es.getD i dE = dE from by simp [List.getD, List.getElem?_eq_none (Nat.le_of_not_lt hi)]]
    exact ⟨by decide, by decide⟩
theorem small_getB {bs : List Br} (h : smallB bs) (i : Nat) : (bs.getD i dB).1.size ≤ 1000 := by
  by_cases hi : i < bs.length
  · rw [getD_lt hi]; exact h.2 _ (List.getElem_mem hi)
  · rw [show bs.getD i dB = dB from by simp [List.getD, List.getElem?_eq_none (Nat.le_of_not_lt hi)]]
    decide

theorem map_take_snoc {α : Type} {l : List α} {k : Nat} {d : α} (f : α → Int) (h : k < l.length) : (l.take k).map f ++ [f (l.getD k d)] = (l.take (k + 1)).map f := by
  rw [← take_snoc (d := d) h, List.map_append]; rfl

theorem sizes_ok {Z : Glob} : FnOk P Z 98 [tNode] [tInts] (fun ((_, es, bs, ()), ()) => [smallE es, smallB bs]) (fun ((_, es, bs, ()), ()) => (sizesF es bs, ())) := by
  refine fnOk_of_safe Try.func98 (by kernel_rfl) (by kernel_rfl) ?_
  rintro ⟨⟨(l : Bool), (es : List En), (bs : List Br), ⟨⟩⟩, ⟨⟩⟩ _ ⟨(he : smallE es), (hb : smallB bs), _⟩ X hX hz
  have he1 := he.1
  have hb1 := hb.1
  have second : ∀ (n k : Nat), k + n = bs.length → Safe P 98 X (Ends [tInts] (sizesF es bs, ())) (cSizes2 bs (es.map szE ++ (bs.take k).map szB) (k : Int)) := by
    intro n
    induction n with
    | zero =>
      intro k hk
      refine go hz hX Tab.Ok.nil Try.func98 (loopSizes2 bs _ k) ⟨fun h => absurd (of_decide_eq_true h) (by omega), fun h => ?_⟩
      rw [List.take_of_length_le (by omega)]
      exact ends_eq (sizesF es bs, ()) rfl (by kernel_rfl)
    | succ n ih =>
      intro k hk
      have hsz := small_getB hb k
      refine go hz hX Tab.Ok.nil Try.func98 (loopSizes2 bs _ k) ⟨fun h => ⟨by omega, by omega, ?_, ?_, ⟨by omega, by omega⟩, ?_⟩, fun h => absurd (of_decide_eq_false h) (by omega)⟩
      · simp only [Int.toNat_natCast]
        show inI64 (3 + ((bs.getD k dB).1.size : Int))
        exact ⟨by omega, by omega⟩
      · simp only [List.length_append, List.length_map, List.length_take]; omega
      · simp only [Int.toNat_natCast]
        have := ih (k + 1) (by omega)
        rw [← map_take_snoc (d := dB) szB (by omega), ← List.append_assoc] at this
        exact this
  have first : ∀ (n k : Nat), k + n = es.length → Safe P 98 X (Ends [tInts] (sizesF es bs, ())) (cSizes1 l es bs ((es.take k).map szE) (k : Int)) := by
    intro n
    induction n with
    | zero =>
      intro k hk
      refine go hz hX Tab.Ok.nil Try.func98 (loopSizes1 l es bs _ k) ⟨fun h => absurd (of_decide_eq_true h) (by omega), fun h => ?_⟩
      rw [List.take_of_length_le (by omega)]
      have := second bs.length 0 (by omega)
      simp only [List.take_zero, List.map_nil, List.append_nil] at this
      exact this
    | succ n ih =>
      intro k hk
      obtain ⟨hs1, hs2⟩ := small_getE he k
      refine go hz hX Tab.Ok.nil Try.func98 (loopSizes1 l es bs _ k) ⟨fun h => ⟨by omega, by omega, ?_, ?_, ?_, ⟨by omega, by omega⟩, ?_⟩, fun h => absurd (of_decide_eq_false h) (by omega)⟩
      · simp only [Int.toNat_natCast]
        show inI64 (2 + ((es.getD k dE).1.size : Int))
        exact ⟨by omega, by omega⟩
      · simp only [Int.toNat_natCast]
        show inI64 (2 + ((es.getD k dE).1.size : Int) + ((es.getD k dE).2.1.size : Int))
        exact ⟨by omega, by omega⟩
      · simp only [List.length_map, List.length_take]; omega
      · simp only [Int.toNat_natCast]
        have := ih (k + 1) (by omega)
        rw [← map_take_snoc (d := dE) szE (by omega)] at this
        exact this
  exact go hz hX Tab.Ok.nil Try.func98 (treeSizes l es bs) (first es.length 0 (by omega))

theorem szs_range {es : List En} {bs : List Br} (he : smallE es) (hb : smallB bs) : ∀ x ∈ sizesF es bs, 0 ≤ x ∧ x ≤ 2002 := by
  intro x hx
  rcases List.mem_append.1 hx with hx | hx
  · obtain ⟨y, hy, rfl⟩ := List.mem_map.1 hx
    have := he.2 y hy
    simp only [szE]; omega
  · obtain ⟨y, hy, rfl⟩ := List.mem_map.1 hx
    have := hb.2 y hy
    simp only [szB]; omega

theorem sum_range {l : List Int} {m : Int} (h : ∀ x ∈ l, 0 ≤ x ∧ x ≤ m) (hm : 0 ≤ m) : 0 ≤ l.sum ∧ l.sum ≤ m * l.length := by
  induction l with
  | nil => simp
  | cons x l ih =>
    have h1 := h x (by simp)
    obtain ⟨h2, h3⟩ := ih (fun y hy => h y (by simp [hy]))
    simp only [List.sum_cons, List.length_cons]
    refine ⟨by omega, ?_⟩
    rw [show ((l.length + 1 : Nat) : Int) = (l.length : Int) + 1 from rfl, Int.mul_add]
    omega

theorem sum_take_snoc {l : List Int} {k : Nat} (h : k < l.length) : (l.take k).sum + l.getD k 0 = (l.take (k + 1)).sum := by
  rw [← take_snoc (d := (0 : Int)) h, List.sum_append]; simp

theorem sizeN_eq (es : List En) (bs : List Br) : sizeN es bs = 1 + (sizesF es bs).sum := by
  simp [sizeN, sizesF, List.sum_append]

theorem size_ok {Z : Glob} : FnOk P Z 34 [tNode] [tInt] (fun ((_, es, bs, ()), ()) => [smallE es, smallB bs]) (fun ((_, es, bs, ()), ()) => (sizeN es bs, ())) := by
  refine fnOk_of_safe Try.func34 (by kernel_rfl) (by kernel_rfl) ?_
  rintro ⟨⟨(l : Bool), (es : List En), (bs : List Br), ⟨⟩⟩, ⟨⟩⟩ _ ⟨(he : smallE es), (hb : smallB bs), _⟩ X hX hz
  have hr := szs_range he hb
  have hlen : (sizesF es bs).length ≤ 2000 := by
    have := he.1; have := hb.1
    simp only [sizesF, List.length_append, List.length_map]; omega
  show Safe P 34 X (Ends [tInt] (sizeN es bs, ())) _
  rw [sizeN_eq]
  have loop : ∀ (n k : Nat), k + n = (sizesF es bs).length → Safe P 34 X (Ends [tInt] (1 + (sizesF es bs).sum, ())) (cSize (sizesF es bs) (1 + ((sizesF es bs).take k).sum) (k : Int)) := by
    intro n
    induction n with
    | zero =>
      intro k hk
      refine go hz hX (Tab.Ok.cons sizes_ok.sum Tab.Ok.nil) Try.func34 (loopSize _ _ k) ⟨fun h => absurd (of_decide_eq_true h) (by omega), fun h => ?_⟩
      rw [List.take_of_length_le (by omega)]
      exact ends_i
    | succ n ih =>
      intro k hk
      have h1 := sum_range (l := (sizesF es bs).take k) (m := 2002) (fun x hx => hr x (List.mem_of_mem_take hx)) (by omega)
      have h2 : 0 ≤ (sizesF es bs).getD k 0 ∧ (sizesF es bs).getD k 0 ≤ 2002 := by
        rw [getD_lt (by omega)]; exact hr _ (List.getElem_mem _)
      have h3 : ((sizesF es bs).take k).length ≤ 2000 := by rw [List.length_take]; omega
      refine go hz hX (Tab.Ok.cons sizes_ok.sum Tab.Ok.nil) Try.func34 (loopSize _ _ k) ?_
      simp only [Int.toNat_natCast]
      refine ⟨fun h => ⟨by omega, by omega, ⟨by omega, by omega⟩, ⟨by omega, by omega⟩, ?_⟩, fun h => absurd (of_decide_eq_false h) (by omega)⟩
      have := ih (k + 1) (by omega)
      rw [← sum_take_snoc (by omega), ← Int.add_assoc] at this
      exact this
  have := loop (sizesF es bs).length 0 (by omega)
  exact go hz hX (Tab.Ok.cons sizes_ok.sum Tab.Ok.nil) Try.func34 (treeSize l es bs) ⟨he, hb, this⟩

theorem fits_ok {Z : Glob} : FnOk P Z 35 [tNode] [tBool] (fun ((_, es, bs, ()), ()) => [smallE es, smallB bs]) (fun ((_, es, bs, ()), ()) => (decide (sizeN es bs ≤ 254), ())) := by
  refine fnOk_of_safe Try.func35 (by kernel_rfl) (by kernel_rfl) ?_
  rintro ⟨⟨(l : Bool), (es : List En), (bs : List Br), ⟨⟩⟩, ⟨⟩⟩ _ ⟨(he : smallE es), (hb : smallB bs), _⟩ X hX hz
  exact go hz hX (Tab.Ok.cons size_ok.sum Tab.Ok.nil) Try.func35 (treeFits l es bs) ⟨he, hb, ends_b⟩
end Lf

namespace Lf
open Go Go.Sx Go.Proofs
def bytesI (s : ByteArray) : List Int := s.data.toList.map fun b => (b.toNat : Int)
def txt (s : ByteArray) : List Int := IntKind.u8.wrap (s.size : Int) :: bytesI s
abbrev XEnc : Type := ByteArray × List Int
def specEnc1 : Spec XEnc := ⟨fun x => [.s (.str x.1), .ptr 0 0], fun x => [.own [.vec 1] 55, .vec (.ints .u8 x.2) 5], fun x => [x.2.length ≤ 100000000, x.1.size ≤ 1000000], fun x => [.own [.vec 2] 55, .dead, .vec (.ints .u8 (x.2 ++ txt x.1)) 5], fun _ => .tup []⟩
def mEnc1 : List AV → RM (XEnc × List Nat)
  | [.s (.str s), .ptr id 0] => .look id fun
    | some (.own [.vec j] _) => .look j fun
      | some (.vec (.ints .u8 zs) _) => .ret ((s, zs), [id, j])
      | _ => .fail "enc1: no bytes"
    | _ => .fail "enc1: no box"
  | _ => .fail "enc1"
theorem treeEnc1 (s : ByteArray) (zs : List Int) : run P tab0.sum Try.f93 [] (start Try.f93 [.s (.str s), .ptr 0 0] [.own [.vec 1] 55, .vec (.ints .u8 zs) 5]) =
  Tree.need (zs.length + (1 : Nat) ≤ (4294967296 : Nat)) (Tree.need ((zs ++ [IntKind.u8.wrap (↑s.size : Int)]).length + (List.map (fun (b : UInt8) => (↑b.toNat : Int)) s.data.toList).length ≤ (4294967296 : Nat)) (Tree.ret [AObj.own [AV.vec (4 : Nat)] (55 : Nat), AObj.dead, AObj.vec (Con.ints IntKind.u8 [IntKind.u8.wrap (↑s.size : Int)]) (5 : Nat), AObj.dead, AObj.vec (Con.ints IntKind.u8 (zs ++ [IntKind.u8.wrap (↑s.size : Int)] ++ List.map (fun (b : UInt8) => (↑b.toNat : Int)) s.data.toList)) (5 : Nat)] (AV.tup []))) := by kernel_rfl

abbrev sMay := sumOf [tNode] [tBool] (fun _ => []) (fun ((l, es, bs, ()), ()) => (mayN l es bs, ()))
abbrev sFits := sumOf [tNode] [tBool] (fun ((_, es, bs, ()), ()) => [smallE es, smallB bs]) (fun ((_, es, bs, ()), ()) => (decide (sizeN es bs ≤ 254), ()))
def tabEnc : Tab := [(25, sMay), (35, sFits), (93, sumS specEnc1 mEnc1)]
def nsEnc : List (Nat × Norm) := [(8, ⟨[], [1, 4], 0, []⟩), (10, ⟨[], [1, 4, 5, 25, 26, 27], 0, []⟩), (16, ⟨[], [4, 5, 41, 42, 43], 0, []⟩)]
noncomputable def cEnc0 (l : Bool) (es : List En) (bs : List Br) (zs : List Int) : Cfg := ⟨sl 64 [(1, .ptr 0 0), (4, .ptr 1 0)], [obN l es bs 31, .own [.vec 2] 55, .vec (.ints .u8 zs) 5], hr Try.f31 8, {}⟩
noncomputable def cEnc1 (l : Bool) (es : List En) (bs : List Br) (zs : List Int) (i : Int) : Cfg := ⟨sl 64 [(1, .ptr 0 0), (4, .ptr 1 0), (5, .fn 93 [.ptr 1 0]), (25, .s (.ro (.typ cE es))), (26, .s (.int .i64 (es.length : Int))), (27, .s (.int .i64 i))], [obN l es bs 31, .own [.vec 2] 55, .vec (.ints .u8 zs) 5], hd Try.f31 10, {}⟩
noncomputable def cEnc2 (bs : List Br) (zs : List Int) (i : Int) : Cfg := ⟨sl 64 [(4, .ptr 0 0), (5, .fn 93 [.ptr 0 0]), (41, .s (.ro (.typ cB bs))), (42, .s (.int .i64 (bs.length : Int))), (43, .s (.int .i64 i))], [.own [.vec 1] 55, .vec (.ints .u8 zs) 5], hd Try.f31 16, {}⟩
theorem treeEnc (l : Bool) (es : List En) (bs : List Br) : run P tabEnc.sum Try.f31 nsEnc (start Try.f31 [avN l es bs] []) =
  Tree.ite (!mayN l es bs) (Tree.ret [AObj.own [AV.s (SV.bool l), AV.s (SV.ro (Con.typ [CK.str, CK.str] es)), AV.s (SV.ro (Con.typ [CK.str, CK.int IntKind.i64] bs))] (31 : Nat)] (AV.tup [AV.s (SV.str ByteArray.empty), AV.s (SV.ilit IntKind.i64 (4 : Int))])) (Tree.need (smallE es) (Tree.need (smallB bs) (Tree.ite (!decide (sizeN es bs ≤ (254 : Int))) (Tree.ret [AObj.own [AV.s (SV.bool l), AV.s (SV.ro (Con.typ [CK.str, CK.str] es)), AV.s (SV.ro (Con.typ [CK.str, CK.int IntKind.i64] bs))] (31 : Nat)] (AV.tup [AV.s (SV.str ByteArray.empty), AV.s (SV.ilit IntKind.i64 (40 : Int))])) (Tree.ite l (Tree.need ((0 : Int) ≤ (0 : Int)) (Tree.need ((0 : Int) < (↑(1 : Nat) : Int)) (Tree.at (Cfg.mk (sl (64 : Nat) [((1 : Nat), AV.ptr (0 : Nat) (0 : Nat)), ((4 : Nat), AV.ptr (1 : Nat) (0 : Nat))]) [AObj.own [AV.s (SV.bool l), AV.s (SV.ro (Con.typ [CK.str, CK.str] es)), AV.s (SV.ro (Con.typ [CK.str, CK.int IntKind.i64] bs))] (31 : Nat), AObj.own [AV.vec (2 : Nat)] (55 : Nat), AObj.vec (Con.ints IntKind.u8 ([(2 : Int)].set (0 : Nat) (1 : Int))) (5 : Nat)] (hr Try.f31 (8 : Nat)) (Stk.mk none false (0 : Nat) [] (0 : Nat)))))) (Tree.at (Cfg.mk (sl (64 : Nat) [((1 : Nat), AV.ptr (0 : Nat) (0 : Nat)), ((4 : Nat), AV.ptr (1 : Nat) (0 : Nat))]) [AObj.own [AV.s (SV.bool l), AV.s (SV.ro (Con.typ [CK.str, CK.str] es)), AV.s (SV.ro (Con.typ [CK.str, CK.int IntKind.i64] bs))] (31 : Nat), AObj.own [AV.vec (2 : Nat)] (55 : Nat), AObj.vec (Con.ints IntKind.u8 [(2 : Int)]) (5 : Nat)] (hr Try.f31 (8 : Nat)) (Stk.mk none false (0 : Nat) [] (0 : Nat)))))))) := by kernel_rfl
theorem stopEnc (l : Bool) (es : List En) (bs : List Br) (zs : List Int) : run P tabEnc.sum Try.f31 nsEnc (cEnc0 l es bs zs) =
  Tree.at (Cfg.mk (sl (64 : Nat) [((1 : Nat), AV.ptr (0 : Nat) (0 : Nat)), ((4 : Nat), AV.ptr (1 : Nat) (0 : Nat)), ((5 : Nat), AV.fn (93 : Nat) [AV.ptr (1 : Nat) (0 : Nat)]), ((25 : Nat), AV.s (SV.ro (Con.typ [CK.str, CK.str] es))), ((26 : Nat), AV.s (SV.int IntKind.i64 (↑es.length : Int))), ((27 : Nat), AV.s (SV.int IntKind.i64 (0 : Int)))]) [AObj.own [AV.s (SV.bool l), AV.s (SV.ro (Con.typ [CK.str, CK.str] es)), AV.s (SV.ro (Con.typ [CK.str, CK.int IntKind.i64] bs))] (31 : Nat), AObj.own [AV.vec (2 : Nat)] (55 : Nat), AObj.vec (Con.ints IntKind.u8 zs) (5 : Nat)] (hd Try.f31 (10 : Nat)) (Stk.mk none false (0 : Nat) [] (0 : Nat))) := by kernel_rfl
theorem loopEnc1 (l : Bool) (es : List En) (bs : List Br) (zs : List Int) (i : Int) : run P tabEnc.sum Try.f31 nsEnc (cEnc1 l es bs zs i) =
  Tree.ite (decide (i < (↑es.length : Int))) (Tree.need ((0 : Int) ≤ i) (Tree.need (i < (↑es.length : Int)) (Tree.need (some [AV.s (SV.str (es.getD i.toNat (CL.d [CK.str, CK.str])).fst), AV.ptr (0 : Nat) (0 : Nat)] = some [AV.s (SV.str (es.getD i.toNat (CL.d [CK.str, CK.str])).fst), AV.ptr (0 : Nat) (0 : Nat)]) (Tree.need (some [AObj.own [AV.vec (1 : Nat)] (55 : Nat), AObj.vec (Con.ints IntKind.u8 zs) (5 : Nat)] = some [AObj.own [AV.vec (1 : Nat)] (55 : Nat), AObj.vec (Con.ints IntKind.u8 zs) (5 : Nat)]) (Tree.need (zs.length ≤ (100000000 : Nat)) (Tree.need (ByteArray.size (es.getD i.toNat (CL.d [CK.str, CK.str])).fst ≤ (1000000 : Nat)) (Tree.need (some [AV.s (SV.str (es.getD i.toNat (CL.d [CK.str, CK.str])).snd.fst), AV.ptr (0 : Nat) (0 : Nat)] = some [AV.s (SV.str (es.getD i.toNat (CL.d [CK.str, CK.str])).snd.fst), AV.ptr (0 : Nat) (0 : Nat)]) (Tree.need (some [AObj.own [AV.vec (1 : Nat)] (55 : Nat), AObj.vec (Con.ints IntKind.u8 (zs ++ txt (es.getD i.toNat (CL.d [CK.str, CK.str])).fst)) (5 : Nat)] = some [AObj.own [AV.vec (1 : Nat)] (55 : Nat), AObj.vec (Con.ints IntKind.u8 (zs ++ txt (es.getD i.toNat (CL.d [CK.str, CK.str])).fst)) (5 : Nat)]) (Tree.need ((zs ++ txt (es.getD i.toNat (CL.d [CK.str, CK.str])).fst).length ≤ (100000000 : Nat)) (Tree.need (ByteArray.size (es.getD i.toNat (CL.d [CK.str, CK.str])).snd.fst ≤ (1000000 : Nat)) (Tree.need (inI64 (i + (1 : Int))) (Tree.at (Cfg.mk (sl (64 : Nat) [((1 : Nat), AV.ptr (0 : Nat) (0 : Nat)), ((4 : Nat), AV.ptr (1 : Nat) (0 : Nat)), ((5 : Nat), AV.fn (93 : Nat) [AV.ptr (1 : Nat) (0 : Nat)]), ((25 : Nat), AV.s (SV.ro (Con.typ [CK.str, CK.str] es))), ((26 : Nat), AV.s (SV.int IntKind.i64 (↑es.length : Int))), ((27 : Nat), AV.s (SV.int IntKind.i64 (i + (1 : Int))))]) [AObj.own [AV.s (SV.bool l), AV.s (SV.ro (Con.typ [CK.str, CK.str] es)), AV.s (SV.ro (Con.typ [CK.str, CK.int IntKind.i64] bs))] (31 : Nat), AObj.own [AV.vec (2 : Nat)] (55 : Nat), AObj.vec (Con.ints IntKind.u8 (zs ++ txt (es.getD i.toNat (CL.d [CK.str, CK.str])).fst ++ txt (es.getD i.toNat (CL.d [CK.str, CK.str])).snd.fst)) (5 : Nat)] (hd Try.f31 (10 : Nat)) (Stk.mk none false (0 : Nat) [] (0 : Nat))))))))))))))) (Tree.at (Cfg.mk (sl (64 : Nat) [((4 : Nat), AV.ptr (0 : Nat) (0 : Nat)), ((5 : Nat), AV.fn (93 : Nat) [AV.ptr (0 : Nat) (0 : Nat)]), ((41 : Nat), AV.s (SV.ro (Con.typ [CK.str, CK.int IntKind.i64] bs))), ((42 : Nat), AV.s (SV.int IntKind.i64 (↑bs.length : Int))), ((43 : Nat), AV.s (SV.int IntKind.i64 (0 : Int)))]) [AObj.own [AV.vec (1 : Nat)] (55 : Nat), AObj.vec (Con.ints IntKind.u8 zs) (5 : Nat)] (hd Try.f31 (16 : Nat)) (Stk.mk none false (0 : Nat) [] (0 : Nat)))) := by kernel_rfl
theorem loopEnc2 (bs : List Br) (zs : List Int) (i : Int) : run P tabEnc.sum Try.f31 nsEnc (cEnc2 bs zs i) =
  Tree.ite (decide (i < (↑bs.length : Int))) (Tree.need ((0 : Int) ≤ i) (Tree.need (i < (↑bs.length : Int)) (Tree.need (some [AV.s (SV.str (bs.getD i.toNat (CL.d [CK.str, CK.int IntKind.i64])).fst), AV.ptr (0 : Nat) (0 : Nat)] = some [AV.s (SV.str (bs.getD i.toNat (CL.d [CK.str, CK.int IntKind.i64])).fst), AV.ptr (0 : Nat) (0 : Nat)]) (Tree.need (some [AObj.own [AV.vec (1 : Nat)] (55 : Nat), AObj.vec (Con.ints IntKind.u8 zs) (5 : Nat)] = some [AObj.own [AV.vec (1 : Nat)] (55 : Nat), AObj.vec (Con.ints IntKind.u8 zs) (5 : Nat)]) (Tree.need (zs.length ≤ (100000000 : Nat)) (Tree.need (ByteArray.size (bs.getD i.toNat (CL.d [CK.str, CK.int IntKind.i64])).fst ≤ (1000000 : Nat)) (Tree.need ((0 : Int) ≤ (8 : Int)) (Tree.need ((zs ++ txt (bs.getD i.toNat (CL.d [CK.str, CK.int IntKind.i64])).fst).length + (2 : Nat) ≤ (4294967296 : Nat)) (Tree.need (inI64 (i + (1 : Int))) (Tree.at (Cfg.mk (sl (64 : Nat) [((4 : Nat), AV.ptr (0 : Nat) (0 : Nat)), ((5 : Nat), AV.fn (93 : Nat) [AV.ptr (0 : Nat) (0 : Nat)]), ((41 : Nat), AV.s (SV.ro (Con.typ [CK.str, CK.int IntKind.i64] bs))), ((42 : Nat), AV.s (SV.int IntKind.i64 (↑bs.length : Int))), ((43 : Nat), AV.s (SV.int IntKind.i64 (i + (1 : Int))))]) [AObj.own [AV.vec (1 : Nat)] (55 : Nat), AObj.vec (Con.ints IntKind.u8 (zs ++ txt (bs.getD i.toNat (CL.d [CK.str, CK.int IntKind.i64])).fst ++ [IntKind.u8.wrap (Int.fdiv (bs.getD i.toNat (CL.d [CK.str, CK.int IntKind.i64])).snd.fst ((2 : Int) ^ min (Int.toNat (8 : Int)) IntKind.i64.bits)), IntKind.u8.wrap (bs.getD i.toNat (CL.d [CK.str, CK.int IntKind.i64])).snd.fst])) (5 : Nat)] (hd Try.f31 (16 : Nat)) (Stk.mk none false (0 : Nat) [] (0 : Nat))))))))))))) (Tree.ret [AObj.own [AV.vec (1 : Nat)] (55 : Nat), AObj.vec (Con.ints IntKind.u8 zs) (5 : Nat)] (AV.tup [AV.s (SV.str (bytesStr zs)), AV.s (SV.ilit IntKind.i64 (0 : Int))])) := by kernel_rfl
theorem goS {Z : Glob} {X : Ctx} {t : Tab} {f : FuncId} {fn : Func} {ns : List (Nat × Norm)} {c : Cfg} {tr : Tree} {K : List AObj → AV → Prop} {L : List AObj} (hz : ZCtx Z X) (hX : X.H = lk L) (hm : ∀ x ∈ ns, L.length ≤ x.2.m) (hT : t.Ok P Z) (hf : P.funcs[f]? = some fn)
    (e : run P t.sum fn ns c = tr) (h : tr.Holds K (Safe P f X K)) : Safe P f X K c := safe_of_run (Tab.sOk hT) hz mixed hf (fun x hx id hid => by rw [hX]; exact List.getElem?_eq_none (Nat.le_trans (hm x hx) hid)) e h

theorem enc1_ok {Z : Glob} : FnS P Z 93 specEnc1 := by
  refine fnS_of_safe Try.func93 (by kernel_rfl) (fun x => Nat.le_of_ble_eq_true (by kernel_rfl)) ?_
  rintro ⟨(s : ByteArray), (zs : List Int)⟩ ⟨(h1 : zs.length ≤ 100000000), (h2 : s.size ≤ 1000000), _⟩ X hX hz
  have hs : s.data.toList.length = s.size := Array.length_toList
  refine goS hz hX (by simp) Tab.Ok.nil Try.func93 (treeEnc1 s zs) ⟨by omega, by simp only [List.length_append, List.length_map, List.length_singleton]; omega, ⟨[], [0], 2, []⟩, Nat.le_refl _, ?_⟩
  have e : zs ++ txt s = zs ++ [IntKind.u8.wrap (s.size : Int)] ++ bytesI s := by simp [txt]
  show Norm.run _ _ = some ⟨[AV.tup []], [.own [.vec 2] 55, .dead, .vec (.ints .u8 (zs ++ txt s)) 5], [], {}⟩
  rw [e]
  kernel_rfl

def encE (x : En) : List Int := txt x.1 ++ txt x.2.1
def encB (x : Br) : List Int := txt x.1 ++ [IntKind.u8.wrap (Int.fdiv x.2.1 (2 ^ min (Int.toNat 8) IntKind.i64.bits)), IntKind.u8.wrap x.2.1]
def encH (l : Bool) : List Int := [if l = true then 1 else 2]
def encZ (l : Bool) (es : List En) (bs : List Br) : List Int := encH l ++ es.flatMap encE ++ bs.flatMap encB
def encOk (l : Bool) (es : List En) (bs : List Br) : Bool := mayN l es bs && decide (sizeN es bs ≤ 254)
def encS (l : Bool) (es : List En) (bs : List Br) : ByteArray := if encOk l es bs = true then bytesStr (encZ l es bs) else ByteArray.empty
def encN (l : Bool) (es : List En) (bs : List Br) : Int := if mayN l es bs = true then (if sizeN es bs ≤ 254 then 0 else 40) else 4

theorem txt_length (s : ByteArray) : (txt s).length = s.size + 1 := by
  have hs : s.data.toList.length = s.size := Array.length_toList
  simp [txt, bytesI, hs]
theorem flat_snoc {α β : Type} {l : List α} {k : Nat} {d : α} (f : α → List β) (h : k < l.length) : (l.take k).flatMap f ++ f (l.getD k d) = (l.take (k + 1)).flatMap f := by
  rw [← take_snoc (d := d) h, List.flatMap_append]; simp
theorem flat_len {α β : Type} (f : α → List β) (m : Nat) : ∀ {l : List α}, (∀ x ∈ l, (f x).length ≤ m) → (l.flatMap f).length ≤ m * l.length
  | [], _ => by simp
  | x :: l, h => by
    have h1 := h x (by simp)
    have h2 := flat_len f m (l := l) (fun y hy => h y (by simp [hy]))
    simp only [List.flatMap_cons, List.length_append, List.length_cons, Nat.mul_add]
    omega
theorem encE_len {x : En} (h : x.1.size ≤ 1000 ∧ x.2.1.size ≤ 1000) : (encE x).length ≤ 2002 := by
  simp only [encE, List.length_append, txt_length]; omega
theorem encB_len {x : Br} (h : x.1.size ≤ 1000) : (encB x).length ≤ 1003 := by
  simp only [encB, List.length_append, txt_length, List.length_cons, List.length_nil]; omega

theorem tabEnc_ok {Z : Glob} : tabEnc.Ok P Z := Tab.Ok.cons may_ok.sum (Tab.Ok.cons fits_ok.sum (Tab.Ok.cons (enc1_ok.sum mEnc1) Tab.Ok.nil))

theorem encode_ok {Z : Glob} : FnOk P Z 31 [tNode] [tStr, tInt] (fun ((_, es, bs, ()), ()) => [smallE es, smallB bs]) (fun ((l, es, bs, ()), ()) => (encS l es bs, encN l es bs, ())) := by
  refine fnOk_of_safe Try.func31 (by kernel_rfl) (by kernel_rfl) ?_
  rintro ⟨⟨(l : Bool), (es : List En), (bs : List Br), ⟨⟩⟩, ⟨⟩⟩ _ ⟨(he : smallE es), (hb : smallB bs), _⟩ X hX hz
  have he1 := he.1
  have hb1 := hb.1
  show Safe P 31 X (Ends [tStr, tInt] (encS l es bs, encN l es bs, ())) _
  have second : encS l es bs = bytesStr (encZ l es bs) → encN l es bs = 0 → ∀ (n k : Nat), k + n = bs.length → Safe P 31 X (Ends [tStr, tInt] (encS l es bs, encN l es bs, ())) (cEnc2 bs (encH l ++ es.flatMap encE ++ (bs.take k).flatMap encB) (k : Int)) := by
    intro hS hN n
    induction n with
    | zero =>
      intro k hk
      refine go hz hX tabEnc_ok Try.func31 (loopEnc2 bs _ k) ⟨fun h => absurd (of_decide_eq_true h) (by omega), fun h => ?_⟩
      rw [List.take_of_length_le (by omega), hS, hN]
      exact ends_si
    | succ n ih =>
      intro k hk
      have hsz := small_getB hb k
      have hl1 : (es.flatMap encE).length ≤ 2002 * es.length := flat_len encE 2002 (fun x hx => encE_len (he.2 x hx))
      have hl2 : ((bs.take k).flatMap encB).length ≤ 1003 * (bs.take k).length := flat_len encB 1003 (fun x hx => encB_len (hb.2 x (List.mem_of_mem_take hx)))
      have hl3 : (bs.take k).length ≤ 1000 := by rw [List.length_take]; omega
      have hl : (encH l ++ es.flatMap encE ++ (bs.take k).flatMap encB).length ≤ 4000000 := by
        simp only [List.length_append, encH, List.length_singleton]; omega
      refine go hz hX tabEnc_ok Try.func31 (loopEnc2 bs _ k) ?_
      simp only [Int.toNat_natCast]
      refine ⟨fun h => ⟨by omega, by omega, trivial, trivial, by omega, ?_, by decide, ?_, ⟨by omega, by omega⟩, ?_⟩, fun h => absurd (of_decide_eq_false h) (by omega)⟩
      · show (bs.getD k dB).1.size ≤ 1000000
        omega
      · rw [List.length_append, txt_length]
        show _ + ((bs.getD k dB).1.size + 1) + 2 ≤ _
        omega
      · have := ih (k + 1) (by omega)
        rw [← flat_snoc (d := dB) encB (by omega), ← List.append_assoc] at this
        rw [List.append_assoc (encH l ++ es.flatMap encE ++ (bs.take k).flatMap encB)]
        exact this
  have first : encS l es bs = bytesStr (encZ l es bs) → encN l es bs = 0 → ∀ (n k : Nat), k + n = es.length → Safe P 31 X (Ends [tStr, tInt] (encS l es bs, encN l es bs, ())) (cEnc1 l es bs (encH l ++ (es.take k).flatMap encE) (k : Int)) := by
    intro hS hN n
    induction n with
    | zero =>
      intro k hk
      refine go hz hX tabEnc_ok Try.func31 (loopEnc1 l es bs _ k) ⟨fun h => absurd (of_decide_eq_true h) (by omega), fun h => ?_⟩
      rw [List.take_of_length_le (by omega)]
      have := second hS hN bs.length 0 (by omega)
      simp only [List.take_zero, List.flatMap_nil, List.append_nil] at this
      exact this
    | succ n ih =>
      intro k hk
      obtain ⟨hs1, hs2⟩ := small_getE he k
      have hl2 : ((es.take k).flatMap encE).length ≤ 2002 * (es.take k).length := flat_len encE 2002 (fun x hx => encE_len (he.2 x (List.mem_of_mem_take hx)))
      have hl3 : (es.take k).length ≤ 1000 := by rw [List.length_take]; omega
      have hl : (encH l ++ (es.take k).flatMap encE).length ≤ 4000000 := by
        simp only [List.length_append, encH, List.length_singleton]; omega
      refine go hz hX tabEnc_ok Try.func31 (loopEnc1 l es bs _ k) ?_
      simp only [Int.toNat_natCast]
      refine ⟨fun h => ⟨by omega, by omega, trivial, trivial, by omega, ?_, trivial, trivial, ?_, ?_, ⟨by omega, by omega⟩, ?_⟩, fun h => absurd (of_decide_eq_false h) (by omega)⟩
      · show (es.getD k dE).1.size ≤ 1000000
        omega
      · rw [List.length_append, txt_length]
        show _ + ((es.getD k dE).1.size + 1) ≤ _
        omega
      · show (es.getD k dE).2.1.size ≤ 1000000
        omega
      · have := ih (k + 1) (by omega)
        rw [← flat_snoc (d := dE) encE (by omega), ← List.append_assoc] at this
        rw [List.append_assoc (encH l ++ (es.take k).flatMap encE)]
        exact this
  refine go hz hX tabEnc_ok Try.func31 (treeEnc l es bs) ⟨fun h => ?_, fun h => ⟨he, hb, fun h2 => ?_, fun h2 => ?_⟩⟩
  · have h : mayN l es bs = false := by simpa using h
    have e1 : encS l es bs = ByteArray.empty := by simp [encS, encOk, h]
    have e2 : encN l es bs = 4 := by simp [encN, h]
    rw [e1, e2]; exact ends_si
  · have h : mayN l es bs = true := by simpa using h
    have h2 : ¬ sizeN es bs ≤ 254 := by simpa using h2
    have e1 : encS l es bs = ByteArray.empty := by simp [encS, encOk, h, h2]
    have e2 : encN l es bs = 40 := by simp [encN, h, h2]
    rw [e1, e2]; exact ends_si
  · have h : mayN l es bs = true := by simpa using h
    have h2 : sizeN es bs ≤ 254 := by simpa using h2
    have e1 : encS l es bs = bytesStr (encZ l es bs) := by simp [encS, encOk, h, h2]
    have e2 : encN l es bs = 0 := by simp [encN, h, h2]
    have st : Safe P 31 X (Ends [tStr, tInt] (encS l es bs, encN l es bs, ())) (cEnc0 l es bs (encH l)) := by
      refine go hz hX tabEnc_ok Try.func31 (stopEnc l es bs _) ?_
      have := first e1 e2 es.length 0 (by omega)
      simp only [List.take_zero, List.flatMap_nil, List.append_nil] at this
      exact this
    refine ⟨fun h3 => ⟨by decide, by decide, ?_⟩, fun h3 => ?_⟩
    · subst h3; exact st
    · subst h3; exact st
end Lf

namespace Lf
open Go Go.Sx Go.Proofs
abbrev sEnc := sumOf [tNode] [tStr, tInt] (fun ((_, es, bs, ()), ()) => [smallE es, smallB bs]) (fun ((l, es, bs, ()), ()) => (encS l es bs, encN l es bs, ()))
abbrev sPlace := sumOf [tBs, tStr] [tInt] (fun (l, _, ()) => [(l : List Br).length ≤ 1000000, srt (ksB l)]) (fun (l, key, ()) => (placeF l key, ()))
def tabAw : Tab := [(31, sEnc), (34, sSize), (26, sPlace)]
theorem treeAwake  : run P tabAw.sum Try.f23 [] (start Try.f23 [] []) =
  Tree.need (smallE [(ByteArray.mk #[(97 : UInt8)], ByteArray.mk #[(49 : UInt8)], ()), (ByteArray.mk #[(98 : UInt8)], ByteArray.mk #[(50 : UInt8), (50 : UInt8)], ())]) (Tree.need (smallB []) (Tree.ite true (Tree.ite true (Tree.need (smallE [(ByteArray.mk #[(97 : UInt8)], ByteArray.mk #[(49 : UInt8)], ()), (ByteArray.mk #[(98 : UInt8)], ByteArray.mk #[(50 : UInt8), (50 : UInt8)], ())]) (Tree.need (smallB []) (Tree.ite true (Tree.need ([(ByteArray.empty, (2 : Int), ()), (ByteArray.mk #[(98 : UInt8)], (3 : Int), ()), (ByteArray.mk #[(99 : UInt8)], (4 : Int), ())].length ≤ (1000000 : Nat)) (Tree.need (srt (ksB [(ByteArray.empty, (2 : Int), ()), (ByteArray.mk #[(98 : UInt8)], (3 : Int), ()), (ByteArray.mk #[(99 : UInt8)], (4 : Int), ())])) (Tree.ite true (Tree.need ([(ByteArray.empty, (2 : Int), ()), (ByteArray.mk #[(98 : UInt8)], (3 : Int), ()), (ByteArray.mk #[(99 : UInt8)], (4 : Int), ())].length ≤ (1000000 : Nat)) (Tree.need (srt (ksB [(ByteArray.empty, (2 : Int), ()), (ByteArray.mk #[(98 : UInt8)], (3 : Int), ()), (ByteArray.mk #[(99 : UInt8)], (4 : Int), ())])) (Tree.ret [AObj.vec (Con.typ [CK.str, CK.str] [(ByteArray.mk #[(97 : UInt8)], ByteArray.mk #[(49 : UInt8)], ()), (ByteArray.mk #[(98 : UInt8)], ByteArray.mk #[(50 : UInt8), (50 : UInt8)], ())]) (59 : Nat), AObj.own [AV.s (SV.blit true), AV.vec (0 : Nat), AV.emp] (31 : Nat), AObj.vec (Con.typ [CK.str, CK.int IntKind.i64] [(ByteArray.empty, (2 : Int), ()), (ByteArray.mk #[(98 : UInt8)], (3 : Int), ()), (ByteArray.mk #[(99 : UInt8)], (4 : Int), ())]) (36 : Nat)] (AV.s (SV.bool true))))) (Tree.ret [AObj.vec (Con.typ [CK.str, CK.str] [(ByteArray.mk #[(97 : UInt8)], ByteArray.mk #[(49 : UInt8)], ()), (ByteArray.mk #[(98 : UInt8)], ByteArray.mk #[(50 : UInt8), (50 : UInt8)], ())]) (59 : Nat), AObj.own [AV.s (SV.blit true), AV.vec (0 : Nat), AV.emp] (31 : Nat), AObj.vec (Con.typ [CK.str, CK.int IntKind.i64] [(ByteArray.empty, (2 : Int), ()), (ByteArray.mk #[(98 : UInt8)], (3 : Int), ()), (ByteArray.mk #[(99 : UInt8)], (4 : Int), ())]) (36 : Nat)] (AV.s (SV.blit false)))))) (Tree.ret [AObj.vec (Con.typ [CK.str, CK.str] [(ByteArray.mk #[(97 : UInt8)], ByteArray.mk #[(49 : UInt8)], ()), (ByteArray.mk #[(98 : UInt8)], ByteArray.mk #[(50 : UInt8), (50 : UInt8)], ())]) (59 : Nat), AObj.own [AV.s (SV.blit true), AV.vec (0 : Nat), AV.emp] (31 : Nat), AObj.vec (Con.typ [CK.str, CK.int IntKind.i64] [(ByteArray.empty, (2 : Int), ()), (ByteArray.mk #[(98 : UInt8)], (3 : Int), ()), (ByteArray.mk #[(99 : UInt8)], (4 : Int), ())]) (36 : Nat)] (AV.s (SV.blit false)))))) (Tree.ret [AObj.vec (Con.typ [CK.str, CK.str] [(ByteArray.mk #[(97 : UInt8)], ByteArray.mk #[(49 : UInt8)], ()), (ByteArray.mk #[(98 : UInt8)], ByteArray.mk #[(50 : UInt8), (50 : UInt8)], ())]) (59 : Nat), AObj.own [AV.s (SV.blit true), AV.vec (0 : Nat), AV.emp] (31 : Nat), AObj.vec (Con.typ [CK.str, CK.int IntKind.i64] [(ByteArray.empty, (2 : Int), ()), (ByteArray.mk #[(98 : UInt8)], (3 : Int), ()), (ByteArray.mk #[(99 : UInt8)], (4 : Int), ())]) (36 : Nat)] (AV.s (SV.blit false)))) (Tree.ret [AObj.vec (Con.typ [CK.str, CK.str] [(ByteArray.mk #[(97 : UInt8)], ByteArray.mk #[(49 : UInt8)], ()), (ByteArray.mk #[(98 : UInt8)], ByteArray.mk #[(50 : UInt8), (50 : UInt8)], ())]) (59 : Nat), AObj.own [AV.s (SV.blit true), AV.vec (0 : Nat), AV.emp] (31 : Nat), AObj.vec (Con.typ [CK.str, CK.int IntKind.i64] [(ByteArray.empty, (2 : Int), ()), (ByteArray.mk #[(98 : UInt8)], (3 : Int), ()), (ByteArray.mk #[(99 : UInt8)], (4 : Int), ())]) (36 : Nat)] (AV.s (SV.blit false))))) := by kernel_rfl
abbrev sLarge := sumOf [tRN] [tBool] (fun _ => []) (fun ((_, es, bs, ()), ()) => (largeN es bs, ()))
abbrev sGiven := sumOf [tRN] [tNode] (fun ((_, es, bs, ()), ()) => [(es : List En).length ≤ 100000, (bs : List Br).length ≤ 100000]) (fun (n, ()) => (n, ()))
abbrev sTrue := sumOf [] [tBool] (fun _ => []) (fun _ => (true, ()))
def tabLP : Tab := [(22, sLarge), (23, sTrue), (24, sGiven), (25, sMay), (26, sPlace)]
theorem treeLP (l : Bool) (es : List En) (bs : List Br) (key : ByteArray) : run P tabLP.sum Try.f3 [] (start Try.f3 [avN l es bs, .s (.str key)] []) =
  Tree.ite (largeN es bs) (Tree.ret [AObj.own [AV.s (SV.bool l), AV.s (SV.ro (Con.typ [CK.str, CK.str] es)), AV.s (SV.ro (Con.typ [CK.str, CK.int IntKind.i64] bs))] (25 : Nat)] (AV.s (SV.bool true)))
  (Tree.ite (decide ((↑key.size : Int) > (300 : Int))) (Tree.ret [AObj.own [AV.s (SV.bool l), AV.s (SV.ro (Con.typ [CK.str, CK.str] es)), AV.s (SV.ro (Con.typ [CK.str, CK.int IntKind.i64] bs))] (25 : Nat)] (AV.s (SV.bool true)))
    (Tree.ite false (Tree.ret [AObj.own [AV.s (SV.bool l), AV.s (SV.ro (Con.typ [CK.str, CK.str] es)), AV.s (SV.ro (Con.typ [CK.str, CK.int IntKind.i64] bs))] (25 : Nat)] (AV.s (SV.bool true)))
      (Tree.need (es.length ≤ (100000 : Nat))
        (Tree.need (bs.length ≤ (100000 : Nat))
          (Tree.ite (!mayN l es bs) (Tree.need ((0 : Nat) ≤ (1000000 : Nat)) (Tree.need (srt (ksB [])) (Tree.ret [AObj.own [AV.s (SV.bool l), AV.s (SV.ro (Con.typ [CK.str, CK.str] es)), AV.s (SV.ro (Con.typ [CK.str, CK.int IntKind.i64] bs))] (25 : Nat), AObj.vec (Con.typ [CK.str, CK.str] es) (59 : Nat), AObj.vec (Con.typ [CK.str, CK.int IntKind.i64] bs) (36 : Nat), AObj.own [AV.s (SV.bool l), AV.vec (1 : Nat), AV.vec (2 : Nat)] (31 : Nat)] (AV.s (SV.bool (placeF [] key == (0 : Int)))))))
            (Tree.ite ((↑bs.length : Int) == (0 : Int)) (Tree.need ((0 : Nat) ≤ (1000000 : Nat)) (Tree.need (srt (ksB [])) (Tree.ret [AObj.own [AV.s (SV.bool l), AV.s (SV.ro (Con.typ [CK.str, CK.str] es)), AV.s (SV.ro (Con.typ [CK.str, CK.int IntKind.i64] bs))] (25 : Nat), AObj.vec (Con.typ [CK.str, CK.str] es) (59 : Nat), AObj.vec (Con.typ [CK.str, CK.int IntKind.i64] bs) (36 : Nat), AObj.own [AV.s (SV.bool l), AV.vec (1 : Nat), AV.vec (2 : Nat)] (31 : Nat)] (AV.s (SV.bool (placeF [] key == (0 : Int)))))))
              (Tree.need (bs.length ≤ (1000000 : Nat)) (Tree.need (srt (ksB bs)) (Tree.ite (decide (placeF bs key < (0 : Int))) (Tree.ret [AObj.own [AV.s (SV.bool l), AV.s (SV.ro (Con.typ [CK.str, CK.str] es)), AV.s (SV.ro (Con.typ [CK.str, CK.int IntKind.i64] bs))] (25 : Nat), AObj.vec (Con.typ [CK.str, CK.str] es) (59 : Nat), AObj.vec (Con.typ [CK.str, CK.int IntKind.i64] bs) (36 : Nat), AObj.own [AV.s (SV.bool l), AV.vec (1 : Nat), AV.vec (2 : Nat)] (31 : Nat)] (AV.s (SV.blit false))) (Tree.ite (decide (placeF bs key ≥ (↑bs.length : Int))) (Tree.ret [AObj.own [AV.s (SV.bool l), AV.s (SV.ro (Con.typ [CK.str, CK.str] es)), AV.s (SV.ro (Con.typ [CK.str, CK.int IntKind.i64] bs))] (25 : Nat), AObj.vec (Con.typ [CK.str, CK.str] es) (59 : Nat), AObj.vec (Con.typ [CK.str, CK.int IntKind.i64] bs) (36 : Nat), AObj.own [AV.s (SV.bool l), AV.vec (1 : Nat), AV.vec (2 : Nat)] (31 : Nat)] (AV.s (SV.blit false))) (Tree.ite (placeF bs key == (0 : Int)) (Tree.need (inI64 (placeF bs key + (1 : Int))) (Tree.ite (placeF bs key + (1 : Int) == (↑bs.length : Int)) (Tree.ret [AObj.own [AV.s (SV.bool l), AV.s (SV.ro (Con.typ [CK.str, CK.str] es)), AV.s (SV.ro (Con.typ [CK.str, CK.int IntKind.i64] bs))] (25 : Nat), AObj.vec (Con.typ [CK.str, CK.str] es) (59 : Nat), AObj.vec (Con.typ [CK.str, CK.int IntKind.i64] bs) (36 : Nat), AObj.own [AV.s (SV.bool l), AV.vec (1 : Nat), AV.vec (2 : Nat)] (31 : Nat)] (AV.s (SV.blit true))) (Tree.need (inI64 (placeF bs key + (1 : Int))) (Tree.need ((0 : Int) ≤ placeF bs key + (1 : Int)) (Tree.need (placeF bs key + (1 : Int) < (↑bs.length : Int)) (Tree.ret [AObj.own [AV.s (SV.bool l), AV.s (SV.ro (Con.typ [CK.str, CK.str] es)), AV.s (SV.ro (Con.typ [CK.str, CK.int IntKind.i64] bs))] (25 : Nat), AObj.vec (Con.typ [CK.str, CK.str] es) (59 : Nat), AObj.vec (Con.typ [CK.str, CK.int IntKind.i64] bs) (36 : Nat), AObj.own [AV.s (SV.bool l), AV.vec (1 : Nat), AV.vec (2 : Nat)] (31 : Nat)] (AV.s (SV.bool !(slt (bs.getD (placeF bs key + (1 : Int)).toNat (CL.d [CK.str, CK.int IntKind.i64])).fst key || decide ((bs.getD (placeF bs key + (1 : Int)).toNat (CL.d [CK.str, CK.int IntKind.i64])).fst = key)))))))))) (Tree.need ((0 : Int) ≤ placeF bs key) (Tree.need (placeF bs key < (↑bs.length : Int)) (Tree.ite (slt (bs.getD (placeF bs key).toNat (CL.d [CK.str, CK.int IntKind.i64])).fst key || decide ((bs.getD (placeF bs key).toNat (CL.d [CK.str, CK.int IntKind.i64])).fst = key)) (Tree.need (inI64 (placeF bs key + (1 : Int))) (Tree.ite (placeF bs key + (1 : Int) == (↑bs.length : Int)) (Tree.ret [AObj.own [AV.s (SV.bool l), AV.s (SV.ro (Con.typ [CK.str, CK.str] es)), AV.s (SV.ro (Con.typ [CK.str, CK.int IntKind.i64] bs))] (25 : Nat), AObj.vec (Con.typ [CK.str, CK.str] es) (59 : Nat), AObj.vec (Con.typ [CK.str, CK.int IntKind.i64] bs) (36 : Nat), AObj.own [AV.s (SV.bool l), AV.vec (1 : Nat), AV.vec (2 : Nat)] (31 : Nat)] (AV.s (SV.blit true))) (Tree.need (inI64 (placeF bs key + (1 : Int))) (Tree.need ((0 : Int) ≤ placeF bs key + (1 : Int)) (Tree.need (placeF bs key + (1 : Int) < (↑bs.length : Int)) (Tree.ret [AObj.own [AV.s (SV.bool l), AV.s (SV.ro (Con.typ [CK.str, CK.str] es)), AV.s (SV.ro (Con.typ [CK.str, CK.int IntKind.i64] bs))] (25 : Nat), AObj.vec (Con.typ [CK.str, CK.str] es) (59 : Nat), AObj.vec (Con.typ [CK.str, CK.int IntKind.i64] bs) (36 : Nat), AObj.own [AV.s (SV.bool l), AV.vec (1 : Nat), AV.vec (2 : Nat)] (31 : Nat)] (AV.s (SV.bool !(slt (bs.getD (placeF bs key + (1 : Int)).toNat (CL.d [CK.str, CK.int IntKind.i64])).fst key || decide ((bs.getD (placeF bs key + (1 : Int)).toNat (CL.d [CK.str, CK.int IntKind.i64])).fst = key)))))))))) (Tree.ret [AObj.own [AV.s (SV.bool l), AV.s (SV.ro (Con.typ [CK.str, CK.str] es)), AV.s (SV.ro (Con.typ [CK.str, CK.int IntKind.i64] bs))] (25 : Nat), AObj.vec (Con.typ [CK.str, CK.str] es) (59 : Nat), AObj.vec (Con.typ [CK.str, CK.int IntKind.i64] bs) (36 : Nat), AObj.own [AV.s (SV.bool l), AV.vec (1 : Nat), AV.vec (2 : Nat)] (31 : Nat)] (AV.s (SV.blit false))))))))))))))))) := by kernel_rfl
theorem yes_then {A B : Prop} (h : A) : (true = true → A) ∧ (true = false → B) := ⟨fun _ => h, fun h => (by cases h)⟩
theorem no_then {A B : Prop} (h : B) : (false = true → A) ∧ (false = false → B) := ⟨fun h => (by cases h), fun _ => h⟩

theorem srt_of_b {ks : List ByteArray} (h : ((List.range ks.length).all fun j => (List.range j).all fun i => slt (ks.getD i ByteArray.empty) (ks.getD j ByteArray.empty)) = true) : srt ks := by
  intro i j hij hj
  rw [all_range] at h
  have := h j hj
  rw [all_range] at this
  exact this i hij

theorem okB_step {bs : List Br} (h : okBs bs = true) {i : Nat} (hi : i + 1 < bs.length) : slt (bs.getD i dB).1 (bs.getD (i + 1) dB).1 = true := by
  have := all_range.1 h (i + 1) hi
  simp only [okB, Bool.not_eq_true', Bool.or_eq_false_iff, Bool.and_eq_false_iff, decide_eq_false_iff_not, Bool.not_eq_false'] at this
  have h2 := this.2
  rcases h2 with h2 | h2
  · omega
  · simpa using h2
theorem okE_step {es : List En} (h : okEs es = true) {i : Nat} (hi : i + 1 < es.length) : slt (es.getD i dE).1 (es.getD (i + 1) dE).1 = true := by
  have := all_range.1 h (i + 1) hi
  simp only [okE, Bool.not_eq_true', Bool.or_eq_false_iff, Bool.and_eq_false_iff, decide_eq_false_iff_not, Bool.not_eq_false'] at this
  have h2 := this.2
  rcases h2 with h2 | h2
  · omega
  · simpa using h2

theorem srt_of_step {ks : List ByteArray} (h : ∀ i, i + 1 < ks.length → slt (ks.getD i ByteArray.empty) (ks.getD (i + 1) ByteArray.empty) = true) : srt ks := by
  intro i j hij hj
  induction j with
  | zero => omega
  | succ j ih =>
    by_cases he : i = j
    · subst he; exact h i hj
    · exact slt_trans (ih (by omega) (by omega)) (h j hj)

theorem srtB {bs : List Br} (h : okBs bs = true) : srt (ksB bs) := srt_of_step fun i hi => by
  rw [List.length_map] at hi
  rw [map_getD bs keyB dB, map_getD bs keyB dB]
  exact okB_step h hi
theorem srtE {es : List En} (h : okEs es = true) : srt (ksE es) := srt_of_step fun i hi => by
  rw [List.length_map] at hi
  rw [map_getD es keyE dE, map_getD es keyE dE]
  exact okE_step h hi

theorem mayN_iff {l : Bool} {es : List En} {bs : List Br} (h : mayN l es bs = true) : (l = true → bs = []) ∧ (l = false → es = []) ∧ okEs es = true ∧ okBs bs = true := by
  simp only [mayN, Bool.and_eq_true, Bool.not_eq_true', Bool.or_eq_false_iff, Bool.and_eq_false_iff, decide_eq_false_iff_not] at h
  obtain ⟨⟨⟨h1, h2⟩, h3⟩, h4⟩ := h
  refine ⟨fun hl => ?_, fun hl => ?_, h3, h4⟩
  · subst hl
    rcases h1 with h1 | h1
    · cases h1
    · exact List.eq_nil_of_length_eq_zero (by omega)
  · subst hl
    rcases h2 with h2 | h2
    · cases h2
    · exact List.eq_nil_of_length_eq_zero (by omega)

/-! where lbP lies -/
theorem lbP_lt : ∀ {ks : List ByteArray} {key : ByteArray} {t : Nat}, t < lbP ks key → slt (ks.getD t ByteArray.empty) key = true
  | [], key, t, h => by simp [lbP] at h
  | k :: ks, key, t, h => by
    simp only [lbP, List.takeWhile] at h
    split at h
    · rename_i hk
      cases t with
      | zero => simpa using hk
      | succ t =>
        simp only [List.length_cons] at h
        simpa using lbP_lt (ks := ks) (key := key) (t := t) (by simp only [lbP]; omega)
    · simp at h
theorem lbP_at : ∀ {ks : List ByteArray} {key : ByteArray}, lbP ks key < ks.length → slt (ks.getD (lbP ks key) ByteArray.empty) key = false
  | [], key, h => by simp at h
  | k :: ks, key, h => by
    by_cases hk : slt k key = true
    · have e : lbP (k :: ks) key = lbP ks key + 1 := by simp [lbP, List.takeWhile, hk]
      rw [e] at h ⊢
      simpa using lbP_at (ks := ks) (key := key) (by simpa using h)
    · have hk : slt k key = false := by simpa using hk
      have e : lbP (k :: ks) key = 0 := by simp [lbP, List.takeWhile, hk]
      rw [e]
      simpa using hk
theorem lbP_ge {ks : List ByteArray} {key : ByteArray} (hs : srt ks) {t : Nat} (h1 : lbP ks key ≤ t) (h2 : t < ks.length) : slt (ks.getD t ByteArray.empty) key = false := by
  have h := lbP_at (ks := ks) (key := key) (by omega)
  by_cases he : t = lbP ks key
  · rw [he]; exact h
  · have h3 := hs (lbP ks key) t (by omega) h2
    cases h4 : slt (ks.getD t ByteArray.empty) key
    · rfl
    · rw [slt_trans h3 h4] at h; cases h
theorem atK_iff {ks : List ByteArray} {key : ByteArray} : atK ks key = true ↔ lbP ks key < ks.length ∧ ks.getD (lbP ks key) ByteArray.empty = key := by
  simp only [atK, decide_eq_true_eq]
  constructor
  · intro h
    have h1 := (List.getElem?_eq_some_iff.1 h).1
    exact ⟨h1, by simp [List.getD, h]⟩
  · rintro ⟨h1, h2⟩
    rw [getD_lt h1] at h2
    rw [List.getElem?_eq_getElem h1, h2]

/-- The place, told outright. -/
theorem place_spec {ks : List ByteArray} {key : ByteArray} (hs : srt ks) (h0 : ks ≠ []) : ∃ p : Nat, imax 0 (if atK ks key = true then (lbP ks key : Int) else (lbP ks key : Int) - 1) = (p : Int) ∧ p < ks.length ∧
    (p = 0 ∨ slt key (ks.getD p ByteArray.empty) = false) ∧ (∀ t, p < t → t < ks.length → slt key (ks.getD t ByteArray.empty) = true) := by
  have hlen : 0 < ks.length := by
    cases ks with
    | nil => exact absurd rfl h0
    | cons k ks => simp
  have hle := lbP_le ks key
  have up : ∀ t, lbP ks key ≤ t → t < ks.length → ks.getD t ByteArray.empty ≠ key → slt key (ks.getD t ByteArray.empty) = true := fun t h1 h2 h3 => slt_of_not (lbP_ge hs h1 h2) h3
  by_cases hk : atK ks key = true
  · obtain ⟨h1, h2⟩ := atK_iff.1 hk
    rw [if_pos hk]
    refine ⟨lbP ks key, by unfold imax; split <;> omega, h1, .inr (by rw [h2]; exact slt_irrefl key), fun t ht htl => ?_⟩
    rw [← h2]
    have := hs (lbP ks key) t ht htl
    rw [h2] at this ⊢
    exact this
  · rw [if_neg hk]
    have hne : ∀ t, lbP ks key ≤ t → t < ks.length → ks.getD t ByteArray.empty ≠ key := by
      intro t h1 h2 h3
      by_cases he : t = lbP ks key
      · subst he; exact hk (atK_iff.2 ⟨h2, h3⟩)
      · have h4 := hs (lbP ks key) t (by omega) h2
        rw [h3] at h4
        rw [lbP_at (by omega)] at h4
        cases h4
    rcases Nat.eq_zero_or_pos (lbP ks key) with hz | hz
    · refine ⟨0, by rw [hz]; rfl, hlen, .inl rfl, fun t ht htl => up t (by omega) htl (hne t (by omega) htl)⟩
    · refine ⟨lbP ks key - 1, by unfold imax; split <;> omega, by omega, .inr (slt_asymm (lbP_lt (by omega))), fun t ht htl => up t (by omega) htl (hne t (by omega) htl)⟩

theorem tabAw_ok {Z : Glob} : tabAw.Ok P Z := Tab.Ok.cons encode_ok.sum (Tab.Ok.cons size_ok.sum (Tab.Ok.cons place_ok.sum Tab.Ok.nil))
theorem awake_ok {Z : Glob} : FnOk P Z 23 [] [tBool] (fun _ => []) (fun _ => (true, ())) := by
  refine fnOk_of_safe Try.func23 (by kernel_rfl) (by kernel_rfl) ?_
  rintro ⟨⟩ _ _ X hX hz
  have h1 : smallE [(ByteArray.mk #[(97 : UInt8)], ByteArray.mk #[(49 : UInt8)], ()), (ByteArray.mk #[(98 : UInt8)], ByteArray.mk #[(50 : UInt8), (50 : UInt8)], ())] := ⟨by decide, by simp; decide⟩
  have h2 : smallB [] := ⟨by decide, by simp⟩
  have h3 : srt (ksB [(ByteArray.empty, 2, ()), (ByteArray.mk #[(98 : UInt8)], 3, ()), (ByteArray.mk #[(99 : UInt8)], 4, ())]) := srt_of_b (by kernel_rfl)
  exact go hz hX tabAw_ok Try.func23 treeAwake ⟨h1, h2, yes_then (yes_then ⟨h1, h2, yes_then ⟨by decide, h3, yes_then ⟨by decide, h3, ends_b⟩⟩⟩)⟩

theorem notLarge {es : List En} {bs : List Br} (h : largeN es bs = false) : es.length ≤ 200 ∧ bs.length ≤ 200 ∧ (∀ x ∈ es, x.1.size ≤ 300 ∧ x.2.1.size ≤ 300) ∧ ∀ x ∈ bs, x.1.size ≤ 300 := by
  simp only [largeN, Bool.or_eq_false_iff, decide_eq_false_iff_not] at h
  obtain ⟨⟨⟨h1, h2⟩, h3⟩, h4⟩ := h
  rw [List.any_eq_false] at h3 h4
  refine ⟨by omega, by omega, fun x hx => ?_, fun x hx => ?_⟩
  · obtain ⟨i, hi, rfl⟩ := List.getElem_of_mem hx
    have := h3 i (List.mem_range.2 hi)
    simp only [bigE, getD_lt hi, Bool.or_eq_true, decide_eq_true_eq, not_or] at this
    omega
  · obtain ⟨i, hi, rfl⟩ := List.getElem_of_mem hx
    have := h4 i (List.mem_range.2 hi)
    simp only [bigB, getD_lt hi, decide_eq_true_eq] at this
    omega
theorem smallE_of {es : List En} {bs : List Br} (h : largeN es bs = false) : smallE es := by
  obtain ⟨h1, _, h3, _⟩ := notLarge h
  exact ⟨by omega, fun x hx => by have := h3 x hx; omega⟩
theorem smallB_of {es : List En} {bs : List Br} (h : largeN es bs = false) : smallB bs := by
  obtain ⟨_, h1, _, h3⟩ := notLarge h
  exact ⟨by omega, fun x hx => by have := h3 x hx; omega⟩

theorem tabLP_ok {Z : Glob} : tabLP.Ok P Z := Tab.Ok.cons large_ok.sum (Tab.Ok.cons awake_ok.sum (Tab.Ok.cons given_ok.sum (Tab.Ok.cons may_ok.sum (Tab.Ok.cons place_ok.sum Tab.Ok.nil))))
theorem leafPlace_ok {Z : Glob} : FnOk P Z 3 [tRN, tStr] [tBool] (fun _ => []) (fun _ => (true, ())) := by
  refine fnOk_of_safe Try.func3 (by kernel_rfl) (by kernel_rfl) ?_
  rintro ⟨⟨(l : Bool), (es : List En), (bs : List Br), ⟨⟩⟩, (key : ByteArray), ⟨⟩⟩ _ _ X hX hz
  refine go hz hX tabLP_ok Try.func3 (treeLP l es bs key) ⟨fun _ => ends_b, fun hL => ⟨fun _ => ends_b, fun hK => no_then ?_⟩⟩
  obtain ⟨hl1, hl2, _, _⟩ := notLarge hL
  have e0 : ∀ key : ByteArray, placeF [] key = 0 := fun key => by
    show imax 0 (if atK [] key = true then ((0 : Nat) : Int) else ((0 : Nat) : Int) - 1) = 0
    split <;> rfl
  have hnil : srt (ksB []) := srt_of_b (by kernel_rfl)
  refine ⟨by omega, by omega, fun _ => ⟨by decide, hnil, ends_is (by rw [e0]; rfl)⟩, fun hm => ⟨fun _ => ⟨by decide, hnil, ends_is (by rw [e0]; rfl)⟩, fun hne => ?_⟩⟩
  obtain ⟨_, _, _, hob⟩ := mayN_iff (by simpa using hm)
  have hs := srtB hob
  have hn : (ksB bs).length = bs.length := List.length_map _
  have hne : ksB bs ≠ [] := fun h => by rw [h] at hn; simp only [List.length_nil] at hn; rw [← hn] at hne; cases hne
  obtain ⟨p, hp, hp1, hp2, hp3⟩ := place_spec (key := key) hs hne
  have hk : ∀ t, (ksB bs).getD t ByteArray.empty = (bs.getD t dB).1 := fun t => map_getD bs keyB dB t
  rw [hn] at hp1 hp3
  have hp : placeF bs key = (p : Int) := hp
  rw [hp]
  have last : ∀ (h : ¬ ((p : Int) + 1 == (bs.length : Int)) = true), (0 : Int) ≤ (p : Int) + 1 ∧ (p : Int) + 1 < (bs.length : Int) ∧ (!(slt (bs.getD ((p : Int) + 1).toNat dB).1 key || decide ((bs.getD ((p : Int) + 1).toNat dB).1 = key))) = true := by
    intro h
    have h : ¬ ((p : Int) + 1 = (bs.length : Int)) := by simpa using h
    refine ⟨by omega, by omega, ?_⟩
    rw [show ((p : Int) + 1).toNat = p + 1 from by omega]
    have := hp3 (p + 1) (by omega) (by omega)
    rw [hk] at this
    rw [slt_asymm this, decide_eq_false (Ne.symm (slt_ne this))]; rfl
  refine ⟨by omega, hs, fun h => absurd (of_decide_eq_true h) (by omega), fun _ => ⟨fun h => absurd (of_decide_eq_true h) (by omega), fun _ => ⟨fun h1 => ⟨⟨by omega, by omega⟩, fun _ => ends_bl, fun h => ?_⟩, fun h1 => ⟨by omega, by omega, fun _ => ⟨⟨by omega, by omega⟩, fun _ => ends_bl, fun h => ?_⟩, fun h => ?_⟩⟩⟩⟩
  · obtain ⟨g1, g2, g3⟩ := last (by simpa using h)
    exact ⟨⟨by omega, by omega⟩, g1, g2, ends_is (by rw [← g3]; rfl)⟩
  · obtain ⟨g1, g2, g3⟩ := last (by simpa using h)
    exact ⟨⟨by omega, by omega⟩, g1, g2, ends_is (by rw [← g3]; rfl)⟩
  · exfalso
    have h1 : p ≠ 0 := fun e => by subst e; simp at h1
    rcases hp2 with hp2 | hp2
    · exact h1 hp2
    · rw [hk] at hp2
      have h : (slt (bs.getD p dB).1 key || decide ((bs.getD p dB).1 = key)) = false := h
      simp only [Bool.or_eq_false_iff, decide_eq_false_iff_not] at h
      have := slt_of_not h.1 h.2
      rw [hp2] at this; cases this
end Lf

namespace Lf
open Go Go.Sx Go.Proofs
/-! ### equality -/
def nsEq : List (Nat × Norm) := [(4, ⟨[], [0, 1, 12, 13], 0, []⟩)]
noncomputable def cEqE (a b : List En) (i : Int) : Cfg := ⟨sl 26 [(0, .s (.ro (.typ cE a))), (1, .s (.ro (.typ cE b))), (12, .s (.int .i64 (a.length : Int))), (13, .s (.int .i64 i))], [], hd Try.f96 4, {}⟩
noncomputable def cEqB (a b : List Br) (i : Int) : Cfg := ⟨sl 26 [(0, .s (.ro (.typ cB a))), (1, .s (.ro (.typ cB b))), (12, .s (.int .i64 (a.length : Int))), (13, .s (.int .i64 i))], [], hd Try.f97 4, {}⟩
theorem treeEqE (a b : List En) : run P tab0.sum Try.f96 nsEq (start Try.f96 [.s (.ro (.typ cE a)), .s (.ro (.typ cE b))] []) =
  Tree.ite ((↑a.length : Int) != (↑b.length : Int)) (Tree.ret [] (AV.s (SV.blit false))) (Tree.at (Cfg.mk (sl (26 : Nat) [((0 : Nat), AV.s (SV.ro (Con.typ [CK.str, CK.str] a))), ((1 : Nat), AV.s (SV.ro (Con.typ [CK.str, CK.str] b))), ((12 : Nat), AV.s (SV.int IntKind.i64 (↑a.length : Int))), ((13 : Nat), AV.s (SV.int IntKind.i64 (0 : Int)))]) [] (hd Try.f96 (4 : Nat)) (Stk.mk none false (0 : Nat) [] (0 : Nat)))) := by kernel_rfl
theorem loopEqE (a b : List En) (i : Int) : run P tab0.sum Try.f96 nsEq (cEqE a b i) =
  Tree.ite (decide (i < (↑a.length : Int))) (Tree.need ((0 : Int) ≤ i) (Tree.need (i < (↑a.length : Int)) (Tree.need ((0 : Int) ≤ i) (Tree.need (i < (↑b.length : Int)) (Tree.ite (!(decide ((a.getD i.toNat (CL.d [CK.str, CK.str])).fst = (b.getD i.toNat (CL.d [CK.str, CK.str])).fst) && (decide ((a.getD i.toNat (CL.d [CK.str, CK.str])).snd.fst = (b.getD i.toNat (CL.d [CK.str, CK.str])).snd.fst) && true))) (Tree.ret [] (AV.s (SV.blit false))) (Tree.need (inI64 (i + (1 : Int))) (Tree.at (Cfg.mk (sl (26 : Nat) [((0 : Nat), AV.s (SV.ro (Con.typ [CK.str, CK.str] a))), ((1 : Nat), AV.s (SV.ro (Con.typ [CK.str, CK.str] b))), ((12 : Nat), AV.s (SV.int IntKind.i64 (↑a.length : Int))), ((13 : Nat), AV.s (SV.int IntKind.i64 (i + (1 : Int))))]) [] (hd Try.f96 (4 : Nat)) (Stk.mk none false (0 : Nat) [] (0 : Nat)))))))))) (Tree.ret [] (AV.s (SV.blit true))) := by kernel_rfl
theorem treeEqB (a b : List Br) : run P tab0.sum Try.f97 nsEq (start Try.f97 [.s (.ro (.typ cB a)), .s (.ro (.typ cB b))] []) =
  Tree.ite ((↑a.length : Int) != (↑b.length : Int)) (Tree.ret [] (AV.s (SV.blit false))) (Tree.at (Cfg.mk (sl (26 : Nat) [((0 : Nat), AV.s (SV.ro (Con.typ [CK.str, CK.int IntKind.i64] a))), ((1 : Nat), AV.s (SV.ro (Con.typ [CK.str, CK.int IntKind.i64] b))), ((12 : Nat), AV.s (SV.int IntKind.i64 (↑a.length : Int))), ((13 : Nat), AV.s (SV.int IntKind.i64 (0 : Int)))]) [] (hd Try.f97 (4 : Nat)) (Stk.mk none false (0 : Nat) [] (0 : Nat)))) := by kernel_rfl
theorem loopEqB (a b : List Br) (i : Int) : run P tab0.sum Try.f97 nsEq (cEqB a b i) =
  Tree.ite (decide (i < (↑a.length : Int))) (Tree.need ((0 : Int) ≤ i) (Tree.need (i < (↑a.length : Int)) (Tree.need ((0 : Int) ≤ i) (Tree.need (i < (↑b.length : Int)) (Tree.ite (!(decide ((a.getD i.toNat (CL.d [CK.str, CK.int IntKind.i64])).fst = (b.getD i.toNat (CL.d [CK.str, CK.int IntKind.i64])).fst) && ((a.getD i.toNat (CL.d [CK.str, CK.int IntKind.i64])).snd.fst == (b.getD i.toNat (CL.d [CK.str, CK.int IntKind.i64])).snd.fst && true))) (Tree.ret [] (AV.s (SV.blit false))) (Tree.need (inI64 (i + (1 : Int))) (Tree.at (Cfg.mk (sl (26 : Nat) [((0 : Nat), AV.s (SV.ro (Con.typ [CK.str, CK.int IntKind.i64] a))), ((1 : Nat), AV.s (SV.ro (Con.typ [CK.str, CK.int IntKind.i64] b))), ((12 : Nat), AV.s (SV.int IntKind.i64 (↑a.length : Int))), ((13 : Nat), AV.s (SV.int IntKind.i64 (i + (1 : Int))))]) [] (hd Try.f97 (4 : Nat)) (Stk.mk none false (0 : Nat) [] (0 : Nat)))))))))) (Tree.ret [] (AV.s (SV.blit true))) := by kernel_rfl
def eqEs (a b : List En) : Bool := decide (a = b)
def eqBs (a b : List Br) : Bool := decide (a = b)
abbrev sEqE := sumOf [tEs, tEs] [tBool] (fun _ => []) (fun (a, b, ()) => (eqEs a b, ()))
abbrev sEqB := sumOf [tBs, tBs] [tBool] (fun _ => []) (fun (a, b, ()) => (eqBs a b, ()))
def tabSame : Tab := [(96, sEqE), (97, sEqB)]
theorem treeSame (l l' : Bool) (a b : List En) (c d : List Br) : run P tabSame.sum Try.f33 [] (start Try.f33 [avN l a c, avN l' b d] []) =
  Tree.ite (l == l') (Tree.ite (eqEs a b) (Tree.ret [AObj.own [AV.s (SV.bool l), AV.s (SV.ro (Con.typ [CK.str, CK.str] a)), AV.s (SV.ro (Con.typ [CK.str, CK.int IntKind.i64] c))] (31 : Nat), AObj.own [AV.s (SV.bool l'), AV.s (SV.ro (Con.typ [CK.str, CK.str] b)), AV.s (SV.ro (Con.typ [CK.str, CK.int IntKind.i64] d))] (31 : Nat)] (AV.s (SV.bool (eqBs c d)))) (Tree.ret [AObj.own [AV.s (SV.bool l), AV.s (SV.ro (Con.typ [CK.str, CK.str] a)), AV.s (SV.ro (Con.typ [CK.str, CK.int IntKind.i64] c))] (31 : Nat), AObj.own [AV.s (SV.bool l'), AV.s (SV.ro (Con.typ [CK.str, CK.str] b)), AV.s (SV.ro (Con.typ [CK.str, CK.int IntKind.i64] d))] (31 : Nat)] (AV.s (SV.blit false)))) (Tree.ret [AObj.own [AV.s (SV.bool l), AV.s (SV.ro (Con.typ [CK.str, CK.str] a)), AV.s (SV.ro (Con.typ [CK.str, CK.int IntKind.i64] c))] (31 : Nat), AObj.own [AV.s (SV.bool l'), AV.s (SV.ro (Con.typ [CK.str, CK.str] b)), AV.s (SV.ro (Con.typ [CK.str, CK.int IntKind.i64] d))] (31 : Nat)] (AV.s (SV.blit false))) := by kernel_rfl

/-! ### Decode's closures -/
def tkT (k : Int) (s : ByteArray) : ByteArray := if k > (s.size : Int) then ByteArray.empty else s.extract 0 k.toNat
def tkB (k : Int) (s : ByteArray) : Bool := !decide (k > (s.size : Int))
def tkR (k : Int) (s : ByteArray) : ByteArray := if k > (s.size : Int) then s else s.extract k.toNat s.size
def specTake : Spec (Int × ByteArray) := ⟨fun x => [.s (.int .i64 x.1), .ptr 0 0], fun x => [.own [.s (.str x.2)] 9], fun x => [0 ≤ x.1], fun x => [.own [.s (.str (tkR x.1 x.2))] 9], fun x => .tup [.s (.str (tkT x.1 x.2)), .s (.bool (tkB x.1 x.2))]⟩
def mTake : List AV → RM ((Int × ByteArray) × List Nat)
  | [.s (.int .i64 k), .ptr id 0] => .look id fun
    | some (.own [.s (.str s)] _) => .ret ((k, s), [id])
    | _ => .fail "take: no text"
  | [.s (.ilit .i64 k), .ptr id 0] => .look id fun
    | some (.own [.s (.str s)] _) => .ret ((k, s), [id])
    | _ => .fail "take: no text"
  | _ => .fail "take"
theorem treeTake (k : Int) (s : ByteArray) : run P tab0.sum Try.f94 [] (start Try.f94 [.s (.int .i64 k), .ptr 0 0] [.own [.s (.str s)] 9]) =
  Tree.ite (decide (k > (↑s.size : Int))) (Tree.ret [AObj.own [AV.s (SV.str s)] (9 : Nat)] (AV.tup [AV.s (SV.str ByteArray.empty), AV.s (SV.blit false)])) (Tree.need ((0 : Int) ≤ (0 : Int)) (Tree.need ((0 : Int) ≤ k) (Tree.need (k ≤ (↑s.size : Int)) (Tree.need ((0 : Int) ≤ k) (Tree.need (k ≤ (↑s.size : Int)) (Tree.need ((↑s.size : Int) ≤ (↑s.size : Int)) (Tree.ret [AObj.own [AV.s (SV.str (s.extract k.toNat (↑s.size : Int).toNat))] (9 : Nat)] (AV.tup [AV.s (SV.str (s.extract (Int.toNat (0 : Int)) k.toNat)), AV.s (SV.blit true)])))))))) := by kernel_rfl
def rdK (s : ByteArray) : Int := byteAt (tkT 1 s) 0
def rdT (s : ByteArray) : ByteArray := if tkB 1 s = true then tkT (rdK s) (tkR 1 s) else ByteArray.empty
def rdB (s : ByteArray) : Bool := tkB 1 s && tkB (rdK s) (tkR 1 s)
def rdR (s : ByteArray) : ByteArray := if tkB 1 s = true then tkR (rdK s) (tkR 1 s) else tkR 1 s
def specText : Spec ByteArray := ⟨fun _ => [.ptr 0 0], fun s => [.own [.fn 94 [.ptr 1 0]] 150, .own [.s (.str s)] 9], fun _ => [], fun s => [.own [.fn 94 [.ptr 1 0]] 150, .own [.s (.str (rdR s))] 9], fun s => .tup [.s (.str (rdT s)), .s (.bool (rdB s))]⟩
def mText : List AV → RM (ByteArray × List Nat)
  | [.ptr id 0] => .look id fun
    | some (.own [.fn _ [.ptr j 0]] _) => .look j fun
      | some (.own [.s (.str s)] _) => .ret (s, [id, j])
      | _ => .fail "text: no text"
    | _ => .fail "text: no take"
  | _ => .fail "text"
def tabText : Tab := [(94, sumS specTake mTake)]
theorem treeText (s : ByteArray) : run P tabText.sum Try.f95 [] (start Try.f95 [.ptr 0 0] [.own [.fn 94 [.ptr 1 0]] 150, .own [.s (.str s)] 9]) =
  Tree.need (some [AV.s (SV.int IntKind.i64 (1 : Int)), AV.ptr (0 : Nat) (0 : Nat)] = some [AV.s (SV.int IntKind.i64 (1 : Int)), AV.ptr (0 : Nat) (0 : Nat)]) (Tree.need (some [AObj.own [AV.s (SV.str s)] (9 : Nat)] = some [AObj.own [AV.s (SV.str s)] (9 : Nat)]) (Tree.need ((0 : Int) ≤ (1 : Int)) (Tree.ite (!tkB (1 : Int) s) (Tree.ret [AObj.own [AV.fn (94 : Nat) [AV.ptr (1 : Nat) (0 : Nat)]] (150 : Nat), AObj.own [AV.s (SV.str (tkR (1 : Int) s))] (9 : Nat)] (AV.tup [AV.s (SV.str ByteArray.empty), AV.s (SV.blit false)])) (Tree.need ((0 : Int) ≤ (0 : Int)) (Tree.need ((0 : Int) < (↑(tkT (1 : Int) s).size : Int)) (Tree.need (inI64 (byteAt (tkT (1 : Int) s) (Int.toNat (0 : Int)))) (Tree.need (some [AV.s (SV.int IntKind.i64 (byteAt (tkT (1 : Int) s) (Int.toNat (0 : Int)))), AV.ptr (0 : Nat) (0 : Nat)] = some [AV.s (SV.int IntKind.i64 (byteAt (tkT (1 : Int) s) (Int.toNat (0 : Int)))), AV.ptr (0 : Nat) (0 : Nat)]) (Tree.need (some [AObj.own [AV.s (SV.str (tkR (1 : Int) s))] (9 : Nat)] = some [AObj.own [AV.s (SV.str (tkR (1 : Int) s))] (9 : Nat)]) (Tree.need ((0 : Int) ≤ byteAt (tkT (1 : Int) s) (Int.toNat (0 : Int))) (Tree.ret [AObj.own [AV.fn (94 : Nat) [AV.ptr (1 : Nat) (0 : Nat)]] (150 : Nat), AObj.own [AV.s (SV.str (tkR (byteAt (tkT (1 : Int) s) (Int.toNat (0 : Int))) (tkR (1 : Int) s)))] (9 : Nat)] (AV.tup [AV.s (SV.str (tkT (byteAt (tkT (1 : Int) s) (Int.toNat (0 : Int))) (tkR (1 : Int) s))), AV.s (SV.bool (tkB (byteAt (tkT (1 : Int) s) (Int.toNat (0 : Int))) (tkR (1 : Int) s)))]))))))))))) := by kernel_rfl
def tabDec : Tab := [(94, sumS specTake mTake), (95, sumS specText mText), (25, sMay)]
def nsDec : List (Nat × Norm) := [(7, ⟨[], [1, 2], 0, []⟩), (11, ⟨[], [1, 2, 4, 5, 6], 0, [(2, 1, false, .typ cE [], eE), (2, 2, false, .typ cB [], eB)]⟩), (22, ⟨[], [1, 2, 4, 5, 6, 8], 0, []⟩)]
def obZ : AObj := .own [.s (.bool false), .emp, .emp] 31
noncomputable def cDec0 (s : ByteArray) : Cfg := ⟨sl 93 [(1, .ptr 0 0), (2, .ptr 1 0)], [.own [.s (.str s)] 9, obZ], hr Try.f32 7, {}⟩
noncomputable def cDec (s : ByteArray) (l : Bool) (es : List En) (bs : List Br) : Cfg := ⟨sl 93 [(1, .ptr 0 0), (2, .ptr 1 0), (4, .ptr 2 0), (5, .ptr 3 0), (6, .fn 95 [.ptr 3 0])], [.own [.s (.str s)] 9, obZ, .own [.s (.bool l), .vec 4, .vec 5] 31, .own [.fn 94 [.ptr 0 0]] 150, .vec (.typ cE es) eE, .vec (.typ cB bs) eB], hd Try.f32 11, {}⟩
noncomputable def cDec1 (s : ByteArray) (l : Bool) (es : List En) (bs : List Br) (is : Bool) : Cfg := ⟨sl 93 [(1, .ptr 0 0), (2, .ptr 1 0), (4, .ptr 2 0), (5, .ptr 3 0), (6, .fn 95 [.ptr 3 0]), (8, .s (.bool is))], [.own [.s (.str s)] 9, obZ, .own [.s (.bool l), .vec 4, .vec 5] 31, .own [.fn 94 [.ptr 0 0]] 150, .vec (.typ cE es) eE, .vec (.typ cB bs) eB], hr Try.f32 22, {}⟩
theorem treeDec (s : ByteArray) : run P tabDec.sum Try.f32 nsDec (start Try.f32 [.s (.str s)] []) =
  Tree.ite (decide ((↑s.size : Int) > (254 : Int))) (Tree.ret [AObj.own [AV.s (SV.str s)] (9 : Nat), AObj.own [AV.s (SV.blit false), AV.emp, AV.emp] (31 : Nat)] (AV.tup [AV.agg [AV.s (SV.blit false), AV.emp, AV.emp], AV.s (SV.ilit IntKind.i64 (40 : Int))])) (Tree.ite (decide (s = ByteArray.empty)) (Tree.ret [AObj.own [AV.s (SV.str s)] (9 : Nat), AObj.own [AV.s (SV.blit false), AV.emp, AV.emp] (31 : Nat)] (AV.tup [AV.agg [AV.s (SV.blit false), AV.emp, AV.emp], AV.s (SV.ilit IntKind.i64 (8 : Int))])) (Tree.need ((0 : Int) ≤ (0 : Int)) (Tree.need ((0 : Int) < (↑s.size : Int)) (Tree.ite (byteAt s (Int.toNat (0 : Int)) != (1 : Int)) (Tree.need ((0 : Int) ≤ (0 : Int)) (Tree.need ((0 : Int) < (↑s.size : Int)) (Tree.ite (byteAt s (Int.toNat (0 : Int)) != (2 : Int)) (Tree.ret [AObj.own [AV.s (SV.str s)] (9 : Nat), AObj.own [AV.s (SV.blit false), AV.emp, AV.emp] (31 : Nat)] (AV.tup [AV.agg [AV.s (SV.blit false), AV.emp, AV.emp], AV.s (SV.ilit IntKind.i64 (4 : Int))])) (Tree.at (Cfg.mk (sl (93 : Nat) [((1 : Nat), AV.ptr (0 : Nat) (0 : Nat)), ((2 : Nat), AV.ptr (1 : Nat) (0 : Nat))]) [AObj.own [AV.s (SV.str s)] (9 : Nat), AObj.own [AV.s (SV.bool false), AV.emp, AV.emp] (31 : Nat)] (hr Try.f32 (7 : Nat)) (Stk.mk none false (0 : Nat) [] (0 : Nat))))))) (Tree.at (Cfg.mk (sl (93 : Nat) [((1 : Nat), AV.ptr (0 : Nat) (0 : Nat)), ((2 : Nat), AV.ptr (1 : Nat) (0 : Nat))]) [AObj.own [AV.s (SV.str s)] (9 : Nat), AObj.own [AV.s (SV.bool false), AV.emp, AV.emp] (31 : Nat)] (hr Try.f32 (7 : Nat)) (Stk.mk none false (0 : Nat) [] (0 : Nat)))))))) := by kernel_rfl
theorem stopDec0 (s : ByteArray) : run P tabDec.sum Try.f32 nsDec (cDec0 s) =
  Tree.need ((0 : Int) ≤ (0 : Int)) (Tree.need ((0 : Int) < (↑s.size : Int)) (Tree.need ((0 : Int) ≤ (1 : Int)) (Tree.need ((1 : Int) ≤ (↑s.size : Int)) (Tree.need ((↑s.size : Int) ≤ (↑s.size : Int)) (Tree.at (Cfg.mk (sl (93 : Nat) [((1 : Nat), AV.ptr (0 : Nat) (0 : Nat)), ((2 : Nat), AV.ptr (1 : Nat) (0 : Nat)), ((4 : Nat), AV.ptr (2 : Nat) (0 : Nat)), ((5 : Nat), AV.ptr (3 : Nat) (0 : Nat)), ((6 : Nat), AV.fn (95 : Nat) [AV.ptr (3 : Nat) (0 : Nat)])]) [AObj.own [AV.s (SV.str (s.extract (Int.toNat (1 : Int)) (↑s.size : Int).toNat))] (9 : Nat), AObj.own [AV.s (SV.bool false), AV.emp, AV.emp] (31 : Nat), AObj.own [AV.s (SV.bool (byteAt s (Int.toNat (0 : Int)) == (1 : Int))), AV.vec (4 : Nat), AV.vec (5 : Nat)] (31 : Nat), AObj.own [AV.fn (94 : Nat) [AV.ptr (0 : Nat) (0 : Nat)]] (150 : Nat), AObj.vec (Con.typ [CK.str, CK.str] []) (59 : Nat), AObj.vec (Con.typ [CK.str, CK.int IntKind.i64] []) (36 : Nat)] (hd Try.f32 (11 : Nat)) (Stk.mk none false (0 : Nat) [] (0 : Nat)))))))) := by kernel_rfl
theorem loopDec (s : ByteArray) (l : Bool) (es : List En) (bs : List Br) : run P tabDec.sum Try.f32 nsDec (cDec s l es bs) =
  Tree.ite (!decide (s = ByteArray.empty))
  (Tree.need (some [AV.ptr (0 : Nat) (0 : Nat)] = some [AV.ptr (0 : Nat) (0 : Nat)])
    (Tree.need (some [AObj.own [AV.fn (94 : Nat) [AV.ptr (1 : Nat) (0 : Nat)]] (150 : Nat), AObj.own [AV.s (SV.str s)] (9 : Nat)] = some [AObj.own [AV.fn (94 : Nat) [AV.ptr (1 : Nat) (0 : Nat)]] (150 : Nat), AObj.own [AV.s (SV.str s)] (9 : Nat)])
      (Tree.ite l
        (Tree.ite (rdB s) (Tree.need (some [AV.ptr (0 : Nat) (0 : Nat)] = some [AV.ptr (0 : Nat) (0 : Nat)]) (Tree.need (some [AObj.own [AV.fn (94 : Nat) [AV.ptr (1 : Nat) (0 : Nat)]] (150 : Nat), AObj.own [AV.s (SV.str (rdR s))] (9 : Nat)] = some [AObj.own [AV.fn (94 : Nat) [AV.ptr (1 : Nat) (0 : Nat)]] (150 : Nat), AObj.own [AV.s (SV.str (rdR s))] (9 : Nat)]) (Tree.need (es.length + (1 : Nat) ≤ (4294967296 : Nat)) (Tree.at (Cfg.mk (sl (93 : Nat) [((1 : Nat), AV.ptr (0 : Nat) (0 : Nat)), ((2 : Nat), AV.ptr (1 : Nat) (0 : Nat)), ((4 : Nat), AV.ptr (2 : Nat) (0 : Nat)), ((5 : Nat), AV.ptr (3 : Nat) (0 : Nat)), ((6 : Nat), AV.fn (95 : Nat) [AV.ptr (3 : Nat) (0 : Nat)]), ((8 : Nat), AV.s (SV.bool (rdB (rdR s))))]) [AObj.own [AV.s (SV.str (rdR (rdR s)))] (9 : Nat), AObj.own [AV.s (SV.bool false), AV.emp, AV.emp] (31 : Nat), AObj.own [AV.s (SV.bool l), AV.vec (4 : Nat), AV.vec (5 : Nat)] (31 : Nat), AObj.own [AV.fn (94 : Nat) [AV.ptr (0 : Nat) (0 : Nat)]] (150 : Nat), AObj.vec (Con.typ [CK.str, CK.str] (es ++ [(rdT s, rdT (rdR s), ())])) (59 : Nat), AObj.vec (Con.typ [CK.str, CK.int IntKind.i64] bs) (36 : Nat)] (hr Try.f32 (22 : Nat)) (Stk.mk none false (0 : Nat) [] (0 : Nat)))))))
          (Tree.ite (rdB s) (Tree.need (some [AV.s (SV.int IntKind.i64 (2 : Int)), AV.ptr (0 : Nat) (0 : Nat)] = some [AV.s (SV.int IntKind.i64 (2 : Int)), AV.ptr (0 : Nat) (0 : Nat)]) (Tree.need (some [AObj.own [AV.s (SV.str (rdR s))] (9 : Nat)] = some [AObj.own [AV.s (SV.str (rdR s))] (9 : Nat)]) (Tree.need ((0 : Int) ≤ (2 : Int)) (Tree.ite (tkB (2 : Int) (rdR s)) (Tree.need ((0 : Int) ≤ (0 : Int)) (Tree.need ((0 : Int) < (↑(tkT (2 : Int) (rdR s)).size : Int)) (Tree.need (inI64 (byteAt (tkT (2 : Int) (rdR s)) (Int.toNat (0 : Int)))) (Tree.need ((0 : Int) ≤ (8 : Int)) (Tree.need ((0 : Int) ≤ (1 : Int)) (Tree.need ((1 : Int) < (↑(tkT (2 : Int) (rdR s)).size : Int)) (Tree.need (inI64 (byteAt (tkT (2 : Int) (rdR s)) (Int.toNat (1 : Int)))) (Tree.need (bs.length + (1 : Nat) ≤ (4294967296 : Nat)) (Tree.at (Cfg.mk (sl (93 : Nat) [((1 : Nat), AV.ptr (0 : Nat) (0 : Nat)), ((2 : Nat), AV.ptr (1 : Nat) (0 : Nat)), ((4 : Nat), AV.ptr (2 : Nat) (0 : Nat)), ((5 : Nat), AV.ptr (3 : Nat) (0 : Nat)), ((6 : Nat), AV.fn (95 : Nat) [AV.ptr (3 : Nat) (0 : Nat)]), ((8 : Nat), AV.s (SV.bool (tkB (2 : Int) (rdR s))))]) [AObj.own [AV.s (SV.str (tkR (2 : Int) (rdR s)))] (9 : Nat), AObj.own [AV.s (SV.bool false), AV.emp, AV.emp] (31 : Nat), AObj.own [AV.s (SV.bool l), AV.vec (4 : Nat), AV.vec (5 : Nat)] (31 : Nat), AObj.own [AV.fn (94 : Nat) [AV.ptr (0 : Nat) (0 : Nat)]] (150 : Nat), AObj.vec (Con.typ [CK.str, CK.str] es) (59 : Nat), AObj.vec (Con.typ [CK.str, CK.int IntKind.i64] (bs ++ [(rdT s, bitop BinOp.or IntKind.i64 (IntKind.i64.wrap (byteAt (tkT (2 : Int) (rdR s)) (Int.toNat (0 : Int)) * (2 : Int) ^ min (Int.toNat (8 : Int)) IntKind.i64.bits)) (byteAt (tkT (2 : Int) (rdR s)) (Int.toNat (1 : Int))), ())])) (36 : Nat)] (hr Try.f32 (22 : Nat)) (Stk.mk none false (0 : Nat) [] (0 : Nat)))))))))))) (Tree.at (Cfg.mk (sl (93 : Nat) [((1 : Nat), AV.ptr (0 : Nat) (0 : Nat)), ((2 : Nat), AV.ptr (1 : Nat) (0 : Nat)), ((4 : Nat), AV.ptr (2 : Nat) (0 : Nat)), ((5 : Nat), AV.ptr (3 : Nat) (0 : Nat)), ((6 : Nat), AV.fn (95 : Nat) [AV.ptr (3 : Nat) (0 : Nat)]), ((8 : Nat), AV.s (SV.bool (tkB (2 : Int) (rdR s))))]) [AObj.own [AV.s (SV.str (tkR (2 : Int) (rdR s)))] (9 : Nat), AObj.own [AV.s (SV.bool false), AV.emp, AV.emp] (31 : Nat), AObj.own [AV.s (SV.bool l), AV.vec (4 : Nat), AV.vec (5 : Nat)] (31 : Nat), AObj.own [AV.fn (94 : Nat) [AV.ptr (0 : Nat) (0 : Nat)]] (150 : Nat), AObj.vec (Con.typ [CK.str, CK.str] es) (59 : Nat), AObj.vec (Con.typ [CK.str, CK.int IntKind.i64] bs) (36 : Nat)] (hr Try.f32 (22 : Nat)) (Stk.mk none false (0 : Nat) [] (0 : Nat)))))))) (Tree.at (Cfg.mk (sl (93 : Nat) [((1 : Nat), AV.ptr (0 : Nat) (0 : Nat)), ((2 : Nat), AV.ptr (1 : Nat) (0 : Nat)), ((4 : Nat), AV.ptr (2 : Nat) (0 : Nat)), ((5 : Nat), AV.ptr (3 : Nat) (0 : Nat)), ((6 : Nat), AV.fn (95 : Nat) [AV.ptr (3 : Nat) (0 : Nat)]), ((8 : Nat), AV.s (SV.bool (rdB s)))]) [AObj.own [AV.s (SV.str (rdR s))] (9 : Nat), AObj.own [AV.s (SV.bool false), AV.emp, AV.emp] (31 : Nat), AObj.own [AV.s (SV.bool l), AV.vec (4 : Nat), AV.vec (5 : Nat)] (31 : Nat), AObj.own [AV.fn (94 : Nat) [AV.ptr (0 : Nat) (0 : Nat)]] (150 : Nat), AObj.vec (Con.typ [CK.str, CK.str] es) (59 : Nat), AObj.vec (Con.typ [CK.str, CK.int IntKind.i64] bs) (36 : Nat)] (hr Try.f32 (22 : Nat)) (Stk.mk none false (0 : Nat) [] (0 : Nat))))))
        (Tree.ite (rdB s) (Tree.need (some [AV.s (SV.int IntKind.i64 (2 : Int)), AV.ptr (0 : Nat) (0 : Nat)] = some [AV.s (SV.int IntKind.i64 (2 : Int)), AV.ptr (0 : Nat) (0 : Nat)]) (Tree.need (some [AObj.own [AV.s (SV.str (rdR s))] (9 : Nat)] = some [AObj.own [AV.s (SV.str (rdR s))] (9 : Nat)]) (Tree.need ((0 : Int) ≤ (2 : Int)) (Tree.ite (tkB (2 : Int) (rdR s)) (Tree.need ((0 : Int) ≤ (0 : Int)) (Tree.need ((0 : Int) < (↑(tkT (2 : Int) (rdR s)).size : Int)) (Tree.need (inI64 (byteAt (tkT (2 : Int) (rdR s)) (Int.toNat (0 : Int)))) (Tree.need ((0 : Int) ≤ (8 : Int)) (Tree.need ((0 : Int) ≤ (1 : Int)) (Tree.need ((1 : Int) < (↑(tkT (2 : Int) (rdR s)).size : Int)) (Tree.need (inI64 (byteAt (tkT (2 : Int) (rdR s)) (Int.toNat (1 : Int)))) (Tree.need (bs.length + (1 : Nat) ≤ (4294967296 : Nat)) (Tree.at (Cfg.mk (sl (93 : Nat) [((1 : Nat), AV.ptr (0 : Nat) (0 : Nat)), ((2 : Nat), AV.ptr (1 : Nat) (0 : Nat)), ((4 : Nat), AV.ptr (2 : Nat) (0 : Nat)), ((5 : Nat), AV.ptr (3 : Nat) (0 : Nat)), ((6 : Nat), AV.fn (95 : Nat) [AV.ptr (3 : Nat) (0 : Nat)]), ((8 : Nat), AV.s (SV.bool (tkB (2 : Int) (rdR s))))]) [AObj.own [AV.s (SV.str (tkR (2 : Int) (rdR s)))] (9 : Nat), AObj.own [AV.s (SV.bool false), AV.emp, AV.emp] (31 : Nat), AObj.own [AV.s (SV.bool l), AV.vec (4 : Nat), AV.vec (5 : Nat)] (31 : Nat), AObj.own [AV.fn (94 : Nat) [AV.ptr (0 : Nat) (0 : Nat)]] (150 : Nat), AObj.vec (Con.typ [CK.str, CK.str] es) (59 : Nat), AObj.vec (Con.typ [CK.str, CK.int IntKind.i64] (bs ++ [(rdT s, bitop BinOp.or IntKind.i64 (IntKind.i64.wrap (byteAt (tkT (2 : Int) (rdR s)) (Int.toNat (0 : Int)) * (2 : Int) ^ min (Int.toNat (8 : Int)) IntKind.i64.bits)) (byteAt (tkT (2 : Int) (rdR s)) (Int.toNat (1 : Int))), ())])) (36 : Nat)] (hr Try.f32 (22 : Nat)) (Stk.mk none false (0 : Nat) [] (0 : Nat)))))))))))) (Tree.at (Cfg.mk (sl (93 : Nat) [((1 : Nat), AV.ptr (0 : Nat) (0 : Nat)), ((2 : Nat), AV.ptr (1 : Nat) (0 : Nat)), ((4 : Nat), AV.ptr (2 : Nat) (0 : Nat)), ((5 : Nat), AV.ptr (3 : Nat) (0 : Nat)), ((6 : Nat), AV.fn (95 : Nat) [AV.ptr (3 : Nat) (0 : Nat)]), ((8 : Nat), AV.s (SV.bool (tkB (2 : Int) (rdR s))))]) [AObj.own [AV.s (SV.str (tkR (2 : Int) (rdR s)))] (9 : Nat), AObj.own [AV.s (SV.bool false), AV.emp, AV.emp] (31 : Nat), AObj.own [AV.s (SV.bool l), AV.vec (4 : Nat), AV.vec (5 : Nat)] (31 : Nat), AObj.own [AV.fn (94 : Nat) [AV.ptr (0 : Nat) (0 : Nat)]] (150 : Nat), AObj.vec (Con.typ [CK.str, CK.str] es) (59 : Nat), AObj.vec (Con.typ [CK.str, CK.int IntKind.i64] bs) (36 : Nat)] (hr Try.f32 (22 : Nat)) (Stk.mk none false (0 : Nat) [] (0 : Nat)))))))) (Tree.at (Cfg.mk (sl (93 : Nat) [((1 : Nat), AV.ptr (0 : Nat) (0 : Nat)), ((2 : Nat), AV.ptr (1 : Nat) (0 : Nat)), ((4 : Nat), AV.ptr (2 : Nat) (0 : Nat)), ((5 : Nat), AV.ptr (3 : Nat) (0 : Nat)), ((6 : Nat), AV.fn (95 : Nat) [AV.ptr (3 : Nat) (0 : Nat)]), ((8 : Nat), AV.s (SV.bool (rdB s)))]) [AObj.own [AV.s (SV.str (rdR s))] (9 : Nat), AObj.own [AV.s (SV.bool false), AV.emp, AV.emp] (31 : Nat), AObj.own [AV.s (SV.bool l), AV.vec (4 : Nat), AV.vec (5 : Nat)] (31 : Nat), AObj.own [AV.fn (94 : Nat) [AV.ptr (0 : Nat) (0 : Nat)]] (150 : Nat), AObj.vec (Con.typ [CK.str, CK.str] es) (59 : Nat), AObj.vec (Con.typ [CK.str, CK.int IntKind.i64] bs) (36 : Nat)] (hr Try.f32 (22 : Nat)) (Stk.mk none false (0 : Nat) [] (0 : Nat))))))))
  (Tree.ite (!mayN l es bs) (Tree.ret [AObj.own [AV.s (SV.str s)] (9 : Nat), AObj.own [AV.s (SV.blit false), AV.emp, AV.emp] (31 : Nat), AObj.own [AV.s (SV.bool l), AV.vec (4 : Nat), AV.vec (5 : Nat)] (31 : Nat), AObj.own [AV.fn (94 : Nat) [AV.ptr (0 : Nat) (0 : Nat)]] (150 : Nat), AObj.vec (Con.typ [CK.str, CK.str] es) (59 : Nat), AObj.vec (Con.typ [CK.str, CK.int IntKind.i64] bs) (36 : Nat)] (AV.tup [AV.agg [AV.s (SV.blit false), AV.emp, AV.emp], AV.s (SV.ilit IntKind.i64 (4 : Int))])) (Tree.ret [AObj.own [AV.s (SV.str s)] (9 : Nat), AObj.own [AV.s (SV.bool l), AV.vec (4 : Nat), AV.vec (5 : Nat)] (31 : Nat), AObj.own [AV.s (SV.bool l), AV.vec (4 : Nat), AV.vec (5 : Nat)] (31 : Nat), AObj.own [AV.fn (94 : Nat) [AV.ptr (0 : Nat) (0 : Nat)]] (150 : Nat), AObj.vec (Con.typ [CK.str, CK.str] es) (59 : Nat), AObj.vec (Con.typ [CK.str, CK.int IntKind.i64] bs) (36 : Nat)] (AV.tup [AV.agg [AV.s (SV.bool l), AV.vec (4 : Nat), AV.vec (5 : Nat)], AV.s (SV.ilit IntKind.i64 (0 : Int))]))) := by kernel_rfl
theorem stopDec1 (s : ByteArray) (l : Bool) (es : List En) (bs : List Br) (is : Bool) : run P tabDec.sum Try.f32 nsDec (cDec1 s l es bs is) =
  Tree.ite (!is) (Tree.ret [AObj.own [AV.s (SV.str s)] (9 : Nat), AObj.own [AV.s (SV.blit false), AV.emp, AV.emp] (31 : Nat), AObj.own [AV.s (SV.bool l), AV.vec (4 : Nat), AV.vec (5 : Nat)] (31 : Nat), AObj.own [AV.fn (94 : Nat) [AV.ptr (0 : Nat) (0 : Nat)]] (150 : Nat), AObj.vec (Con.typ [CK.str, CK.str] es) (59 : Nat), AObj.vec (Con.typ [CK.str, CK.int IntKind.i64] bs) (36 : Nat)] (AV.tup [AV.agg [AV.s (SV.blit false), AV.emp, AV.emp], AV.s (SV.ilit IntKind.i64 (8 : Int))])) (Tree.at (Cfg.mk (sl (93 : Nat) [((1 : Nat), AV.ptr (0 : Nat) (0 : Nat)), ((2 : Nat), AV.ptr (1 : Nat) (0 : Nat)), ((4 : Nat), AV.ptr (2 : Nat) (0 : Nat)), ((5 : Nat), AV.ptr (3 : Nat) (0 : Nat)), ((6 : Nat), AV.fn (95 : Nat) [AV.ptr (3 : Nat) (0 : Nat)])]) [AObj.own [AV.s (SV.str s)] (9 : Nat), AObj.own [AV.s (SV.bool false), AV.emp, AV.emp] (31 : Nat), AObj.own [AV.s (SV.bool l), AV.vec (4 : Nat), AV.vec (5 : Nat)] (31 : Nat), AObj.own [AV.fn (94 : Nat) [AV.ptr (0 : Nat) (0 : Nat)]] (150 : Nat), AObj.vec (Con.typ [CK.str, CK.str] es) (59 : Nat), AObj.vec (Con.typ [CK.str, CK.int IntKind.i64] bs) (36 : Nat)] (hd Try.f32 (11 : Nat)) (Stk.mk none false (0 : Nat) [] (0 : Nat)))) := by kernel_rfl
theorem en_eq (x y : En) : (decide (x.1 = y.1) && (decide (x.2.1 = y.2.1) && true)) = decide (x = y) := by
  obtain ⟨a, b, ⟨⟩⟩ := x
  obtain ⟨c, d, ⟨⟩⟩ := y
  by_cases h1 : a = c <;> by_cases h2 : b = d <;> simp [h1, h2]
theorem br_eq (x y : Br) : (decide (x.1 = y.1) && ((x.2.1 == y.2.1) && true)) = decide (x = y) := by
  obtain ⟨a, b, ⟨⟩⟩ := x
  obtain ⟨c, d, ⟨⟩⟩ := y
  by_cases h1 : a = c <;> by_cases h2 : b = d <;> simp [h1, h2]

theorem eqE_ok {Z : Glob} : FnOk P Z 96 [tEs, tEs] [tBool] (fun _ => []) (fun (a, b, ()) => (eqEs a b, ())) := by
  refine fnOk_of_safe Try.func96 (by kernel_rfl) (by kernel_rfl) ?_
  rintro ⟨(a : List En), (b : List En), ⟨⟩⟩ ⟨hla, hlb, _⟩ _ X hX hz
  have hla : a.length ≤ 9223372036854775807 := hla
  show Safe P 96 X (Ends [tBool] (eqEs a b, ())) _
  refine go hz hX Tab.Ok.nil Try.func96 (treeEqE a b) ⟨fun h => ends_isl ?_, fun h => ?_⟩
  · exact decide_eq_false (fun e => by subst e; simp at h)
  · have hl : a.length = b.length := Int.ofNat_inj.1 (by simpa using h)
    have loop : ∀ (n k : Nat), k + n = a.length → (∀ j, j < k → a.getD j dE = b.getD j dE) → Safe P 96 X (Ends [tBool] (eqEs a b, ())) (cEqE a b (k : Int)) := by
      intro n
      induction n with
      | zero =>
        intro k hk hp
        refine go hz hX Tab.Ok.nil Try.func96 (loopEqE a b k) ⟨fun h => absurd (of_decide_eq_true h) (by omega), fun h => ends_isl (decide_eq_true ?_)⟩
        refine List.ext_getElem hl fun j h1 h2 => ?_
        have := hp j (by omega)
        rwa [getD_lt h1, getD_lt h2] at this
      | succ n ih =>
        intro k hk hp
        refine go hz hX Tab.Ok.nil Try.func96 (loopEqE a b k) ⟨fun h => ⟨by omega, by omega, by omega, by omega, ?_⟩, fun h => absurd (of_decide_eq_false h) (by omega)⟩
        simp only [Int.toNat_natCast]
        have e := en_eq (a.getD k dE) (b.getD k dE)
        refine ⟨fun h1 => ends_isl ?_, fun h1 => ⟨⟨by omega, by omega⟩, ih (k + 1) (by omega) (fun j hj => ?_)⟩⟩
        · have h1 : (!decide (a.getD k dE = b.getD k dE)) = true := by rw [← e]; exact h1
          refine decide_eq_false (fun e => ?_)
          subst e; simp at h1
        · by_cases hj2 : j = k
          · subst hj2
            have h1 : (!decide (a.getD j dE = b.getD j dE)) = false := by rw [← e]; exact h1
            simpa using h1
          · exact hp j (by omega)
    exact loop a.length 0 (by omega) (fun j hj => by omega)

theorem eqB_ok {Z : Glob} : FnOk P Z 97 [tBs, tBs] [tBool] (fun _ => []) (fun (a, b, ()) => (eqBs a b, ())) := by
  refine fnOk_of_safe Try.func97 (by kernel_rfl) (by kernel_rfl) ?_
  rintro ⟨(a : List Br), (b : List Br), ⟨⟩⟩ ⟨hla, hlb, _⟩ _ X hX hz
  have hla : a.length ≤ 9223372036854775807 := hla
  show Safe P 97 X (Ends [tBool] (eqBs a b, ())) _
  refine go hz hX Tab.Ok.nil Try.func97 (treeEqB a b) ⟨fun h => ends_isl ?_, fun h => ?_⟩
  · exact decide_eq_false (fun e => by subst e; simp at h)
  · have hl : a.length = b.length := Int.ofNat_inj.1 (by simpa using h)
    have loop : ∀ (n k : Nat), k + n = a.length → (∀ j, j < k → a.getD j dB = b.getD j dB) → Safe P 97 X (Ends [tBool] (eqBs a b, ())) (cEqB a b (k : Int)) := by
      intro n
      induction n with
      | zero =>
        intro k hk hp
        refine go hz hX Tab.Ok.nil Try.func97 (loopEqB a b k) ⟨fun h => absurd (of_decide_eq_true h) (by omega), fun h => ends_isl (decide_eq_true ?_)⟩
        refine List.ext_getElem hl fun j h1 h2 => ?_
        have := hp j (by omega)
        rwa [getD_lt h1, getD_lt h2] at this
      | succ n ih =>
        intro k hk hp
        refine go hz hX Tab.Ok.nil Try.func97 (loopEqB a b k) ⟨fun h => ⟨by omega, by omega, by omega, by omega, ?_⟩, fun h => absurd (of_decide_eq_false h) (by omega)⟩
        simp only [Int.toNat_natCast]
        have e := br_eq (a.getD k dB) (b.getD k dB)
        refine ⟨fun h1 => ends_isl ?_, fun h1 => ⟨⟨by omega, by omega⟩, ih (k + 1) (by omega) (fun j hj => ?_)⟩⟩
        · have h1 : (!decide (a.getD k dB = b.getD k dB)) = true := by rw [← e]; exact h1
          refine decide_eq_false (fun e => ?_)
          subst e; simp at h1
        · by_cases hj2 : j = k
          · subst hj2
            have h1 : (!decide (a.getD j dB = b.getD j dB)) = false := by rw [← e]; exact h1
            simpa using h1
          · exact hp j (by omega)
    exact loop a.length 0 (by omega) (fun j hj => by omega)

def sameN (l : Bool) (es : List En) (bs : List Br) (l' : Bool) (es' : List En) (bs' : List Br) : Bool := (l == l') && (eqEs es es' && eqBs bs bs')
theorem same_ok {Z : Glob} : FnOk P Z 33 [tNode, tNode] [tBool] (fun _ => []) (fun ((l, es, bs, ()), (l', es', bs', ()), ()) => (sameN l es bs l' es' bs', ())) := by
  refine fnOk_of_safe Try.func33 (by kernel_rfl) (by kernel_rfl) ?_
  rintro ⟨⟨(l : Bool), (es : List En), (bs : List Br), ⟨⟩⟩, ⟨(l' : Bool), (es' : List En), (bs' : List Br), ⟨⟩⟩, ⟨⟩⟩ _ _ X hX hz
  refine go hz hX (Tab.Ok.cons eqE_ok.sum (Tab.Ok.cons eqB_ok.sum Tab.Ok.nil)) Try.func33 (treeSame l l' es es' bs bs') ⟨fun h1 => ⟨fun h2 => ends_is ?_, fun h2 => ends_isl ?_⟩, fun h1 => ends_isl ?_⟩
  · show ((l == l') && (eqEs es es' && eqBs bs bs')) = _
    rw [h1, h2]; rfl
  · show ((l == l') && (eqEs es es' && eqBs bs bs')) = _
    rw [h1, h2]; rfl
  · show ((l == l') && (eqEs es es' && eqBs bs bs')) = _
    rw [h1]; rfl

/-! ### bytes taken off -/
theorem size_extract' (s : ByteArray) (i j : Nat) : (s.extract i j).size = min j s.size - i := by simp
theorem byteAt_range (s : ByteArray) (i : Nat) : 0 ≤ byteAt s i ∧ byteAt s i ≤ 255 := by
  have := (s.data.toList.getD i 0).toNat_lt
  unfold byteAt
  omega
theorem tkB_iff {k : Int} {s : ByteArray} : tkB k s = true ↔ k ≤ (s.size : Int) := by simp [tkB]
theorem tkT_size {k : Int} {s : ByteArray} (h0 : 0 ≤ k) (h : tkB k s = true) : ((tkT k s).size : Int) = k := by
  have h := tkB_iff.1 h
  rw [tkT, if_neg (by omega), size_extract']
  omega
theorem tkR_size {k : Int} {s : ByteArray} (h0 : 0 ≤ k) (h : tkB k s = true) : ((tkR k s).size : Int) = s.size - k := by
  have h := tkB_iff.1 h
  rw [tkR, if_neg (by omega), size_extract']
  omega
theorem tkR_le (k : Int) (s : ByteArray) : (tkR k s).size ≤ s.size := by
  unfold tkR
  split
  · exact Nat.le_refl _
  · rw [size_extract']; omega
theorem take_ok {Z : Glob} : FnS P Z 94 specTake := by
  refine fnS_of_safe Try.func94 (by kernel_rfl) (fun x => Nat.le_of_ble_eq_true (by kernel_rfl)) ?_
  rintro ⟨(k : Int), (s : ByteArray)⟩ ⟨(h1 : 0 ≤ k), _⟩ X hX hz
  refine goS hz hX (by simp) Tab.Ok.nil Try.func94 (treeTake k s) ⟨fun h => ⟨⟨[], [0], 1, []⟩, Nat.le_refl _, ?_⟩, fun h => ?_⟩
  · show Norm.run _ _ = some ⟨[.tup [.s (.str (tkT k s)), .s (.bool (tkB k s))]], [.own [.s (.str (tkR k s))] 9], [], {}⟩
    rw [tkT, tkR, tkB, if_pos (of_decide_eq_true h), if_pos (of_decide_eq_true h), h]
    kernel_rfl
  · have h2 := of_decide_eq_false h
    refine ⟨by omega, h1, by omega, h1, by omega, by omega, ⟨[], [0], 1, []⟩, Nat.le_refl _, ?_⟩
    show Norm.run _ _ = some ⟨[.tup [.s (.str (tkT k s)), .s (.bool (tkB k s))]], [.own [.s (.str (tkR k s))] 9], [], {}⟩
    rw [tkT, tkR, tkB, if_neg h2, if_neg h2, h]
    kernel_rfl
theorem tabText_ok {Z : Glob} : tabText.Ok P Z := Tab.Ok.cons (take_ok.sum mTake) Tab.Ok.nil
theorem text_ok {Z : Glob} : FnS P Z 95 specText := by
  refine fnS_of_safe Try.func95 (by kernel_rfl) (fun x => Nat.le_of_ble_eq_true (by kernel_rfl)) ?_
  rintro (s : ByteArray) _ X hX hz
  refine goS hz hX (by simp) tabText_ok Try.func95 (treeText s) ⟨rfl, rfl, by decide, fun h => ⟨⟨[], [0], 2, []⟩, Nat.le_refl _, ?_⟩, fun h => ?_⟩
  · have h : tkB 1 s = false := by simpa using h
    show Norm.run _ _ = some ⟨[.tup [.s (.str (rdT s)), .s (.bool (rdB s))]], [.own [.fn 94 [.ptr 1 0]] 150, .own [.s (.str (rdR s))] 9], [], {}⟩
    rw [rdT, rdR, rdB, h]
    kernel_rfl
  · have h : tkB 1 s = true := by simpa using h
    have h1 := tkT_size (by omega) h
    have h2 := byteAt_range (tkT 1 s) 0
    refine ⟨by decide, by omega, ⟨by show _ ≤ byteAt (tkT 1 s) 0; omega, by show byteAt (tkT 1 s) 0 ≤ _; omega⟩, rfl, rfl, h2.1, ⟨[], [0], 2, []⟩, Nat.le_refl _, ?_⟩
    show Norm.run _ _ = some ⟨[.tup [.s (.str (rdT s)), .s (.bool (rdB s))]], [.own [.fn 94 [.ptr 1 0]] 150, .own [.s (.str (rdR s))] 9], [], {}⟩
    rw [rdT, rdR, rdB, h]
    kernel_rfl
theorem tabDec_ok {Z : Glob} : tabDec.Ok P Z := Tab.Ok.cons (take_ok.sum mTake) (Tab.Ok.cons (text_ok.sum mText) (Tab.Ok.cons may_ok.sum Tab.Ok.nil))

theorem rdR_size {s : ByteArray} (h : rdB s = true) : (rdR s).size + 1 ≤ s.size := by
  simp only [rdB, Bool.and_eq_true] at h
  have h1 := tkR_size (by omega) h.1
  have h2 := tkR_le (rdK s) (tkR 1 s)
  rw [rdR, if_pos h.1]
  omega

/-! ### Decode -/
def pgOf (t : ByteArray) : Int := bitop BinOp.or IntKind.i64 (IntKind.i64.wrap (byteAt t (Int.toNat 0) * 2 ^ min (Int.toNat 8) IntKind.i64.bits)) (byteAt t (Int.toNat 1))
def decL (l : Bool) : Nat → ByteArray → List En → List Br → Int × List En × List Br
  | 0, _, es, bs => if mayN l es bs = true then (0, es, bs) else (4, [], [])
  | n + 1, s, es, bs =>
    if s = ByteArray.empty then (if mayN l es bs = true then (0, es, bs) else (4, [], []))
    else if rdB s = false then (8, [], [])
    else if l = true then (if rdB (rdR s) = true then decL l n (rdR (rdR s)) (es ++ [(rdT s, rdT (rdR s), ())]) bs else (8, [], []))
    else (if tkB 2 (rdR s) = true then decL l n (tkR 2 (rdR s)) es (bs ++ [(rdT s, pgOf (tkT 2 (rdR s)), ())]) else (8, [], []))
def decA (s : ByteArray) : Int × List En × List Br :=
  if (s.size : Int) > 254 then (40, [], []) else if s = ByteArray.empty then (8, [], []) else if byteAt s 0 ≠ 1 ∧ byteAt s 0 ≠ 2 then (4, [], [])
  else decL (byteAt s 0 == 1) s.size (s.extract 1 s.size) [] []
def decC (s : ByteArray) : Int := (decA s).1
def decE (s : ByteArray) : List En := (decA s).2.1
def decB (s : ByteArray) : List Br := (decA s).2.2
def decLf (s : ByteArray) : Bool := decide (decC s = 0) && (byteAt s 0 == 1)
abbrev decR (l : Bool) (r : Int × List En × List Br) : AL [tNode, tInt] := ((decide (r.1 = 0) && l, r.2.1, r.2.2, ()), r.1, ())
abbrev decY (s : ByteArray) : AL [tNode, tInt] := ((decLf s, decE s, decB s, ()), decC s, ())

theorem dec_ok {Z : Glob} : FnOk P Z 32 [tStr] [tNode, tInt] (fun _ => []) (fun (s, ()) => ((decLf s, decE s, decB s, ()), decC s, ())) := by
  refine fnOk_of_safe Try.func32 (by kernel_rfl) (by kernel_rfl) ?_
  rintro ⟨(s0 : ByteArray), ⟨⟩⟩ _ _ X hX hz
  show Safe P 32 X (Ends [tNode, tInt] (decY s0)) _
  have loop : ∀ (l : Bool) (n : Nat) (s : ByteArray) (es : List En) (bs : List Br), s.size ≤ n → es.length + bs.length + s.size ≤ 254 → decR l (decL l n s es bs) = decY s0 →
      Safe P 32 X (Ends [tNode, tInt] (decY s0)) (cDec s l es bs) := by
    intro l n
    induction n with
    | zero =>
      intro s es bs hn hb hy
      obtain rfl := size_zero (Nat.le_zero.1 hn)
      refine go hz hX tabDec_ok Try.func32 (loopDec ByteArray.empty l es bs) ⟨fun h => absurd h (by simp), fun _ => ⟨fun h => ?_, fun h => ?_⟩⟩
      · refine ends_eq ((false, [], [], ()), 4, ()) ?_ (by kernel_rfl)
        rw [← hy, decL, if_neg (by simpa using h)]; rfl
      · refine ends_eq ((l, es, bs, ()), 0, ()) ?_ (by kernel_rfl)
        rw [← hy, decL, if_pos (by simpa using h)]; rfl
    | succ n ih =>
      intro s es bs hn hb hy
      refine go hz hX tabDec_ok Try.func32 (loopDec s l es bs) ⟨fun h => ?_, fun h => ?_⟩
      · have h : s ≠ ByteArray.empty := by simpa using h
        have bad : decL l (n + 1) s es bs = (8, [], []) → ∀ (s' : ByteArray) (es' : List En) (bs' : List Br), Safe P 32 X (Ends [tNode, tInt] (decY s0)) (cDec1 s' l es' bs' false) := fun e s' es' bs' => by
          refine go hz hX tabDec_ok Try.func32 (stopDec1 s' l es' bs' false) ⟨fun _ => ?_, fun h => by cases h⟩
          refine ends_eq ((false, [], [], ()), 8, ()) ?_ (by kernel_rfl)
          rw [← hy, e]; rfl
        have cont : ∀ (s' : ByteArray) (es' : List En) (bs' : List Br), s'.size ≤ n → es'.length + bs'.length + s'.size ≤ 254 → decR l (decL l n s' es' bs') = decY s0 → Safe P 32 X (Ends [tNode, tInt] (decY s0)) (cDec1 s' l es' bs' true) := fun s' es' bs' h1 h2 h3 => by
          refine go hz hX tabDec_ok Try.func32 (stopDec1 s' l es' bs' true) ⟨fun h => (by cases h), fun _ => ih s' es' bs' h1 h2 h3⟩
        have hr := fun hB => rdR_size (s := s) hB
        refine ⟨rfl, rfl, fun hl => ⟨fun hB => ⟨rfl, rfl, by omega, ?_⟩, fun hB => ?_⟩, fun hl => ⟨fun hB => ⟨rfl, rfl, by decide, fun h2 => ?_, fun h2 => ?_⟩, fun hB => ?_⟩⟩
        · subst hl
          have hr := hr hB
          cases h2 : rdB (rdR s)
          · exact bad (by rw [decL, if_neg h, if_neg (by simp [hB]), if_pos rfl, if_neg (by simp [h2])]) _ _ _
          · have := rdR_size h2
            exact cont _ _ _ (by omega) (by simp only [List.length_append, List.length_cons, List.length_nil]; omega) (by rw [← hy, decL, if_neg h, if_neg (by simp [hB]), if_pos rfl, if_pos h2])
        · exact ⟨fun h => (by rw [hB] at h; cases h), fun _ => by rw [hB]; exact bad (by rw [decL, if_neg h, if_pos hB]) _ _ _⟩
        · subst hl
          have hr := hr hB
          have e1 := tkT_size (by decide) h2
          have e2 := tkR_size (by decide) h2
          have b0 := byteAt_range (tkT 2 (rdR s)) 0
          have b1 := byteAt_range (tkT 2 (rdR s)) 1
          refine ⟨by decide, by omega, ⟨by show _ ≤ byteAt _ 0; omega, by show byteAt _ 0 ≤ _; omega⟩, by decide, by decide, by omega, ⟨by show _ ≤ byteAt _ 1; omega, by show byteAt _ 1 ≤ _; omega⟩, by omega, ?_⟩
          rw [h2]
          exact cont _ _ _ (by omega) (by simp only [List.length_append, List.length_cons, List.length_nil]; omega) (by rw [← hy, decL, if_neg h, if_neg (by simp [hB]), if_neg (by simp), if_pos h2]; rfl)
        · subst hl
          rw [h2]
          exact bad (by rw [decL, if_neg h, if_neg (by simp [hB]), if_neg (by simp), if_neg (by simp [h2])]) _ _ _
        · rw [hB]
          exact bad (by rw [decL, if_neg h, if_pos hB]) _ _ _
      · have h : s = ByteArray.empty := by simpa using h
        refine ⟨fun h2 => ?_, fun h2 => ?_⟩
        · refine ends_eq ((false, [], [], ()), 4, ()) ?_ (by kernel_rfl)
          rw [← hy, decL, if_pos h, if_neg (by simpa using h2)]; rfl
        · refine ends_eq ((l, es, bs, ()), 0, ()) ?_ (by kernel_rfl)
          rw [← hy, decL, if_pos h, if_pos (by simpa using h2)]; rfl
  have first : (s0.size : Int) ≤ 254 → s0 ≠ ByteArray.empty → ¬ (byteAt s0 0 ≠ 1 ∧ byteAt s0 0 ≠ 2) → Safe P 32 X (Ends [tNode, tInt] (decY s0)) (cDec0 s0) := fun h1 h2 h3 => by
    have hp : 0 < s0.size := Nat.pos_of_ne_zero fun e => h2 (size_zero e)
    refine go hz hX tabDec_ok Try.func32 (stopDec0 s0) ⟨by omega, by omega, by omega, by omega, by omega, ?_⟩
    have e : decA s0 = decL (byteAt s0 0 == 1) s0.size (s0.extract 1 s0.size) [] [] := by rw [decA, if_neg (by omega), if_neg h2, if_neg h3]
    refine loop (byteAt s0 0 == 1) s0.size (s0.extract 1 s0.size) [] [] (by rw [size_extract']; omega) (by rw [size_extract']; simp only [List.length_nil]; omega) ?_
    rw [← e]; rfl
  have err : ∀ (c : Int) (hc : decide (c = 0) = false), decA s0 = (c, [], []) → decY s0 = ((false, [], [], ()), c, ()) := fun c hc e => by
    show ((decide ((decA s0).1 = 0) && (byteAt s0 0 == 1), (decA s0).2.1, (decA s0).2.2, ()), (decA s0).1, ()) = _
    rw [e, hc]; rfl
  refine go hz hX tabDec_ok Try.func32 (treeDec s0) ⟨fun h => ends_eq ((false, [], [], ()), 40, ()) (err 40 rfl ?_) (by kernel_rfl), fun h => ⟨fun h2 => ends_eq ((false, [], [], ()), 8, ()) (err 8 rfl ?_) (by kernel_rfl), fun h2 => ?_⟩⟩
  · rw [decA, if_pos (of_decide_eq_true h)]
  · rw [decA, if_neg (of_decide_eq_false h), if_pos (of_decide_eq_true h2)]
  · have h := of_decide_eq_false h
    have h2 := of_decide_eq_false h2
    have hp : 0 < s0.size := Nat.pos_of_ne_zero fun e => h2 (size_zero e)
    refine ⟨by omega, by omega, fun h3 => ⟨by omega, by omega, fun h4 => ends_eq ((false, [], [], ()), 4, ()) (err 4 rfl ?_) (by kernel_rfl), fun h4 => first (by omega) h2 ?_⟩, fun h3 => first (by omega) h2 ?_⟩
    · have h3 : byteAt s0 0 ≠ 1 := by simpa using h3
      have h4 : byteAt s0 0 ≠ 2 := by simpa using h4
      rw [decA, if_neg h, if_neg h2, if_pos ⟨h3, h4⟩]
    · have h4 : byteAt s0 0 = 2 := by simpa using h4
      exact fun e => e.2 h4
    · have h3 : byteAt s0 0 = 1 := by simpa using h3
      exact fun e => e.1 h3
end Lf

namespace Lf
open Go Go.Sx Go.Proofs
/-! What Encode writes Decode reads, and the other way round. -/
abbrev U (s : ByteArray) : List UInt8 := s.data.toList
theorem U_len (s : ByteArray) : (U s).length = s.size := Array.length_toList
theorem U_extract (s : ByteArray) (i j : Nat) : U (s.extract i j) = ((U s).drop i).take (j - i) := by
  rw [U, ByteArray.data_extract, Array.toList_extract, List.extract_eq_take_drop]
theorem U_empty : U ByteArray.empty = [] := rfl
theorem U_nil {s : ByteArray} (h : U s = []) : s = ByteArray.empty := ba_ext h

theorem take_of {s : ByteArray} {a b : List UInt8} {k : Int} (h : U s = a ++ b) (hk : (a.length : Int) = k) : tkB k s = true ∧ U (tkT k s) = a ∧ U (tkR k s) = b := by
  have hl := U_len s
  rw [h, List.length_append] at hl
  refine ⟨tkB_iff.2 (by omega), ?_, ?_⟩
  · rw [tkT, if_neg (by omega), U_extract, h, show k.toNat - 0 = a.length from by omega]; simp
  · rw [tkR, if_neg (by omega), U_extract, h, show k.toNat = a.length from by omega, List.drop_left, List.take_of_length_le (by omega)]
theorem of_take {s : ByteArray} {k : Int} (h0 : 0 ≤ k) (h : tkB k s = true) : U s = U (tkT k s) ++ U (tkR k s) ∧ ((U (tkT k s)).length : Int) = k := by
  have hk := tkB_iff.1 h
  have hl := U_len s
  refine ⟨?_, by rw [U_len]; exact tkT_size h0 h⟩
  rw [tkT, tkR, if_neg (by omega), if_neg (by omega), U_extract, U_extract, List.drop_zero, Nat.sub_zero, List.take_of_length_le (l := (U s).drop _) (by simp [hl]), List.take_append_drop]

def txtU (s : ByteArray) : List UInt8 := UInt8.ofNat s.size :: U s
theorem byteAt_cons {s : ByteArray} {a : UInt8} {r : List UInt8} (h : U s = a :: r) : byteAt s 0 = (a.toNat : Int) := by
  simp [byteAt, show s.data.toList = a :: r from h]
theorem byteAt_cons1 {s : ByteArray} {a b : UInt8} {r : List UInt8} (h : U s = a :: b :: r) : byteAt s 1 = (b.toNat : Int) := by
  simp [byteAt, show s.data.toList = a :: b :: r from h]

theorem text_of {s k : ByteArray} {r : List UInt8} (h : U s = txtU k ++ r) (hk : k.size ≤ 255) : rdB s = true ∧ rdT s = k ∧ U (rdR s) = r := by
  obtain ⟨h1, h2, h3⟩ := take_of (s := s) (a := [UInt8.ofNat k.size]) (b := U k ++ r) (k := 1) (by rw [h]; rfl) rfl
  have e : rdK s = (k.size : Int) := by rw [rdK, byteAt_cons h2]; simp; omega
  obtain ⟨g1, g2, g3⟩ := take_of (s := tkR 1 s) (k := rdK s) h3 (by rw [U_len, e])
  refine ⟨by simp [rdB, h1, g1], ?_, ?_⟩
  · rw [rdT, if_pos h1]; exact ba_ext g2
  · rw [rdR, if_pos h1]; exact g3
theorem of_text {s : ByteArray} (h : rdB s = true) : U s = txtU (rdT s) ++ U (rdR s) ∧ (rdT s).size ≤ 255 := by
  simp only [rdB, Bool.and_eq_true] at h
  obtain ⟨h1, h2⟩ := h
  obtain ⟨g1, g2⟩ := of_take (by decide) h1
  have hr := byteAt_range (tkT 1 s) 0
  obtain ⟨g3, g4⟩ := of_take (k := rdK s) hr.1 h2
  have g2 : (U (tkT 1 s)).length = 1 := by omega
  obtain ⟨a, ha⟩ := List.length_eq_one_iff.1 g2
  have e : rdK s = (a.toNat : Int) := byteAt_cons ha
  rw [rdT, rdR, if_pos h1, if_pos h1]
  have hs : (tkT (rdK s) (tkR 1 s)).size = a.toNat := by rw [← U_len]; omega
  refine ⟨?_, by rw [hs]; have := a.toNat_lt; omega⟩
  rw [g1, ha, g3, txtU, hs]
  simp

def encEU (x : En) : List UInt8 := txtU x.1 ++ txtU x.2.1
def encBU (x : Br) : List UInt8 := txtU x.1 ++ [UInt8.ofNat (x.2.1 / 256).toNat, UInt8.ofNat (x.2.1 % 256).toNat]

theorem or_bytes {a b : Int} (ha : 0 ≤ a ∧ a ≤ 255) (hb : 0 ≤ b ∧ b ≤ 255) : bitop BinOp.or IntKind.i64 (IntKind.i64.wrap (a * 2 ^ min (Int.toNat 8) IntKind.i64.bits)) b = a * 256 + b := by
  have e1 : IntKind.i64.wrap (a * 2 ^ min (Int.toNat 8) IntKind.i64.bits) = a * 256 := by
    rw [show (2 : Int) ^ min (Int.toNat 8) IntKind.i64.bits = 256 from by decide]
    exact wrap_i64_in ⟨by omega, by omega⟩
  rw [e1]
  obtain ⟨x, rfl⟩ := Int.eq_ofNat_of_zero_le ha.1
  obtain ⟨y, rfl⟩ := Int.eq_ofNat_of_zero_le hb.1
  show IntKind.i64.wrap ((BitVec.ofInt 64 _ ||| BitVec.ofInt 64 _).toNat : Int) = _
  have e2 : (BitVec.ofInt 64 ((x : Int) * 256)).toNat = 2 ^ 8 * x := by rw [BitVec.toNat_ofInt]; omega
  have e3 : (BitVec.ofInt 64 (y : Int)).toNat = y := by rw [BitVec.toNat_ofInt]; omega
  rw [BitVec.toNat_or, e2, e3, ← Nat.two_pow_add_eq_or_of_lt (by omega), wrap_i64_in ⟨by omega, by omega⟩]
  omega
theorem pg_of {t : ByteArray} {a b : UInt8} (h : U t = [a, b]) : pgOf t = (a.toNat : Int) * 256 + b.toNat := by
  have h1 := a.toNat_lt
  have h2 := b.toNat_lt
  have e0 := byteAt_cons h
  have e1 := byteAt_cons1 h
  rw [pgOf, show byteAt t (Int.toNat 0) = _ from e0, show byteAt t (Int.toNat 1) = _ from e1]
  exact or_bytes ⟨by omega, by omega⟩ ⟨by omega, by omega⟩

theorem decL_end {l : Bool} {n : Nat} {s : ByteArray} {es : List En} {bs : List Br} (h : U s = []) : decL l n s es bs = if mayN l es bs = true then (0, es, bs) else (4, [], []) := by
  cases n with
  | zero => rfl
  | succ n => rw [decL, if_pos (U_nil h)]

theorem dec_leaf : ∀ (n : Nat) (es2 : List En) (s : ByteArray) (es : List En) (bs : List Br), s.size ≤ n → U s = es2.flatMap encEU → (∀ x ∈ es2, x.1.size ≤ 255 ∧ x.2.1.size ≤ 255) → decL true n s es bs = if mayN true (es ++ es2) bs = true then (0, es ++ es2, bs) else (4, [], [])
  | n, [], s, es, bs, _, hu, _ => by rw [decL_end hu, List.append_nil]
  | 0, x :: es2, s, es, bs, hn, hu, _ => by
    have := U_len s
    rw [hu] at this
    simp [encEU, txtU] at this
    omega
  | n + 1, x :: es2, s, es, bs, hn, hu, hx => by
    obtain ⟨k, v, ⟨⟩⟩ := x
    have hx0 := hx (k, v, ()) (by simp)
    have h0 : s ≠ ByteArray.empty := fun e => by subst e; simp [U_empty, encEU, txtU] at hu
    obtain ⟨a1, a2, a3⟩ := text_of (s := s) (k := k) (r := txtU v ++ es2.flatMap encEU) (by rw [hu]; simp [encEU]) hx0.1
    obtain ⟨b1, b2, b3⟩ := text_of a3 hx0.2
    have c1 := rdR_size a1
    have c2 := rdR_size b1
    rw [decL, if_neg h0, if_neg (by simp [a1]), if_pos rfl, if_pos b1, a2, b2, dec_leaf n es2 _ _ bs (by omega) b3 (fun y hy => hx y (by simp [hy]))]
    simp
theorem dec_branch : ∀ (n : Nat) (bs2 : List Br) (s : ByteArray) (es : List En) (bs : List Br), s.size ≤ n → U s = bs2.flatMap encBU → (∀ x ∈ bs2, x.1.size ≤ 255 ∧ 0 ≤ x.2.1 ∧ x.2.1 < 65536) → decL false n s es bs = if mayN false es (bs ++ bs2) = true then (0, es, bs ++ bs2) else (4, [], [])
  | n, [], s, es, bs, _, hu, _ => by rw [decL_end hu, List.append_nil]
  | 0, x :: bs2, s, es, bs, hn, hu, _ => by
    have := U_len s
    rw [hu] at this
    simp [encBU, txtU] at this
    omega
  | n + 1, x :: bs2, s, es, bs, hn, hu, hx => by
    obtain ⟨k, p, ⟨⟩⟩ := x
    have hx0 := hx (k, p, ()) (by simp)
    have h0 : s ≠ ByteArray.empty := fun e => by subst e; simp [U_empty, encBU, txtU] at hu
    obtain ⟨a1, a2, a3⟩ := text_of (s := s) (k := k) (r := [UInt8.ofNat (p / 256).toNat, UInt8.ofNat (p % 256).toNat] ++ bs2.flatMap encBU) (by rw [hu]; simp [encBU]) hx0.1
    obtain ⟨b1, b2, b3⟩ := take_of (k := 2) a3 rfl
    have c1 := rdR_size a1
    have c2 := tkR_le 2 (rdR s)
    have e : pgOf (tkT 2 (rdR s)) = p := by
      have hp : 0 ≤ p ∧ p < 65536 := hx0.2
      rw [pg_of b2]
      simp only [UInt8.toNat_ofNat']
      omega
    rw [decL, if_neg h0, if_neg (by simp [a1]), if_neg (by simp), if_pos b1, a2, e, dec_branch n bs2 _ es _ (by omega) b3 (fun y hy => hx y (by simp [hy]))]
    simp

theorem two_of {α : Type} : ∀ {l : List α}, l.length = 2 → ∃ a b, l = [a, b]
  | [a, b], _ => ⟨a, b, rfl⟩
/-- What was read, written, is the text. -/
theorem undec : ∀ (n : Nat) (l : Bool) (s : ByteArray) (es : List En) (bs : List Br) {es' : List En} {bs' : List Br}, s.size ≤ n → decL l n s es bs = (0, es', bs') →
    ∃ es2 bs2, es' = es ++ es2 ∧ bs' = bs ++ bs2 ∧ mayN l es' bs' = true ∧ U s = es2.flatMap encEU ++ bs2.flatMap encBU ∧ (l = true → bs2 = []) ∧ (l = false → es2 = []) := by
  intro n
  have fin : ∀ (l : Bool) (s : ByteArray) (es : List En) (bs : List Br) {es' : List En} {bs' : List Br}, s = ByteArray.empty → (if mayN l es bs = true then ((0 : Int), es, bs) else (4, [], [])) = (0, es', bs') →
      ∃ es2 bs2, es' = es ++ es2 ∧ bs' = bs ++ bs2 ∧ mayN l es' bs' = true ∧ U s = es2.flatMap encEU ++ bs2.flatMap encBU ∧ (l = true → bs2 = []) ∧ (l = false → es2 = []) := by
    intro l s es bs es' bs' hs h
    split at h
    · rename_i hm
      simp only [Prod.mk.injEq, true_and] at h
      obtain ⟨rfl, rfl⟩ := h
      exact ⟨[], [], by simp, by simp, hm, by subst hs; rfl, fun _ => rfl, fun _ => rfl⟩
    · simp at h
  induction n with
  | zero =>
    intro l s es bs es' bs' hn h
    exact fin l s es bs (size_zero (Nat.le_zero.1 hn)) h
  | succ n ih =>
    intro l s es bs es' bs' hn h
    by_cases h0 : s = ByteArray.empty
    · rw [decL, if_pos h0] at h
      exact fin l s es bs h0 h
    · rw [decL, if_neg h0] at h
      split at h
      · simp at h
      · rename_i hB
        have hB : rdB s = true := by simpa using hB
        obtain ⟨a1, a2⟩ := of_text hB
        have c1 := rdR_size hB
        split at h
        · rename_i hl
          subst hl
          split at h
          · rename_i hB2
            obtain ⟨b1, b2⟩ := of_text hB2
            have c2 := rdR_size hB2
            obtain ⟨es2, bs2, rfl, rfl, d3, d4, d5, d6⟩ := ih true _ _ _ (by omega) h
            have d5 := d5 rfl
            subst d5
            refine ⟨(rdT s, rdT (rdR s), ()) :: es2, [], by simp, by simp, d3, ?_, fun _ => rfl, fun h => (by cases h)⟩
            rw [a1, b1, d4]
            simp [encEU]
          · simp at h
        · rename_i hl
          have hl : l = false := by simpa using hl
          subst hl
          split at h
          · rename_i hB2
            obtain ⟨b1, b2⟩ := of_take (by decide) hB2
            have c2 := tkR_le 2 (rdR s)
            obtain ⟨es2, bs2, rfl, rfl, d3, d4, d5, d6⟩ := ih false _ _ _ (by omega) h
            have d6 := d6 rfl
            subst d6
            refine ⟨[], (rdT s, pgOf (tkT 2 (rdR s)), ()) :: bs2, by simp, by simp, d3, ?_, fun h => (by cases h), fun _ => rfl⟩
            have b2 : (U (tkT 2 (rdR s))).length = 2 := by omega
            obtain ⟨a, b, hab⟩ := two_of b2
            have e := pg_of hab
            have h1 := a.toNat_lt
            have h2 := b.toNat_lt
            rw [a1, b1, d4, hab]
            simp only [List.flatMap_nil, List.nil_append, List.flatMap_cons, encBU, e, List.append_assoc]
            rw [show (((a.toNat : Int) * 256 + b.toNat) / 256).toNat = a.toNat from by omega, show (((a.toNat : Int) * 256 + b.toNat) % 256).toNat = b.toNat from by omega]
            simp
          · simp at h

theorem memE {es : List En} (h : okEs es = true) {x : En} (hx : x ∈ es) : x.1.size ≤ 24 ∧ x.2.1.size ≤ 100 := by
  obtain ⟨i, hi, rfl⟩ := List.getElem_of_mem hx
  have := all_range.1 h i hi
  simp only [okE, Bool.not_eq_true', Bool.or_eq_false_iff, decide_eq_false_iff_not, getD_lt hi] at this
  omega
theorem memB {bs : List Br} (h : okBs bs = true) {x : Br} (hx : x ∈ bs) : x.1.size ≤ 24 ∧ 2 ≤ x.2.1 ∧ x.2.1 < 1024 := by
  obtain ⟨i, hi, rfl⟩ := List.getElem_of_mem hx
  have := all_range.1 h i hi
  simp only [okB, Bool.not_eq_true', Bool.or_eq_false_iff, decide_eq_false_iff_not, getD_lt hi] at this
  omega

abbrev enB (zs : List Int) : List UInt8 := zs.map fun n => UInt8.ofNat n.toNat
theorem U_bytes (zs : List Int) : U (bytesStr zs) = enB zs := rfl
theorem u8_in {n : Int} (h0 : 0 ≤ n) (h1 : n ≤ 255) : IntKind.u8.wrap n = n := by
  simp only [IntKind.wrap, IntKind.bits, IntKind.signed, Bool.false_and]
  simp
  omega
theorem enB_txt {s : ByteArray} (h : s.size ≤ 255) : enB (txt s) = txtU s := by
  simp only [enB, txt, List.map_cons, txtU, u8_in (n := (s.size : Int)) (by omega) (by omega), Int.toNat_natCast, List.cons.injEq, true_and, bytesI, List.map_map]
  exact (List.map_congr_left (fun a _ => by simp)).trans (List.map_id _)
theorem enB_E {x : En} (h : x.1.size ≤ 24 ∧ x.2.1.size ≤ 100) : enB (encE x) = encEU x := by
  simp only [encE, encEU, List.map_append]
  rw [show (txt x.1).map _ = _ from enB_txt (by omega), show (txt x.2.1).map _ = _ from enB_txt (by omega)]
theorem enB_B {x : Br} (h : x.1.size ≤ 24 ∧ 2 ≤ x.2.1 ∧ x.2.1 < 1024) : enB (encB x) = encBU x := by
  obtain ⟨k, p, ⟨⟩⟩ := x
  have hp : 2 ≤ p ∧ p < 1024 := h.2
  simp only [encB, encBU, List.map_append, List.map_cons, List.map_nil]
  rw [show (txt k).map _ = _ from enB_txt (by have : k.size ≤ 24 := h.1; omega), show (2 : Int) ^ min (Int.toNat 8) IntKind.i64.bits = 256 from by decide, Int.fdiv_eq_ediv_of_nonneg _ (by omega), u8_in (by omega) (by omega)]
  have e : IntKind.u8.wrap p = p % 256 := by
    simp only [IntKind.wrap, IntKind.bits, IntKind.signed, Bool.false_and]
    simp
  rw [e]
theorem enB_flat {α : Type} {f : α → List Int} {g : α → List UInt8} : ∀ {l : List α}, (∀ x ∈ l, enB (f x) = g x) → enB (l.flatMap f) = l.flatMap g
  | [], _ => rfl
  | x :: l, h => by
    simp only [List.flatMap_cons, List.map_append]
    rw [show (f x).map _ = _ from h x (by simp), show (l.flatMap f).map _ = _ from enB_flat (fun y hy => h y (by simp [hy]))]
theorem U_enc {l : Bool} {es : List En} {bs : List Br} (h1 : okEs es = true) (h2 : okBs bs = true) : U (bytesStr (encZ l es bs)) = (if l = true then 1 else 2) :: (es.flatMap encEU ++ bs.flatMap encBU) := by
  rw [U_bytes, encZ]
  simp only [List.map_append]
  rw [show (es.flatMap encE).map _ = _ from enB_flat fun x hx => enB_E (memE h1 hx), show (bs.flatMap encB).map _ = _ from enB_flat fun x hx => enB_B (memB h2 hx)]
  cases l <;> rfl

theorem lenE : ∀ (es : List En), ((es.flatMap encEU).length : Int) = (es.map szE).sum
  | [] => rfl
  | x :: es => by
    simp only [List.flatMap_cons, List.length_append, List.map_cons, List.sum_cons, ← lenE es, szE, encEU, txtU, List.length_cons, U_len]
    omega
theorem lenB : ∀ (bs : List Br), ((bs.flatMap encBU).length : Int) = (bs.map szB).sum
  | [] => rfl
  | x :: bs => by
    simp only [List.flatMap_cons, List.length_append, List.map_cons, List.sum_cons, ← lenB bs, szB, encBU, txtU, List.length_cons, List.length_nil, U_len]
    omega
theorem size_enc {s : ByteArray} {a : UInt8} {es : List En} {bs : List Br} (h : U s = a :: (es.flatMap encEU ++ bs.flatMap encBU)) : (s.size : Int) = sizeN es bs := by
  have := U_len s
  rw [h] at this
  simp only [List.length_cons, List.length_append] at this
  rw [sizeN, ← lenE, ← lenB]
  omega

theorem encN_zero {l : Bool} {es : List En} {bs : List Br} : encN l es bs = 0 ↔ mayN l es bs = true ∧ sizeN es bs ≤ 254 := by
  unfold encN
  split
  · split <;> simp_all
  · simp_all
theorem encS_eq {l : Bool} {es : List En} {bs : List Br} (h : encN l es bs = 0) : encS l es bs = bytesStr (encZ l es bs) := by
  obtain ⟨h1, h2⟩ := encN_zero.1 h
  rw [encS, if_pos (by simp [encOk, h1, h2])]

/-- Written and read it is the node. -/
theorem dec_enc {l : Bool} {es : List En} {bs : List Br} (h : encN l es bs = 0) : decC (encS l es bs) = 0 ∧ decLf (encS l es bs) = l ∧ decE (encS l es bs) = es ∧ decB (encS l es bs) = bs ∧ ((encS l es bs).size : Int) = sizeN es bs := by
  obtain ⟨h1, h2⟩ := encN_zero.1 h
  obtain ⟨m1, m2, m3, m4⟩ := mayN_iff h1
  rw [encS_eq h]
  have hu := U_enc (l := l) m3 m4
  have hs := size_enc hu
  have h0 : bytesStr (encZ l es bs) ≠ ByteArray.empty := fun e => by rw [e, U_empty] at hu; cases hu
  have hb : byteAt (bytesStr (encZ l es bs)) 0 = if l = true then 1 else 2 := by rw [byteAt_cons hu]; cases l <;> rfl
  have he : U ((bytesStr (encZ l es bs)).extract 1 (bytesStr (encZ l es bs)).size) = es.flatMap encEU ++ bs.flatMap encBU := by
    have := U_len (bytesStr (encZ l es bs))
    rw [hu] at this
    rw [U_extract, hu]
    simp only [List.length_cons] at this
    exact List.take_of_length_le (by simp; simp at this; omega)
  have hd : decA (bytesStr (encZ l es bs)) = (0, es, bs) := by
    rw [decA, if_neg (by omega), if_neg h0, if_neg (by rw [hb]; cases l <;> simp), hb]
    cases l
    · obtain rfl := m2 rfl
      have := dec_branch (bytesStr (encZ false [] bs)).size bs _ [] [] (by rw [size_extract']; omega) he (fun x hx => by have := memB m4 hx; omega)
      simp only [List.nil_append, h1, if_true] at this
      exact this
    · obtain rfl := m1 rfl
      have := dec_leaf (bytesStr (encZ true es [])).size es ((bytesStr (encZ true es [])).extract 1 (bytesStr (encZ true es [])).size) [] [] (by rw [size_extract']; omega) (by rw [he]; simp) (fun x hx => by have := memE m3 hx; omega)
      simp only [List.nil_append, h1, if_true] at this
      exact this
  refine ⟨by rw [decC, hd], ?_, by rw [decE, hd], by rw [decB, hd], hs⟩
  rw [decLf, decC, hd, hb]
  cases l <;> rfl

theorem decL_err : ∀ (n : Nat) {l : Bool} {s : ByteArray} {es : List En} {bs : List Br}, (decL l n s es bs).1 ≠ 0 → (decL l n s es bs).2 = ([], [])
  | 0, l, s, es, bs, h => by
    simp only [decL] at h ⊢
    split at h
    · exact absurd rfl h
    · rw [if_neg (by assumption)]
  | n + 1, l, s, es, bs, h => by
    simp only [decL] at h ⊢
    split at h
    · rw [if_pos (by assumption)]
      split at h
      · exact absurd rfl h
      · rw [if_neg (by assumption)]
    · rw [if_neg (by assumption)]
      split at h
      · rw [if_pos (by assumption)]
      · rw [if_neg (by assumption)]
        split at h
        · rw [if_pos (by assumption)]
          split at h
          · rw [if_pos (by assumption)]; exact decL_err n h
          · rw [if_neg (by assumption)]
        · rw [if_neg (by assumption)]
          split at h
          · rw [if_pos (by assumption)]; exact decL_err n h
          · rw [if_neg (by assumption)]
theorem dec_err {s : ByteArray} (h : decC s ≠ 0) : decLf s = false ∧ decE s = [] ∧ decB s = [] := by
  refine ⟨by simp [decLf, h], ?_⟩
  have : (decA s).2 = ([], []) := by
    rw [decC] at h
    simp only [decA] at h ⊢
    split at h
    · rw [if_pos (by assumption)]
    · rw [if_neg (by assumption)]
      split at h
      · rw [if_pos (by assumption)]
      · rw [if_neg (by assumption)]
        split at h
        · rw [if_pos (by assumption)]
        · rw [if_neg (by assumption)]; exact decL_err _ h
  rw [decE, decB, this]
  exact ⟨rfl, rfl⟩

theorem cntE : ∀ (es : List En), es.length ≤ (es.flatMap encEU).length
  | [] => Nat.le_refl _
  | x :: l => by have := cntE l; simp only [List.flatMap_cons, List.length_cons, List.length_append, encEU, txtU] ; omega
theorem cntB : ∀ (es : List Br), es.length ≤ (es.flatMap encBU).length
  | [] => Nat.le_refl _
  | x :: l => by have := cntB l; simp only [List.flatMap_cons, List.length_cons, List.length_append, encBU, txtU] ; omega
/-- Read and written it is the text. -/
theorem enc_dec {s : ByteArray} (h : decC s = 0) : smallE (decE s) ∧ smallB (decB s) ∧ encN (decLf s) (decE s) (decB s) = 0 ∧ encS (decLf s) (decE s) (decB s) = s ∧ mayN (decLf s) (decE s) (decB s) = true := by
  have h' := h
  rw [decC] at h
  have hl : decLf s = (byteAt s 0 == 1) := by simp [decLf, h']
  rw [hl]
  unfold decE decB
  unfold decA at h ⊢
  split at h
  · exact absurd h (by decide)
  rename_i g1
  rw [if_neg g1]
  split at h
  · exact absurd h (by decide)
  rename_i g2
  rw [if_neg g2]
  split at h
  · exact absurd h (by decide)
  rename_i g3
  rw [if_neg g3]
  obtain ⟨es', bs', e⟩ : ∃ es' bs', decL (byteAt s 0 == 1) s.size (s.extract 1 s.size) [] [] = (0, es', bs') := ⟨_, _, Prod.ext h rfl⟩
  rw [e]
  simp only
  obtain ⟨es2, bs2, k1, k2, k3, k4, k5, k6⟩ := undec _ _ _ _ _ (by rw [size_extract']; omega) e
  simp only [List.nil_append] at k1 k2
  subst k1 k2
  obtain ⟨m1, m2, m3, m4⟩ := mayN_iff k3
  have hlen := U_len s
  cases hu : U s with
  | nil => exact absurd (U_nil hu) g2
  | cons a r =>
    have hb := byteAt_cons hu
    have ha := a.toNat_lt
    have hr : r = es'.flatMap encEU ++ bs'.flatMap encBU := by
      rw [← k4, U_extract, hu]
      rw [hu] at hlen
      simp only [List.length_cons] at hlen
      rw [show List.drop 1 (a :: r) = r from rfl, List.take_of_length_le (by omega)]
    rw [hr] at hu
    have hs := size_enc hu
    have hn : encN (byteAt s 0 == 1) es' bs' = 0 := encN_zero.2 ⟨k3, by omega⟩
    have hcnt1 := cntE es'
    have hcnt2 := cntB bs'
    rw [hu] at hlen
    simp only [List.length_cons, List.length_append] at hlen
    refine ⟨⟨by omega, fun x hx => by have := memE m3 hx; omega⟩, ⟨by omega, fun x hx => by have := memB m4 hx; omega⟩, hn, ?_, k3⟩
    rw [encS_eq hn]
    apply ba_ext
    show U _ = U _
    rw [U_enc m3 m4, hu]
    congr 1
    by_cases hc : byteAt s 0 = 1
    · rw [if_pos (by simp [hc])]
      exact UInt8.toNat_inj.1 (by show 1 = _; omega)
    · rw [if_neg (by simp [hc])]
      have : byteAt s 0 = 2 := by
        rcases Decidable.em (byteAt s 0 = 2) with h | h
        · exact h
        · exact absurd ⟨hc, h⟩ g3
      exact UInt8.toNat_inj.1 (by show 2 = _; omega)
end Lf

namespace Lf
open Go Go.Sx Go.Proofs
abbrev sDec := sumOf [tStr] [tNode, tInt] (fun _ => []) (fun (s, ()) => ((decLf s, decE s, decB s, ()), decC s, ()))
abbrev sSame := sumOf [tNode, tNode] [tBool] (fun _ => []) (fun ((l, es, bs, ()), (l', es', bs', ()), ()) => (sameN l es bs l' es' bs', ()))
def tabLB : Tab := [(22, sLarge), (23, sTrue), (24, sGiven), (25, sMay), (31, sEnc), (32, sDec), (33, sSame), (34, sSize), (35, sFits)]
theorem treeLB (l : Bool) (es : List En) (bs : List Br) (s : ByteArray) : run P tabLB.sum Try.f5 [] (start Try.f5 [avN l es bs, .s (.str s)] []) =
  Tree.ite (largeN es bs) (Tree.ret [AObj.own [AV.s (SV.bool l), AV.s (SV.ro (Con.typ [CK.str, CK.str] es)), AV.s (SV.ro (Con.typ [CK.str, CK.int IntKind.i64] bs))] (25 : Nat)] (AV.s (SV.bool true)))
  (Tree.ite (decide ((↑s.size : Int) > (1000 : Int))) (Tree.ret [AObj.own [AV.s (SV.bool l), AV.s (SV.ro (Con.typ [CK.str, CK.str] es)), AV.s (SV.ro (Con.typ [CK.str, CK.int IntKind.i64] bs))] (25 : Nat)] (AV.s (SV.bool true)))
    (Tree.ite false (Tree.ret [AObj.own [AV.s (SV.bool l), AV.s (SV.ro (Con.typ [CK.str, CK.str] es)), AV.s (SV.ro (Con.typ [CK.str, CK.int IntKind.i64] bs))] (25 : Nat)] (AV.s (SV.bool true)))
      (Tree.need (es.length ≤ (100000 : Nat))
        (Tree.need (bs.length ≤ (100000 : Nat))
          (Tree.need (smallE es)
            (Tree.need (smallB bs)
              (Tree.ite (encN l es bs == (0 : Int))
                (Tree.ite (decC (encS l es bs) != (0 : Int)) (Tree.ret [AObj.own [AV.s (SV.bool l), AV.s (SV.ro (Con.typ [CK.str, CK.str] es)), AV.s (SV.ro (Con.typ [CK.str, CK.int IntKind.i64] bs))] (25 : Nat), AObj.vec (Con.typ [CK.str, CK.str] es) (59 : Nat), AObj.vec (Con.typ [CK.str, CK.int IntKind.i64] bs) (36 : Nat), AObj.own [AV.s (SV.bool l), AV.vec (1 : Nat), AV.vec (2 : Nat)] (31 : Nat), AObj.vec (Con.typ [CK.str, CK.str] (decE (encS l es bs))) (59 : Nat), AObj.vec (Con.typ [CK.str, CK.int IntKind.i64] (decB (encS l es bs))) (36 : Nat), AObj.own [AV.s (SV.bool (decLf (encS l es bs))), AV.vec (4 : Nat), AV.vec (5 : Nat)] (31 : Nat)] (AV.s (SV.blit false)))
                  (Tree.ite (!sameN l es bs (decLf (encS l es bs)) (decE (encS l es bs)) (decB (encS l es bs))) (Tree.ret [AObj.own [AV.s (SV.bool l), AV.s (SV.ro (Con.typ [CK.str, CK.str] es)), AV.s (SV.ro (Con.typ [CK.str, CK.int IntKind.i64] bs))] (25 : Nat), AObj.vec (Con.typ [CK.str, CK.str] es) (59 : Nat), AObj.vec (Con.typ [CK.str, CK.int IntKind.i64] bs) (36 : Nat), AObj.own [AV.s (SV.bool l), AV.vec (1 : Nat), AV.vec (2 : Nat)] (31 : Nat), AObj.vec (Con.typ [CK.str, CK.str] (decE (encS l es bs))) (59 : Nat), AObj.vec (Con.typ [CK.str, CK.int IntKind.i64] (decB (encS l es bs))) (36 : Nat), AObj.own [AV.s (SV.bool (decLf (encS l es bs))), AV.vec (4 : Nat), AV.vec (5 : Nat)] (31 : Nat)] (AV.s (SV.blit false)))
                    (Tree.need (smallE es)
                      (Tree.need (smallB bs)
                        (Tree.ite ((↑(encS l es bs).size : Int) != sizeN es bs) (Tree.ret [AObj.own [AV.s (SV.bool l), AV.s (SV.ro (Con.typ [CK.str, CK.str] es)), AV.s (SV.ro (Con.typ [CK.str, CK.int IntKind.i64] bs))] (25 : Nat), AObj.vec (Con.typ [CK.str, CK.str] es) (59 : Nat), AObj.vec (Con.typ [CK.str, CK.int IntKind.i64] bs) (36 : Nat), AObj.own [AV.s (SV.bool l), AV.vec (1 : Nat), AV.vec (2 : Nat)] (31 : Nat), AObj.vec (Con.typ [CK.str, CK.str] (decE (encS l es bs))) (59 : Nat), AObj.vec (Con.typ [CK.str, CK.int IntKind.i64] (decB (encS l es bs))) (36 : Nat), AObj.own [AV.s (SV.bool (decLf (encS l es bs))), AV.vec (4 : Nat), AV.vec (5 : Nat)] (31 : Nat)] (AV.s (SV.blit false)))
                          (Tree.need (smallE es)
                            (Tree.need (smallB bs)
                              (Tree.ite (!decide (sizeN es bs ≤ (254 : Int))) (Tree.ret [AObj.own [AV.s (SV.bool l), AV.s (SV.ro (Con.typ [CK.str, CK.str] es)), AV.s (SV.ro (Con.typ [CK.str, CK.int IntKind.i64] bs))] (25 : Nat), AObj.vec (Con.typ [CK.str, CK.str] es) (59 : Nat), AObj.vec (Con.typ [CK.str, CK.int IntKind.i64] bs) (36 : Nat), AObj.own [AV.s (SV.bool l), AV.vec (1 : Nat), AV.vec (2 : Nat)] (31 : Nat), AObj.vec (Con.typ [CK.str, CK.str] (decE (encS l es bs))) (59 : Nat), AObj.vec (Con.typ [CK.str, CK.int IntKind.i64] (decB (encS l es bs))) (36 : Nat), AObj.own [AV.s (SV.bool (decLf (encS l es bs))), AV.vec (4 : Nat), AV.vec (5 : Nat)] (31 : Nat)] (AV.s (SV.blit false)))
                                (Tree.ite (!mayN l es bs) (Tree.ret [AObj.own [AV.s (SV.bool l), AV.s (SV.ro (Con.typ [CK.str, CK.str] es)), AV.s (SV.ro (Con.typ [CK.str, CK.int IntKind.i64] bs))] (25 : Nat), AObj.vec (Con.typ [CK.str, CK.str] es) (59 : Nat), AObj.vec (Con.typ [CK.str, CK.int IntKind.i64] bs) (36 : Nat), AObj.own [AV.s (SV.bool l), AV.vec (1 : Nat), AV.vec (2 : Nat)] (31 : Nat), AObj.vec (Con.typ [CK.str, CK.str] (decE (encS l es bs))) (59 : Nat), AObj.vec (Con.typ [CK.str, CK.int IntKind.i64] (decB (encS l es bs))) (36 : Nat), AObj.own [AV.s (SV.bool (decLf (encS l es bs))), AV.vec (4 : Nat), AV.vec (5 : Nat)] (31 : Nat)] (AV.s (SV.blit false))) (Tree.ite (decC s != (0 : Int)) (Tree.ret [AObj.own [AV.s (SV.bool l), AV.s (SV.ro (Con.typ [CK.str, CK.str] es)), AV.s (SV.ro (Con.typ [CK.str, CK.int IntKind.i64] bs))] (25 : Nat), AObj.vec (Con.typ [CK.str, CK.str] es) (59 : Nat), AObj.vec (Con.typ [CK.str, CK.int IntKind.i64] bs) (36 : Nat), AObj.own [AV.s (SV.bool l), AV.vec (1 : Nat), AV.vec (2 : Nat)] (31 : Nat), AObj.vec (Con.typ [CK.str, CK.str] (decE (encS l es bs))) (59 : Nat), AObj.vec (Con.typ [CK.str, CK.int IntKind.i64] (decB (encS l es bs))) (36 : Nat), AObj.own [AV.s (SV.bool (decLf (encS l es bs))), AV.vec (4 : Nat), AV.vec (5 : Nat)] (31 : Nat), AObj.vec (Con.typ [CK.str, CK.str] (decE s)) (59 : Nat), AObj.vec (Con.typ [CK.str, CK.int IntKind.i64] (decB s)) (36 : Nat), AObj.own [AV.s (SV.bool (decLf s)), AV.vec (7 : Nat), AV.vec (8 : Nat)] (31 : Nat)] (AV.s (SV.bool (sameN (decLf s) (decE s) (decB s) false [] [])))) (Tree.need (smallE (decE s)) (Tree.need (smallB (decB s)) (Tree.ite (encN (decLf s) (decE s) (decB s) == (0 : Int)) (Tree.ret [AObj.own [AV.s (SV.bool l), AV.s (SV.ro (Con.typ [CK.str, CK.str] es)), AV.s (SV.ro (Con.typ [CK.str, CK.int IntKind.i64] bs))] (25 : Nat), AObj.vec (Con.typ [CK.str, CK.str] es) (59 : Nat), AObj.vec (Con.typ [CK.str, CK.int IntKind.i64] bs) (36 : Nat), AObj.own [AV.s (SV.bool l), AV.vec (1 : Nat), AV.vec (2 : Nat)] (31 : Nat), AObj.vec (Con.typ [CK.str, CK.str] (decE (encS l es bs))) (59 : Nat), AObj.vec (Con.typ [CK.str, CK.int IntKind.i64] (decB (encS l es bs))) (36 : Nat), AObj.own [AV.s (SV.bool (decLf (encS l es bs))), AV.vec (4 : Nat), AV.vec (5 : Nat)] (31 : Nat), AObj.vec (Con.typ [CK.str, CK.str] (decE s)) (59 : Nat), AObj.vec (Con.typ [CK.str, CK.int IntKind.i64] (decB s)) (36 : Nat), AObj.own [AV.s (SV.bool (decLf s)), AV.vec (7 : Nat), AV.vec (8 : Nat)] (31 : Nat)] (AV.s (SV.bool (decide (encS (decLf s) (decE s) (decB s) = s))))) (Tree.ret [AObj.own [AV.s (SV.bool l), AV.s (SV.ro (Con.typ [CK.str, CK.str] es)), AV.s (SV.ro (Con.typ [CK.str, CK.int IntKind.i64] bs))] (25 : Nat), AObj.vec (Con.typ [CK.str, CK.str] es) (59 : Nat), AObj.vec (Con.typ [CK.str, CK.int IntKind.i64] bs) (36 : Nat), AObj.own [AV.s (SV.bool l), AV.vec (1 : Nat), AV.vec (2 : Nat)] (31 : Nat), AObj.vec (Con.typ [CK.str, CK.str] (decE (encS l es bs))) (59 : Nat), AObj.vec (Con.typ [CK.str, CK.int IntKind.i64] (decB (encS l es bs))) (36 : Nat), AObj.own [AV.s (SV.bool (decLf (encS l es bs))), AV.vec (4 : Nat), AV.vec (5 : Nat)] (31 : Nat), AObj.vec (Con.typ [CK.str, CK.str] (decE s)) (59 : Nat), AObj.vec (Con.typ [CK.str, CK.int IntKind.i64] (decB s)) (36 : Nat), AObj.own [AV.s (SV.bool (decLf s)), AV.vec (7 : Nat), AV.vec (8 : Nat)] (31 : Nat)] (AV.s (SV.blit false))))))))))))))))
                (Tree.ite (mayN l es bs) (Tree.need (smallE es) (Tree.need (smallB bs) (Tree.ite (decide (sizeN es bs ≤ (254 : Int))) (Tree.ret [AObj.own [AV.s (SV.bool l), AV.s (SV.ro (Con.typ [CK.str, CK.str] es)), AV.s (SV.ro (Con.typ [CK.str, CK.int IntKind.i64] bs))] (25 : Nat), AObj.vec (Con.typ [CK.str, CK.str] es) (59 : Nat), AObj.vec (Con.typ [CK.str, CK.int IntKind.i64] bs) (36 : Nat), AObj.own [AV.s (SV.bool l), AV.vec (1 : Nat), AV.vec (2 : Nat)] (31 : Nat)] (AV.s (SV.blit false))) (Tree.ite (decC s != (0 : Int)) (Tree.ret [AObj.own [AV.s (SV.bool l), AV.s (SV.ro (Con.typ [CK.str, CK.str] es)), AV.s (SV.ro (Con.typ [CK.str, CK.int IntKind.i64] bs))] (25 : Nat), AObj.vec (Con.typ [CK.str, CK.str] es) (59 : Nat), AObj.vec (Con.typ [CK.str, CK.int IntKind.i64] bs) (36 : Nat), AObj.own [AV.s (SV.bool l), AV.vec (1 : Nat), AV.vec (2 : Nat)] (31 : Nat), AObj.vec (Con.typ [CK.str, CK.str] (decE s)) (59 : Nat), AObj.vec (Con.typ [CK.str, CK.int IntKind.i64] (decB s)) (36 : Nat), AObj.own [AV.s (SV.bool (decLf s)), AV.vec (4 : Nat), AV.vec (5 : Nat)] (31 : Nat)] (AV.s (SV.bool (sameN (decLf s) (decE s) (decB s) false [] [])))) (Tree.need (smallE (decE s)) (Tree.need (smallB (decB s)) (Tree.ite (encN (decLf s) (decE s) (decB s) == (0 : Int)) (Tree.ret [AObj.own [AV.s (SV.bool l), AV.s (SV.ro (Con.typ [CK.str, CK.str] es)), AV.s (SV.ro (Con.typ [CK.str, CK.int IntKind.i64] bs))] (25 : Nat), AObj.vec (Con.typ [CK.str, CK.str] es) (59 : Nat), AObj.vec (Con.typ [CK.str, CK.int IntKind.i64] bs) (36 : Nat), AObj.own [AV.s (SV.bool l), AV.vec (1 : Nat), AV.vec (2 : Nat)] (31 : Nat), AObj.vec (Con.typ [CK.str, CK.str] (decE s)) (59 : Nat), AObj.vec (Con.typ [CK.str, CK.int IntKind.i64] (decB s)) (36 : Nat), AObj.own [AV.s (SV.bool (decLf s)), AV.vec (4 : Nat), AV.vec (5 : Nat)] (31 : Nat)] (AV.s (SV.bool (decide (encS (decLf s) (decE s) (decB s) = s))))) (Tree.ret [AObj.own [AV.s (SV.bool l), AV.s (SV.ro (Con.typ [CK.str, CK.str] es)), AV.s (SV.ro (Con.typ [CK.str, CK.int IntKind.i64] bs))] (25 : Nat), AObj.vec (Con.typ [CK.str, CK.str] es) (59 : Nat), AObj.vec (Con.typ [CK.str, CK.int IntKind.i64] bs) (36 : Nat), AObj.own [AV.s (SV.bool l), AV.vec (1 : Nat), AV.vec (2 : Nat)] (31 : Nat), AObj.vec (Con.typ [CK.str, CK.str] (decE s)) (59 : Nat), AObj.vec (Con.typ [CK.str, CK.int IntKind.i64] (decB s)) (36 : Nat), AObj.own [AV.s (SV.bool (decLf s)), AV.vec (4 : Nat), AV.vec (5 : Nat)] (31 : Nat)] (AV.s (SV.blit false))))))))))
                  (Tree.ite (decC s != (0 : Int)) (Tree.ret [AObj.own [AV.s (SV.bool l), AV.s (SV.ro (Con.typ [CK.str, CK.str] es)), AV.s (SV.ro (Con.typ [CK.str, CK.int IntKind.i64] bs))] (25 : Nat), AObj.vec (Con.typ [CK.str, CK.str] es) (59 : Nat), AObj.vec (Con.typ [CK.str, CK.int IntKind.i64] bs) (36 : Nat), AObj.own [AV.s (SV.bool l), AV.vec (1 : Nat), AV.vec (2 : Nat)] (31 : Nat), AObj.vec (Con.typ [CK.str, CK.str] (decE s)) (59 : Nat), AObj.vec (Con.typ [CK.str, CK.int IntKind.i64] (decB s)) (36 : Nat), AObj.own [AV.s (SV.bool (decLf s)), AV.vec (4 : Nat), AV.vec (5 : Nat)] (31 : Nat)] (AV.s (SV.bool (sameN (decLf s) (decE s) (decB s) false [] [])))) (Tree.need (smallE (decE s)) (Tree.need (smallB (decB s)) (Tree.ite (encN (decLf s) (decE s) (decB s) == (0 : Int)) (Tree.ret [AObj.own [AV.s (SV.bool l), AV.s (SV.ro (Con.typ [CK.str, CK.str] es)), AV.s (SV.ro (Con.typ [CK.str, CK.int IntKind.i64] bs))] (25 : Nat), AObj.vec (Con.typ [CK.str, CK.str] es) (59 : Nat), AObj.vec (Con.typ [CK.str, CK.int IntKind.i64] bs) (36 : Nat), AObj.own [AV.s (SV.bool l), AV.vec (1 : Nat), AV.vec (2 : Nat)] (31 : Nat), AObj.vec (Con.typ [CK.str, CK.str] (decE s)) (59 : Nat), AObj.vec (Con.typ [CK.str, CK.int IntKind.i64] (decB s)) (36 : Nat), AObj.own [AV.s (SV.bool (decLf s)), AV.vec (4 : Nat), AV.vec (5 : Nat)] (31 : Nat)] (AV.s (SV.bool (decide (encS (decLf s) (decE s) (decB s) = s))))) (Tree.ret [AObj.own [AV.s (SV.bool l), AV.s (SV.ro (Con.typ [CK.str, CK.str] es)), AV.s (SV.ro (Con.typ [CK.str, CK.int IntKind.i64] bs))] (25 : Nat), AObj.vec (Con.typ [CK.str, CK.str] es) (59 : Nat), AObj.vec (Con.typ [CK.str, CK.int IntKind.i64] bs) (36 : Nat), AObj.own [AV.s (SV.bool l), AV.vec (1 : Nat), AV.vec (2 : Nat)] (31 : Nat), AObj.vec (Con.typ [CK.str, CK.str] (decE s)) (59 : Nat), AObj.vec (Con.typ [CK.str, CK.int IntKind.i64] (decB s)) (36 : Nat), AObj.own [AV.s (SV.bool (decLf s)), AV.vec (4 : Nat), AV.vec (5 : Nat)] (31 : Nat)] (AV.s (SV.blit false))))))))))))))) := by kernel_rfl
theorem tabLB_ok {Z : Glob} : tabLB.Ok P Z := Tab.Ok.cons large_ok.sum (Tab.Ok.cons awake_ok.sum (Tab.Ok.cons given_ok.sum (Tab.Ok.cons may_ok.sum (Tab.Ok.cons encode_ok.sum (Tab.Ok.cons dec_ok.sum (Tab.Ok.cons same_ok.sum (Tab.Ok.cons size_ok.sum (Tab.Ok.cons fits_ok.sum Tab.Ok.nil))))))))
theorem same_refl (l : Bool) (es : List En) (bs : List Br) : sameN l es bs l es bs = true := by simp [sameN, eqEs, eqBs]
theorem leafBack_ok {Z : Glob} : FnOk P Z 5 [tRN, tStr] [tBool] (fun _ => []) (fun _ => (true, ())) := by
  refine fnOk_of_safe Try.func5 (by kernel_rfl) (by kernel_rfl) ?_
  rintro ⟨⟨(l : Bool), (es : List En), (bs : List Br), ⟨⟩⟩, (s : ByteArray), ⟨⟩⟩ _ _ X hX hz
  refine go hz hX tabLB_ok Try.func5 (treeLB l es bs s) ⟨fun _ => ends_b, fun hL => ⟨fun _ => ends_b, fun hK => no_then ?_⟩⟩
  have hE := smallE_of hL
  have hB := smallB_of hL
  obtain ⟨hl1, hl2, _, _⟩ := notLarge hL
  have g1 : (decC s != 0) = true → true = sameN (decLf s) (decE s) (decB s) false [] [] := fun h => by
    obtain ⟨e1, e2, e3⟩ := dec_err (by simpa using h)
    rw [e1, e2, e3]; exact (same_refl _ _ _).symm
  have g2 : (decC s != 0) = false → decC s = 0 := fun h => by simpa using h
  refine ⟨by omega, by omega, hE, hB, fun h0 => ?_, fun h0 => ?_⟩
  · have h0 : encN l es bs = 0 := by simpa using h0
    obtain ⟨d1, d2, d3, d4, d5⟩ := dec_enc h0
    obtain ⟨m1, m2⟩ := encN_zero.1 h0
    have n1 : (decC (encS l es bs) != 0) = false := by simp [d1]
    have n2 : (!sameN l es bs (decLf (encS l es bs)) (decE (encS l es bs)) (decB (encS l es bs))) = false := by rw [d2, d3, d4, same_refl]; rfl
    have n3 : (((encS l es bs).size : Int) != sizeN es bs) = false := by simp [d5]
    have n4 : (!decide (sizeN es bs ≤ 254)) = false := by simp [m2]
    have n5 : (!mayN l es bs) = false := by simp [m1]
    refine ⟨fun h => absurd (n1.symm.trans h) (by simp), fun _ => ⟨fun h => absurd (n2.symm.trans h) (by simp), fun _ => ⟨hE, hB, fun h => absurd (n3.symm.trans h) (by simp), fun _ => ⟨hE, hB, fun h => absurd (n4.symm.trans h) (by simp), fun _ => ⟨fun h => absurd (n5.symm.trans h) (by simp), fun _ => ?_⟩⟩⟩⟩⟩
    refine ⟨fun h => ends_is (g1 h), fun h => ?_⟩
    obtain ⟨q1, q2, q3, q4, _⟩ := enc_dec (g2 h)
    exact ⟨q1, q2, fun _ => ends_is (by rw [q4]; exact (decide_eq_true rfl).symm), fun h => absurd q3 (by simpa using h)⟩
  · have h0 : encN l es bs ≠ 0 := by simpa using h0
    refine ⟨fun hm => ⟨hE, hB, fun hf => absurd (encN_zero.2 ⟨hm, of_decide_eq_true hf⟩) h0, fun _ => ?_⟩, fun _ => ?_⟩
    · refine ⟨fun h => ends_is (g1 h), fun h => ?_⟩
      obtain ⟨q1, q2, q3, q4, _⟩ := enc_dec (g2 h)
      exact ⟨q1, q2, fun _ => ends_is (by rw [q4]; exact (decide_eq_true rfl).symm), fun h => absurd q3 (by simpa using h)⟩
    · refine ⟨fun h => ends_is (g1 h), fun h => ?_⟩
      obtain ⟨q1, q2, q3, q4, _⟩ := enc_dec (g2 h)
      exact ⟨q1, q2, fun _ => ends_is (by rw [q4]; exact (decide_eq_true rfl).symm), fun h => absurd q3 (by simpa using h)⟩
end Lf

namespace Lf
open Go Go.Sx Go.Proofs
abbrev eRN : TypeId := 25
def nsRMay : List (Nat × Norm) := [(4, ⟨[], [1, 3], 0, []⟩), (10, ⟨[], [1, 5], 0, []⟩)]
noncomputable def cRMay1 (l : Bool) (es : List En) (bs : List Br) (i : Int) : Cfg := ⟨sl 130 [(1, .ptr 0 0), (3, .s (.int .i64 i))], [obN l es bs eRN], hd Try.f40 4, {}⟩
noncomputable def cRMay2 (l : Bool) (es : List En) (bs : List Br) (i : Int) : Cfg := ⟨sl 130 [(1, .ptr 0 0), (5, .s (.int .i64 i))], [obN l es bs eRN], hd Try.f40 10, {}⟩
theorem treeRMay (l : Bool) (es : List En) (bs : List Br) : run P tab0.sum Try.f40 nsRMay (start Try.f40 [avN l es bs] []) =
  Tree.ite l (Tree.ite (decide ((↑bs.length : Int) > (0 : Int))) (Tree.ret [AObj.own [AV.s (SV.bool l), AV.s (SV.ro (Con.typ [CK.str, CK.str] es)), AV.s (SV.ro (Con.typ [CK.str, CK.int IntKind.i64] bs))] (25 : Nat)] (AV.s (SV.blit false))) (Tree.ite (!l) (Tree.ite (decide ((↑es.length : Int) > (0 : Int))) (Tree.ret [AObj.own [AV.s (SV.bool l), AV.s (SV.ro (Con.typ [CK.str, CK.str] es)), AV.s (SV.ro (Con.typ [CK.str, CK.int IntKind.i64] bs))] (25 : Nat)] (AV.s (SV.blit false))) (Tree.at (Cfg.mk (sl (130 : Nat) [((1 : Nat), AV.ptr (0 : Nat) (0 : Nat)), ((3 : Nat), AV.s (SV.int IntKind.i64 (0 : Int)))]) [AObj.own [AV.s (SV.bool l), AV.s (SV.ro (Con.typ [CK.str, CK.str] es)), AV.s (SV.ro (Con.typ [CK.str, CK.int IntKind.i64] bs))] (25 : Nat)] (hd Try.f40 (4 : Nat)) (Stk.mk none false (0 : Nat) [] (0 : Nat))))) (Tree.at (Cfg.mk (sl (130 : Nat) [((1 : Nat), AV.ptr (0 : Nat) (0 : Nat)), ((3 : Nat), AV.s (SV.int IntKind.i64 (0 : Int)))]) [AObj.own [AV.s (SV.bool l), AV.s (SV.ro (Con.typ [CK.str, CK.str] es)), AV.s (SV.ro (Con.typ [CK.str, CK.int IntKind.i64] bs))] (25 : Nat)] (hd Try.f40 (4 : Nat)) (Stk.mk none false (0 : Nat) [] (0 : Nat)))))) (Tree.ite (!l) (Tree.ite (decide ((↑es.length : Int) > (0 : Int))) (Tree.ret [AObj.own [AV.s (SV.bool l), AV.s (SV.ro (Con.typ [CK.str, CK.str] es)), AV.s (SV.ro (Con.typ [CK.str, CK.int IntKind.i64] bs))] (25 : Nat)] (AV.s (SV.blit false))) (Tree.at (Cfg.mk (sl (130 : Nat) [((1 : Nat), AV.ptr (0 : Nat) (0 : Nat)), ((3 : Nat), AV.s (SV.int IntKind.i64 (0 : Int)))]) [AObj.own [AV.s (SV.bool l), AV.s (SV.ro (Con.typ [CK.str, CK.str] es)), AV.s (SV.ro (Con.typ [CK.str, CK.int IntKind.i64] bs))] (25 : Nat)] (hd Try.f40 (4 : Nat)) (Stk.mk none false (0 : Nat) [] (0 : Nat))))) (Tree.at (Cfg.mk (sl (130 : Nat) [((1 : Nat), AV.ptr (0 : Nat) (0 : Nat)), ((3 : Nat), AV.s (SV.int IntKind.i64 (0 : Int)))]) [AObj.own [AV.s (SV.bool l), AV.s (SV.ro (Con.typ [CK.str, CK.str] es)), AV.s (SV.ro (Con.typ [CK.str, CK.int IntKind.i64] bs))] (25 : Nat)] (hd Try.f40 (4 : Nat)) (Stk.mk none false (0 : Nat) [] (0 : Nat))))) := by kernel_rfl
theorem loopRMay1 (l : Bool) (es : List En) (bs : List Br) (i : Int) : run P tab0.sum Try.f40 nsRMay (cRMay1 l es bs i) =
  Tree.ite (decide (i < (↑es.length : Int))) (Tree.need ((0 : Int) ≤ i) (Tree.need (i < (↑es.length : Int)) (Tree.ite (decide ((↑(ByteArray.size (es.getD i.toNat (CL.d [CK.str, CK.str])).fst) : Int) < (1 : Int))) (Tree.ret [AObj.own [AV.s (SV.bool l), AV.s (SV.ro (Con.typ [CK.str, CK.str] es)), AV.s (SV.ro (Con.typ [CK.str, CK.int IntKind.i64] bs))] (25 : Nat)] (AV.s (SV.blit false))) (Tree.ite (decide ((↑(ByteArray.size (es.getD i.toNat (CL.d [CK.str, CK.str])).fst) : Int) > (24 : Int))) (Tree.ret [AObj.own [AV.s (SV.bool l), AV.s (SV.ro (Con.typ [CK.str, CK.str] es)), AV.s (SV.ro (Con.typ [CK.str, CK.int IntKind.i64] bs))] (25 : Nat)] (AV.s (SV.blit false))) (Tree.need ((0 : Int) ≤ i) (Tree.need (i < (↑es.length : Int)) (Tree.ite (decide ((↑(ByteArray.size (es.getD i.toNat (CL.d [CK.str, CK.str])).snd.fst) : Int) > (100 : Int))) (Tree.ret [AObj.own [AV.s (SV.bool l), AV.s (SV.ro (Con.typ [CK.str, CK.str] es)), AV.s (SV.ro (Con.typ [CK.str, CK.int IntKind.i64] bs))] (25 : Nat)] (AV.s (SV.blit false))) (Tree.ite (decide (i > (0 : Int))) (Tree.need (inI64 (i - (1 : Int))) (Tree.need ((0 : Int) ≤ i - (1 : Int)) (Tree.need (i - (1 : Int) < (↑es.length : Int)) (Tree.ite (!slt (es.getD (i - (1 : Int)).toNat (CL.d [CK.str, CK.str])).fst (es.getD i.toNat (CL.d [CK.str, CK.str])).fst) (Tree.ret [AObj.own [AV.s (SV.bool l), AV.s (SV.ro (Con.typ [CK.str, CK.str] es)), AV.s (SV.ro (Con.typ [CK.str, CK.int IntKind.i64] bs))] (25 : Nat)] (AV.s (SV.blit false))) (Tree.need (inI64 (i + (1 : Int))) (Tree.at (Cfg.mk (sl (130 : Nat) [((1 : Nat), AV.ptr (0 : Nat) (0 : Nat)), ((3 : Nat), AV.s (SV.int IntKind.i64 (i + (1 : Int))))]) [AObj.own [AV.s (SV.bool l), AV.s (SV.ro (Con.typ [CK.str, CK.str] es)), AV.s (SV.ro (Con.typ [CK.str, CK.int IntKind.i64] bs))] (25 : Nat)] (hd Try.f40 (4 : Nat)) (Stk.mk none false (0 : Nat) [] (0 : Nat))))))))) (Tree.need (inI64 (i + (1 : Int))) (Tree.at (Cfg.mk (sl (130 : Nat) [((1 : Nat), AV.ptr (0 : Nat) (0 : Nat)), ((3 : Nat), AV.s (SV.int IntKind.i64 (i + (1 : Int))))]) [AObj.own [AV.s (SV.bool l), AV.s (SV.ro (Con.typ [CK.str, CK.str] es)), AV.s (SV.ro (Con.typ [CK.str, CK.int IntKind.i64] bs))] (25 : Nat)] (hd Try.f40 (4 : Nat)) (Stk.mk none false (0 : Nat) [] (0 : Nat))))))))))))) (Tree.at (Cfg.mk (sl (130 : Nat) [((1 : Nat), AV.ptr (0 : Nat) (0 : Nat)), ((5 : Nat), AV.s (SV.int IntKind.i64 (0 : Int)))]) [AObj.own [AV.s (SV.bool l), AV.s (SV.ro (Con.typ [CK.str, CK.str] es)), AV.s (SV.ro (Con.typ [CK.str, CK.int IntKind.i64] bs))] (25 : Nat)] (hd Try.f40 (10 : Nat)) (Stk.mk none false (0 : Nat) [] (0 : Nat)))) := by kernel_rfl
theorem loopRMay2 (l : Bool) (es : List En) (bs : List Br) (i : Int) : run P tab0.sum Try.f40 nsRMay (cRMay2 l es bs i) =
  Tree.ite (decide (i < (↑bs.length : Int)))
  (Tree.need ((0 : Int) ≤ i)
    (Tree.need (i < (↑bs.length : Int))
      (Tree.ite (decide (i > (0 : Int))) (Tree.ite (decide ((↑(ByteArray.size (bs.getD i.toNat (CL.d [CK.str, CK.int IntKind.i64])).fst) : Int) < (1 : Int))) (Tree.ret [AObj.own [AV.s (SV.bool l), AV.s (SV.ro (Con.typ [CK.str, CK.str] es)), AV.s (SV.ro (Con.typ [CK.str, CK.int IntKind.i64] bs))] (25 : Nat)] (AV.s (SV.blit false))) (Tree.ite (decide ((↑(ByteArray.size (bs.getD i.toNat (CL.d [CK.str, CK.int IntKind.i64])).fst) : Int) > (24 : Int))) (Tree.ret [AObj.own [AV.s (SV.bool l), AV.s (SV.ro (Con.typ [CK.str, CK.str] es)), AV.s (SV.ro (Con.typ [CK.str, CK.int IntKind.i64] bs))] (25 : Nat)] (AV.s (SV.blit false))) (Tree.need ((0 : Int) ≤ i) (Tree.need (i < (↑bs.length : Int)) (Tree.ite (decide ((bs.getD i.toNat (CL.d [CK.str, CK.int IntKind.i64])).snd.fst < (2 : Int))) (Tree.ret [AObj.own [AV.s (SV.bool l), AV.s (SV.ro (Con.typ [CK.str, CK.str] es)), AV.s (SV.ro (Con.typ [CK.str, CK.int IntKind.i64] bs))] (25 : Nat)] (AV.s (SV.blit false))) (Tree.need ((0 : Int) ≤ i) (Tree.need (i < (↑bs.length : Int)) (Tree.ite (decide ((bs.getD i.toNat (CL.d [CK.str, CK.int IntKind.i64])).snd.fst > (1023 : Int))) (Tree.ret [AObj.own [AV.s (SV.bool l), AV.s (SV.ro (Con.typ [CK.str, CK.str] es)), AV.s (SV.ro (Con.typ [CK.str, CK.int IntKind.i64] bs))] (25 : Nat)] (AV.s (SV.blit false))) (Tree.ite (decide (i > (0 : Int))) (Tree.need (inI64 (i - (1 : Int))) (Tree.need ((0 : Int) ≤ i - (1 : Int)) (Tree.need (i - (1 : Int) < (↑bs.length : Int)) (Tree.ite (!slt (bs.getD (i - (1 : Int)).toNat (CL.d [CK.str, CK.int IntKind.i64])).fst (bs.getD i.toNat (CL.d [CK.str, CK.int IntKind.i64])).fst) (Tree.ret [AObj.own [AV.s (SV.bool l), AV.s (SV.ro (Con.typ [CK.str, CK.str] es)), AV.s (SV.ro (Con.typ [CK.str, CK.int IntKind.i64] bs))] (25 : Nat)] (AV.s (SV.blit false))) (Tree.need (inI64 (i + (1 : Int))) (Tree.at (Cfg.mk (sl (130 : Nat) [((1 : Nat), AV.ptr (0 : Nat) (0 : Nat)), ((5 : Nat), AV.s (SV.int IntKind.i64 (i + (1 : Int))))]) [AObj.own [AV.s (SV.bool l), AV.s (SV.ro (Con.typ [CK.str, CK.str] es)), AV.s (SV.ro (Con.typ [CK.str, CK.int IntKind.i64] bs))] (25 : Nat)] (hd Try.f40 (10 : Nat)) (Stk.mk none false (0 : Nat) [] (0 : Nat))))))))) (Tree.need (inI64 (i + (1 : Int))) (Tree.at (Cfg.mk (sl (130 : Nat) [((1 : Nat), AV.ptr (0 : Nat) (0 : Nat)), ((5 : Nat), AV.s (SV.int IntKind.i64 (i + (1 : Int))))]) [AObj.own [AV.s (SV.bool l), AV.s (SV.ro (Con.typ [CK.str, CK.str] es)), AV.s (SV.ro (Con.typ [CK.str, CK.int IntKind.i64] bs))] (25 : Nat)] (hd Try.f40 (10 : Nat)) (Stk.mk none false (0 : Nat) [] (0 : Nat))))))))))))))
        (Tree.ite (decide ((↑(ByteArray.size (bs.getD i.toNat (CL.d [CK.str, CK.int IntKind.i64])).fst) : Int) > (24 : Int))) (Tree.ret [AObj.own [AV.s (SV.bool l), AV.s (SV.ro (Con.typ [CK.str, CK.str] es)), AV.s (SV.ro (Con.typ [CK.str, CK.int IntKind.i64] bs))] (25 : Nat)] (AV.s (SV.blit false))) (Tree.need ((0 : Int) ≤ i) (Tree.need (i < (↑bs.length : Int)) (Tree.ite (decide ((bs.getD i.toNat (CL.d [CK.str, CK.int IntKind.i64])).snd.fst < (2 : Int))) (Tree.ret [AObj.own [AV.s (SV.bool l), AV.s (SV.ro (Con.typ [CK.str, CK.str] es)), AV.s (SV.ro (Con.typ [CK.str, CK.int IntKind.i64] bs))] (25 : Nat)] (AV.s (SV.blit false))) (Tree.need ((0 : Int) ≤ i) (Tree.need (i < (↑bs.length : Int)) (Tree.ite (decide ((bs.getD i.toNat (CL.d [CK.str, CK.int IntKind.i64])).snd.fst > (1023 : Int))) (Tree.ret [AObj.own [AV.s (SV.bool l), AV.s (SV.ro (Con.typ [CK.str, CK.str] es)), AV.s (SV.ro (Con.typ [CK.str, CK.int IntKind.i64] bs))] (25 : Nat)] (AV.s (SV.blit false))) (Tree.ite (decide (i > (0 : Int))) (Tree.need (inI64 (i - (1 : Int))) (Tree.need ((0 : Int) ≤ i - (1 : Int)) (Tree.need (i - (1 : Int) < (↑bs.length : Int)) (Tree.ite (!slt (bs.getD (i - (1 : Int)).toNat (CL.d [CK.str, CK.int IntKind.i64])).fst (bs.getD i.toNat (CL.d [CK.str, CK.int IntKind.i64])).fst) (Tree.ret [AObj.own [AV.s (SV.bool l), AV.s (SV.ro (Con.typ [CK.str, CK.str] es)), AV.s (SV.ro (Con.typ [CK.str, CK.int IntKind.i64] bs))] (25 : Nat)] (AV.s (SV.blit false))) (Tree.need (inI64 (i + (1 : Int))) (Tree.at (Cfg.mk (sl (130 : Nat) [((1 : Nat), AV.ptr (0 : Nat) (0 : Nat)), ((5 : Nat), AV.s (SV.int IntKind.i64 (i + (1 : Int))))]) [AObj.own [AV.s (SV.bool l), AV.s (SV.ro (Con.typ [CK.str, CK.str] es)), AV.s (SV.ro (Con.typ [CK.str, CK.int IntKind.i64] bs))] (25 : Nat)] (hd Try.f40 (10 : Nat)) (Stk.mk none false (0 : Nat) [] (0 : Nat))))))))) (Tree.need (inI64 (i + (1 : Int))) (Tree.at (Cfg.mk (sl (130 : Nat) [((1 : Nat), AV.ptr (0 : Nat) (0 : Nat)), ((5 : Nat), AV.s (SV.int IntKind.i64 (i + (1 : Int))))]) [AObj.own [AV.s (SV.bool l), AV.s (SV.ro (Con.typ [CK.str, CK.str] es)), AV.s (SV.ro (Con.typ [CK.str, CK.int IntKind.i64] bs))] (25 : Nat)] (hd Try.f40 (10 : Nat)) (Stk.mk none false (0 : Nat) [] (0 : Nat))))))))))))))))
  (Tree.ret [AObj.own [AV.s (SV.bool l), AV.s (SV.ro (Con.typ [CK.str, CK.str] es)), AV.s (SV.ro (Con.typ [CK.str, CK.int IntKind.i64] bs))] (25 : Nat)] (AV.s (SV.blit true))) := by kernel_rfl
def nsRSize : List (Nat × Norm) := [(3, ⟨[], [1, 3, 4], 0, []⟩), (7, ⟨[], [1, 3, 5], 0, []⟩)]
noncomputable def cRSize1 (l : Bool) (es : List En) (bs : List Br) (a i : Int) : Cfg := ⟨sl 49 [(1, .ptr 0 0), (3, .s (.int .i64 a)), (4, .s (.int .i64 i))], [obN l es bs eRN], hd Try.f41 3, {}⟩
noncomputable def cRSize2 (l : Bool) (es : List En) (bs : List Br) (a i : Int) : Cfg := ⟨sl 49 [(1, .ptr 0 0), (3, .s (.int .i64 a)), (5, .s (.int .i64 i))], [obN l es bs eRN], hd Try.f41 7, {}⟩
theorem treeRSize (l : Bool) (es : List En) (bs : List Br) : run P tab0.sum Try.f41 nsRSize (start Try.f41 [avN l es bs] []) =
  Tree.at (Cfg.mk (sl (49 : Nat) [((1 : Nat), AV.ptr (0 : Nat) (0 : Nat)), ((3 : Nat), AV.s (SV.int IntKind.i64 (1 : Int))), ((4 : Nat), AV.s (SV.int IntKind.i64 (0 : Int)))]) [AObj.own [AV.s (SV.bool l), AV.s (SV.ro (Con.typ [CK.str, CK.str] es)), AV.s (SV.ro (Con.typ [CK.str, CK.int IntKind.i64] bs))] (25 : Nat)] (hd Try.f41 (3 : Nat)) (Stk.mk none false (0 : Nat) [] (0 : Nat))) := by kernel_rfl
theorem loopRSize1 (l : Bool) (es : List En) (bs : List Br) (a i : Int) : run P tab0.sum Try.f41 nsRSize (cRSize1 l es bs a i) =
  Tree.ite (decide (i < (↑es.length : Int))) (Tree.need (inI64 (a + (2 : Int))) (Tree.need ((0 : Int) ≤ i) (Tree.need (i < (↑es.length : Int)) (Tree.need (inI64 (a + (2 : Int) + (↑(ByteArray.size (es.getD i.toNat (CL.d [CK.str, CK.str])).fst) : Int))) (Tree.need ((0 : Int) ≤ i) (Tree.need (i < (↑es.length : Int)) (Tree.need (inI64 (a + (2 : Int) + (↑(ByteArray.size (es.getD i.toNat (CL.d [CK.str, CK.str])).fst) : Int) + (↑(ByteArray.size (es.getD i.toNat (CL.d [CK.str, CK.str])).snd.fst) : Int))) (Tree.need (inI64 (i + (1 : Int))) (Tree.at (Cfg.mk (sl (49 : Nat) [((1 : Nat), AV.ptr (0 : Nat) (0 : Nat)), ((3 : Nat), AV.s (SV.int IntKind.i64 (a + (2 : Int) + (↑(ByteArray.size (es.getD i.toNat (CL.d [CK.str, CK.str])).fst) : Int) + (↑(ByteArray.size (es.getD i.toNat (CL.d [CK.str, CK.str])).snd.fst) : Int)))), ((4 : Nat), AV.s (SV.int IntKind.i64 (i + (1 : Int))))]) [AObj.own [AV.s (SV.bool l), AV.s (SV.ro (Con.typ [CK.str, CK.str] es)), AV.s (SV.ro (Con.typ [CK.str, CK.int IntKind.i64] bs))] (25 : Nat)] (hd Try.f41 (3 : Nat)) (Stk.mk none false (0 : Nat) [] (0 : Nat)))))))))))) (Tree.at (Cfg.mk (sl (49 : Nat) [((1 : Nat), AV.ptr (0 : Nat) (0 : Nat)), ((3 : Nat), AV.s (SV.int IntKind.i64 a)), ((5 : Nat), AV.s (SV.int IntKind.i64 (0 : Int)))]) [AObj.own [AV.s (SV.bool l), AV.s (SV.ro (Con.typ [CK.str, CK.str] es)), AV.s (SV.ro (Con.typ [CK.str, CK.int IntKind.i64] bs))] (25 : Nat)] (hd Try.f41 (7 : Nat)) (Stk.mk none false (0 : Nat) [] (0 : Nat)))) := by kernel_rfl
theorem loopRSize2 (l : Bool) (es : List En) (bs : List Br) (a i : Int) : run P tab0.sum Try.f41 nsRSize (cRSize2 l es bs a i) =
  Tree.ite (decide (i < (↑bs.length : Int))) (Tree.need (inI64 (a + (3 : Int))) (Tree.need ((0 : Int) ≤ i) (Tree.need (i < (↑bs.length : Int)) (Tree.need (inI64 (a + (3 : Int) + (↑(ByteArray.size (bs.getD i.toNat (CL.d [CK.str, CK.int IntKind.i64])).fst) : Int))) (Tree.need (inI64 (i + (1 : Int))) (Tree.at (Cfg.mk (sl (49 : Nat) [((1 : Nat), AV.ptr (0 : Nat) (0 : Nat)), ((3 : Nat), AV.s (SV.int IntKind.i64 (a + (3 : Int) + (↑(ByteArray.size (bs.getD i.toNat (CL.d [CK.str, CK.int IntKind.i64])).fst) : Int)))), ((5 : Nat), AV.s (SV.int IntKind.i64 (i + (1 : Int))))]) [AObj.own [AV.s (SV.bool l), AV.s (SV.ro (Con.typ [CK.str, CK.str] es)), AV.s (SV.ro (Con.typ [CK.str, CK.int IntKind.i64] bs))] (25 : Nat)] (hd Try.f41 (7 : Nat)) (Stk.mk none false (0 : Nat) [] (0 : Nat))))))))) (Tree.ret [AObj.own [AV.s (SV.bool l), AV.s (SV.ro (Con.typ [CK.str, CK.str] es)), AV.s (SV.ro (Con.typ [CK.str, CK.int IntKind.i64] bs))] (25 : Nat)] (AV.s (SV.int IntKind.i64 a))) := by kernel_rfl
abbrev sRSize := sumOf [tRN] [tInt] (fun ((_, es, bs, ()), ()) => [smallE es, smallB bs]) (fun ((_, es, bs, ()), ()) => (sizeN es bs, ()))
def tabRFi : Tab := [(41, sRSize)]
theorem treeRFits (l : Bool) (es : List En) (bs : List Br) : run P tabRFi.sum Try.f42 [] (start Try.f42 [avN l es bs] []) =
  Tree.need (smallE es) (Tree.need (smallB bs) (Tree.ret [AObj.own [AV.s (SV.bool l), AV.s (SV.ro (Con.typ [CK.str, CK.str] es)), AV.s (SV.ro (Con.typ [CK.str, CK.int IntKind.i64] bs))] (25 : Nat)] (AV.s (SV.bool (decide (sizeN es bs ≤ (254 : Int))))))) := by kernel_rfl
def nsREnts : List (Nat × Norm) := [(4, ⟨[], [0, 1, 5], 0, []⟩)]
noncomputable def cREnts (a b : List En) (i : Int) : Cfg := ⟨sl 26 [(0, .s (.ro (.typ cE a))), (1, .s (.ro (.typ cE b))), (5, .s (.int .i64 i))], [], hd Try.f53 4, {}⟩
theorem treeREnts (a b : List En) : run P tab0.sum Try.f53 nsREnts (start Try.f53 [.s (.ro (.typ cE a)), .s (.ro (.typ cE b))] []) =
  Tree.ite ((↑a.length : Int) != (↑b.length : Int)) (Tree.ret [] (AV.s (SV.blit false))) (Tree.at (Cfg.mk (sl (26 : Nat) [((0 : Nat), AV.s (SV.ro (Con.typ [CK.str, CK.str] a))), ((1 : Nat), AV.s (SV.ro (Con.typ [CK.str, CK.str] b))), ((5 : Nat), AV.s (SV.int IntKind.i64 (0 : Int)))]) [] (hd Try.f53 (4 : Nat)) (Stk.mk none false (0 : Nat) [] (0 : Nat)))) := by kernel_rfl
theorem loopREnts (a b : List En) (i : Int) : run P tab0.sum Try.f53 nsREnts (cREnts a b i) =
  Tree.ite (decide (i < (↑a.length : Int))) (Tree.need ((0 : Int) ≤ i) (Tree.need (i < (↑a.length : Int)) (Tree.need ((0 : Int) ≤ i) (Tree.need (i < (↑b.length : Int)) (Tree.ite (!(decide ((a.getD i.toNat (CL.d [CK.str, CK.str])).fst = (b.getD i.toNat (CL.d [CK.str, CK.str])).fst) && (decide ((a.getD i.toNat (CL.d [CK.str, CK.str])).snd.fst = (b.getD i.toNat (CL.d [CK.str, CK.str])).snd.fst) && true))) (Tree.ret [] (AV.s (SV.blit false))) (Tree.need (inI64 (i + (1 : Int))) (Tree.at (Cfg.mk (sl (26 : Nat) [((0 : Nat), AV.s (SV.ro (Con.typ [CK.str, CK.str] a))), ((1 : Nat), AV.s (SV.ro (Con.typ [CK.str, CK.str] b))), ((5 : Nat), AV.s (SV.int IntKind.i64 (i + (1 : Int))))]) [] (hd Try.f53 (4 : Nat)) (Stk.mk none false (0 : Nat) [] (0 : Nat)))))))))) (Tree.ret [] (AV.s (SV.blit true))) := by kernel_rfl
abbrev sREnts := sumOf [tREs, tREs] [tBool] (fun _ => []) (fun (a, b, ()) => (eqEs a b, ()))
def tabRSame : Tab := [(53, sREnts)]
def nsRSame : List (Nat × Norm) := [(4, ⟨[], [2, 3, 5], 0, []⟩)]
noncomputable def cRSame (l l' : Bool) (a b : List En) (c d : List Br) (i : Int) : Cfg := ⟨sl 46 [(2, .ptr 0 0), (3, .ptr 1 0), (5, .s (.int .i64 i))], [obN l a c eRN, obN l' b d eRN], hd Try.f43 4, {}⟩
theorem treeRSame (l l' : Bool) (a b : List En) (c d : List Br) : run P tabRSame.sum Try.f43 nsRSame (start Try.f43 [avN l a c, avN l' b d] []) =
  Tree.ite (!l == l') (Tree.ret [AObj.own [AV.s (SV.bool l), AV.s (SV.ro (Con.typ [CK.str, CK.str] a)), AV.s (SV.ro (Con.typ [CK.str, CK.int IntKind.i64] c))] (25 : Nat), AObj.own [AV.s (SV.bool l'), AV.s (SV.ro (Con.typ [CK.str, CK.str] b)), AV.s (SV.ro (Con.typ [CK.str, CK.int IntKind.i64] d))] (25 : Nat)] (AV.s (SV.blit false))) (Tree.ite (!eqEs a b) (Tree.ret [AObj.own [AV.s (SV.bool l), AV.s (SV.ro (Con.typ [CK.str, CK.str] a)), AV.s (SV.ro (Con.typ [CK.str, CK.int IntKind.i64] c))] (25 : Nat), AObj.own [AV.s (SV.bool l'), AV.s (SV.ro (Con.typ [CK.str, CK.str] b)), AV.s (SV.ro (Con.typ [CK.str, CK.int IntKind.i64] d))] (25 : Nat)] (AV.s (SV.blit false))) (Tree.ite ((↑c.length : Int) != (↑d.length : Int)) (Tree.ret [AObj.own [AV.s (SV.bool l), AV.s (SV.ro (Con.typ [CK.str, CK.str] a)), AV.s (SV.ro (Con.typ [CK.str, CK.int IntKind.i64] c))] (25 : Nat), AObj.own [AV.s (SV.bool l'), AV.s (SV.ro (Con.typ [CK.str, CK.str] b)), AV.s (SV.ro (Con.typ [CK.str, CK.int IntKind.i64] d))] (25 : Nat)] (AV.s (SV.blit false))) (Tree.at (Cfg.mk (sl (46 : Nat) [((2 : Nat), AV.ptr (0 : Nat) (0 : Nat)), ((3 : Nat), AV.ptr (1 : Nat) (0 : Nat)), ((5 : Nat), AV.s (SV.int IntKind.i64 (0 : Int)))]) [AObj.own [AV.s (SV.bool l), AV.s (SV.ro (Con.typ [CK.str, CK.str] a)), AV.s (SV.ro (Con.typ [CK.str, CK.int IntKind.i64] c))] (25 : Nat), AObj.own [AV.s (SV.bool l'), AV.s (SV.ro (Con.typ [CK.str, CK.str] b)), AV.s (SV.ro (Con.typ [CK.str, CK.int IntKind.i64] d))] (25 : Nat)] (hd Try.f43 (4 : Nat)) (Stk.mk none false (0 : Nat) [] (0 : Nat)))))) := by kernel_rfl
theorem loopRSame (l l' : Bool) (a b : List En) (c d : List Br) (i : Int) : run P tabRSame.sum Try.f43 nsRSame (cRSame l l' a b c d i) =
  Tree.ite (decide (i < (↑c.length : Int))) (Tree.need ((0 : Int) ≤ i) (Tree.need (i < (↑c.length : Int)) (Tree.need ((0 : Int) ≤ i) (Tree.need (i < (↑d.length : Int)) (Tree.ite (!(decide ((c.getD i.toNat (CL.d [CK.str, CK.int IntKind.i64])).fst = (d.getD i.toNat (CL.d [CK.str, CK.int IntKind.i64])).fst) && ((c.getD i.toNat (CL.d [CK.str, CK.int IntKind.i64])).snd.fst == (d.getD i.toNat (CL.d [CK.str, CK.int IntKind.i64])).snd.fst && true))) (Tree.ret [AObj.own [AV.s (SV.bool l), AV.s (SV.ro (Con.typ [CK.str, CK.str] a)), AV.s (SV.ro (Con.typ [CK.str, CK.int IntKind.i64] c))] (25 : Nat), AObj.own [AV.s (SV.bool l'), AV.s (SV.ro (Con.typ [CK.str, CK.str] b)), AV.s (SV.ro (Con.typ [CK.str, CK.int IntKind.i64] d))] (25 : Nat)] (AV.s (SV.blit false))) (Tree.need (inI64 (i + (1 : Int))) (Tree.at (Cfg.mk (sl (46 : Nat) [((2 : Nat), AV.ptr (0 : Nat) (0 : Nat)), ((3 : Nat), AV.ptr (1 : Nat) (0 : Nat)), ((5 : Nat), AV.s (SV.int IntKind.i64 (i + (1 : Int))))]) [AObj.own [AV.s (SV.bool l), AV.s (SV.ro (Con.typ [CK.str, CK.str] a)), AV.s (SV.ro (Con.typ [CK.str, CK.int IntKind.i64] c))] (25 : Nat), AObj.own [AV.s (SV.bool l'), AV.s (SV.ro (Con.typ [CK.str, CK.str] b)), AV.s (SV.ro (Con.typ [CK.str, CK.int IntKind.i64] d))] (25 : Nat)] (hd Try.f43 (4 : Nat)) (Stk.mk none false (0 : Nat) [] (0 : Nat)))))))))) (Tree.ret [AObj.own [AV.s (SV.bool l), AV.s (SV.ro (Con.typ [CK.str, CK.str] a)), AV.s (SV.ro (Con.typ [CK.str, CK.int IntKind.i64] c))] (25 : Nat), AObj.own [AV.s (SV.bool l'), AV.s (SV.ro (Con.typ [CK.str, CK.str] b)), AV.s (SV.ro (Con.typ [CK.str, CK.int IntKind.i64] d))] (25 : Nat)] (AV.s (SV.blit true))) := by kernel_rfl
theorem okE_iff {es : List En} {k : Nat} : okE es k = true ↔ (1 ≤ (es.getD k dE).1.size ∧ (es.getD k dE).1.size ≤ 24 ∧ (es.getD k dE).2.1.size ≤ 100 ∧ (0 < k → slt (es.getD (k - 1) dE).1 (es.getD k dE).1 = true)) := by
  simp only [okE, Bool.not_eq_true', Bool.or_eq_false_iff, Bool.and_eq_false_iff, decide_eq_false_iff_not, Bool.not_eq_false']
  constructor
  · rintro ⟨⟨⟨h1, h2⟩, h3⟩, h4⟩
    exact ⟨Nat.pos_of_ne_zero fun e => h1 (size_zero e), by omega, by omega, fun h => h4.resolve_left (fun g => g h)⟩
  · rintro ⟨h1, h2, h3, h4⟩
    exact ⟨⟨⟨fun e => (by rw [e] at h1; simp at h1), by omega⟩, by omega⟩, (Decidable.em (0 < k)).elim (fun h => .inr (h4 h)) .inl⟩
theorem okB_iff {bs : List Br} {k : Nat} : okB bs k = true ↔ ((bs.getD k dB).1.size ≤ 24 ∧ 2 ≤ (bs.getD k dB).2.1 ∧ (bs.getD k dB).2.1 ≤ 1023 ∧ (0 < k → slt (bs.getD (k - 1) dB).1 (bs.getD k dB).1 = true)) := by
  simp only [okB, Bool.not_eq_true', Bool.or_eq_false_iff, Bool.and_eq_false_iff, decide_eq_false_iff_not, Bool.not_eq_false']
  constructor
  · rintro ⟨⟨⟨h1, h2⟩, h3⟩, h4⟩
    exact ⟨by omega, by omega, by omega, fun h => h4.resolve_left (fun g => g h)⟩
  · rintro ⟨h1, h2, h3, h4⟩
    exact ⟨⟨⟨by omega, by omega⟩, by omega⟩, (Decidable.em (0 < k)).elim (fun h => .inr (h4 h)) .inl⟩
theorem slt_pos {a b : ByteArray} (h : slt a b = true) : 1 ≤ b.size := Nat.pos_of_ne_zero fun e => by rw [size_zero e, slt_empty] at h; cases h

theorem rmay_ok {Z : Glob} : FnOk P Z 40 [tRN] [tBool] (fun _ => []) (fun ((l, es, bs, ()), ()) => (mayN l es bs, ())) := by
  refine fnOk_of_safe Try.func40 (by kernel_rfl) (by kernel_rfl) ?_
  rintro ⟨⟨(l : Bool), (es : List En), (bs : List Br), ⟨⟩⟩, ⟨⟩⟩ ⟨⟨_, hle, hlb, _⟩, _⟩ _ X hX hz
  have hle : es.length ≤ 9223372036854775807 := hle
  have hlb : bs.length ≤ 9223372036854775807 := hlb
  have second : okEs es = true → mayN l es bs = okBs bs → ∀ (n k : Nat), k + n = bs.length → (∀ j, j < k → okB bs j = true) → Safe P 40 X (Ends [tBool] (mayN l es bs, ())) (cRMay2 l es bs (k : Int)) := by
    intro he hm n
    induction n with
    | zero =>
      intro k hk hp
      refine go hz hX Tab.Ok.nil Try.func40 (loopRMay2 l es bs k) ⟨fun h => absurd (of_decide_eq_true h) (by omega), fun h => ends_isl ?_⟩
      rw [hm]
      exact all_yes (fun j hj => hp j (by omega))
    | succ n ih =>
      intro k hk hp
      have no : ¬ (((bs.getD k dB).1.size ≤ 24 ∧ 2 ≤ (bs.getD k dB).2.1 ∧ (bs.getD k dB).2.1 ≤ 1023 ∧ (0 < k → slt (bs.getD (k - 1) dB).1 (bs.getD k dB).1 = true))) → mayN l es bs = false := fun h => by
        rw [hm]; exact all_no (i := k) (by omega) (Bool.eq_false_iff.2 fun e => h (okB_iff.1 e))
      have yes : ((bs.getD k dB).1.size ≤ 24 ∧ 2 ≤ (bs.getD k dB).2.1 ∧ (bs.getD k dB).2.1 ≤ 1023 ∧ (0 < k → slt (bs.getD (k - 1) dB).1 (bs.getD k dB).1 = true)) → Safe P 40 X (Ends [tBool] (mayN l es bs, ())) (cRMay2 l es bs ((k : Int) + 1)) := fun h =>
        ih (k + 1) (by omega) (fun j hj => (Decidable.em (j = k)).elim (fun e => by subst e; exact okB_iff.2 h) (fun e => hp j (by omega)))
      refine go hz hX Tab.Ok.nil Try.func40 (loopRMay2 l es bs k) ⟨fun h => ⟨by omega, by omega, ?_⟩, fun h => absurd (of_decide_eq_false h) (by omega)⟩
      simp only [Int.toNat_natCast]
      have r1 : decide (((bs.getD k dB).1.size : Int) > 24) = true → mayN l es bs = false := fun h => no fun g => absurd (of_decide_eq_true h) (by omega)
      have r2 : decide ((bs.getD k dB).2.1 < 2) = true → mayN l es bs = false := fun h => no fun g => absurd (of_decide_eq_true h) (by omega)
      have r3 : decide ((bs.getD k dB).2.1 > 1023) = true → mayN l es bs = false := fun h => no fun g => absurd (of_decide_eq_true h) (by omega)
      have tail : decide (((bs.getD k dB).1.size : Int) > 24) = false → decide ((bs.getD k dB).2.1 < 2) = false → decide ((bs.getD k dB).2.1 > 1023) = false → (0 < k → slt (bs.getD (k - 1) dB).1 (bs.getD k dB).1 = true) → Safe P 40 X (Ends [tBool] (mayN l es bs, ())) (cRMay2 l es bs ((k : Int) + 1)) := fun a b c d => by
        have a := of_decide_eq_false a
        have b := of_decide_eq_false b
        have c := of_decide_eq_false c
        exact yes ⟨by omega, by omega, by omega, d⟩
      refine ⟨fun h0 => ?_, fun h0 => ?_⟩
      · have h0 : (k : Int) > 0 := of_decide_eq_true h0
        rw [show ((k : Int) - 1).toNat = k - 1 from by omega]
        refine ⟨fun a => ends_isl (no fun g => ?_), fun _ => ⟨fun a => ends_isl (r1 a), fun a => ⟨by omega, by omega, fun b => ends_isl (r2 b), fun b => ⟨by omega, by omega, fun c => ends_isl (r3 c), fun c => ⟨fun _ => ⟨⟨by omega, by omega⟩, by omega, by omega, fun d => ends_isl (no fun g => ?_), fun d => ⟨⟨by omega, by omega⟩, tail a b c fun _ => ?_⟩⟩, fun h => absurd (of_decide_eq_false h) (by omega)⟩⟩⟩⟩⟩
        · have := slt_pos (g.2.2.2 (by omega))
          have a : (((bs.getD k dB).1.size : Int) < 1) := of_decide_eq_true a
          omega
        · have d : (!slt (bs.getD (k - 1) dB).1 (bs.getD k dB).1) = true := d
          rw [g.2.2.2 (by omega)] at d; cases d
        · have d : (!slt (bs.getD (k - 1) dB).1 (bs.getD k dB).1) = false := d
          simpa using d
      · have h0 : ¬ (k : Int) > 0 := of_decide_eq_false h0
        exact ⟨fun a => ends_isl (r1 a), fun a => ⟨by omega, by omega, fun b => ends_isl (r2 b), fun b => ⟨by omega, by omega, fun c => ends_isl (r3 c), fun c => ⟨fun h => absurd (of_decide_eq_true h) (by omega), fun _ => ⟨⟨by omega, by omega⟩, tail a b c fun h => absurd h (by omega)⟩⟩⟩⟩⟩
  have first : mayN l es bs = (okEs es && okBs bs) → ∀ (n k : Nat), k + n = es.length → (∀ j, j < k → okE es j = true) → Safe P 40 X (Ends [tBool] (mayN l es bs, ())) (cRMay1 l es bs (k : Int)) := by
    intro hm n
    induction n with
    | zero =>
      intro k hk hp
      have he : okEs es = true := all_yes (fun j hj => hp j (by omega))
      refine go hz hX Tab.Ok.nil Try.func40 (loopRMay1 l es bs k) ⟨fun h => absurd (of_decide_eq_true h) (by omega), fun h => ?_⟩
      exact second he (by rw [hm, he]; rfl) bs.length 0 (by omega) (fun j hj => by omega)
    | succ n ih =>
      intro k hk hp
      have no : ¬ (1 ≤ (es.getD k dE).1.size ∧ (es.getD k dE).1.size ≤ 24 ∧ (es.getD k dE).2.1.size ≤ 100 ∧ (0 < k → slt (es.getD (k - 1) dE).1 (es.getD k dE).1 = true)) → mayN l es bs = false := fun h => by
        have : okEs es = false := all_no (i := k) (by omega) (Bool.eq_false_iff.2 fun e => h (okE_iff.1 e))
        rw [hm, this]; rfl
      have yes : (1 ≤ (es.getD k dE).1.size ∧ (es.getD k dE).1.size ≤ 24 ∧ (es.getD k dE).2.1.size ≤ 100 ∧ (0 < k → slt (es.getD (k - 1) dE).1 (es.getD k dE).1 = true)) → Safe P 40 X (Ends [tBool] (mayN l es bs, ())) (cRMay1 l es bs ((k : Int) + 1)) := fun h =>
        ih (k + 1) (by omega) (fun j hj => (Decidable.em (j = k)).elim (fun e => by subst e; exact okE_iff.2 h) (fun e => hp j (by omega)))
      refine go hz hX Tab.Ok.nil Try.func40 (loopRMay1 l es bs k) ⟨fun h => ⟨by omega, by omega, ?_⟩, fun h => absurd (of_decide_eq_false h) (by omega)⟩
      simp only [Int.toNat_natCast]
      have r0 : decide (((es.getD k dE).1.size : Int) < 1) = true → mayN l es bs = false := fun h => no fun g => absurd (of_decide_eq_true h) (by omega)
      have r1 : decide (((es.getD k dE).1.size : Int) > 24) = true → mayN l es bs = false := fun h => no fun g => absurd (of_decide_eq_true h) (by omega)
      have r2 : decide (((es.getD k dE).2.1.size : Int) > 100) = true → mayN l es bs = false := fun h => no fun g => absurd (of_decide_eq_true h) (by omega)
      have tail : decide (((es.getD k dE).1.size : Int) < 1) = false → decide (((es.getD k dE).1.size : Int) > 24) = false → decide (((es.getD k dE).2.1.size : Int) > 100) = false → (0 < k → slt (es.getD (k - 1) dE).1 (es.getD k dE).1 = true) → Safe P 40 X (Ends [tBool] (mayN l es bs, ())) (cRMay1 l es bs ((k : Int) + 1)) := fun a b c d => by
        have a := of_decide_eq_false a
        have b := of_decide_eq_false b
        have c := of_decide_eq_false c
        exact yes ⟨by omega, by omega, by omega, d⟩
      refine ⟨fun a => ends_isl (r0 a), fun a => ⟨fun b => ends_isl (r1 b), fun b => ⟨by omega, by omega, fun c => ends_isl (r2 c), fun c => ⟨fun h0 => ?_, fun h0 => ?_⟩⟩⟩⟩
      · have h0 : (k : Int) > 0 := of_decide_eq_true h0
        rw [show ((k : Int) - 1).toNat = k - 1 from by omega]
        refine ⟨⟨by omega, by omega⟩, by omega, by omega, fun d => ends_isl (no fun g => ?_), fun d => ⟨⟨by omega, by omega⟩, tail a b c fun _ => ?_⟩⟩
        · have d : (!slt (es.getD (k - 1) dE).1 (es.getD k dE).1) = true := d
          rw [g.2.2.2 (by omega)] at d; cases d
        · have d : (!slt (es.getD (k - 1) dE).1 (es.getD k dE).1) = false := d
          simpa using d
      · have h0 : ¬ (k : Int) > 0 := of_decide_eq_false h0
        exact ⟨⟨by omega, by omega⟩, tail a b c fun h => absurd h (by omega)⟩
  have body : ¬ ((l = true ∧ (bs.length : Int) > 0) ∨ (l = false ∧ (es.length : Int) > 0)) → Safe P 40 X (Ends [tBool] (mayN l es bs, ())) (cRMay1 l es bs 0) := fun h => by
    refine first ?_ es.length 0 (by omega) (fun j hj => by omega)
    have : ((l && decide ((bs.length : Int) > 0)) || (!l && decide ((es.length : Int) > 0))) = false := by
      cases l <;> simp at h ⊢ <;> omega
    rw [mayN, this]; rfl
  have bad : ((l = true ∧ (bs.length : Int) > 0) ∨ (l = false ∧ (es.length : Int) > 0)) → mayN l es bs = false := fun h => by
    have : ((l && decide ((bs.length : Int) > 0)) || (!l && decide ((es.length : Int) > 0))) = true := by
      rcases h with ⟨rfl, h⟩ | ⟨rfl, h⟩ <;> simp <;> omega
    rw [mayN, this]; rfl
  refine go hz hX Tab.Ok.nil Try.func40 (treeRMay l es bs) ⟨fun hl => ⟨fun h => ends_isl (bad (.inl ⟨hl, of_decide_eq_true h⟩)), fun h => ⟨fun hl' => ?_, fun _ => body ?_⟩⟩, fun hl => ⟨fun _ => ⟨fun h => ends_isl (bad (.inr ⟨hl, of_decide_eq_true h⟩)), fun h => body ?_⟩, fun h => ?_⟩⟩
  · subst hl; cases hl'
  · have h := of_decide_eq_false h
    rintro (⟨_, g⟩ | ⟨g, _⟩)
    · exact h g
    · rw [hl] at g; cases g
  · have h := of_decide_eq_false h
    rintro (⟨g, _⟩ | ⟨_, g⟩)
    · rw [hl] at g; cases g
    · exact h g
  · subst hl; cases h

theorem szE_r {es : List En} (h : smallE es) : ∀ x ∈ es.map szE, 0 ≤ x ∧ x ≤ 2002 := fun x hx => by
  obtain ⟨y, hy, rfl⟩ := List.mem_map.1 hx
  have := h.2 y hy
  unfold szE; omega
theorem szB_r {bs : List Br} (h : smallB bs) : ∀ x ∈ bs.map szB, 0 ≤ x ∧ x ≤ 2002 := fun x hx => by
  obtain ⟨y, hy, rfl⟩ := List.mem_map.1 hx
  have := h.2 y hy
  unfold szB; omega
theorem map_getD' {α β : Type} (f : α → β) (xs : List α) (d : β) (da : α) {i : Nat} (hi : i < xs.length) : (xs.map f).getD i d = f (xs.getD i da) := by simp [List.getD, hi]

theorem rsize_ok {Z : Glob} : FnOk P Z 41 [tRN] [tInt] (fun ((_, es, bs, ()), ()) => [smallE es, smallB bs]) (fun ((_, es, bs, ()), ()) => (sizeN es bs, ())) := by
  refine fnOk_of_safe Try.func41 (by kernel_rfl) (by kernel_rfl) ?_
  rintro ⟨⟨(l : Bool), (es : List En), (bs : List Br), ⟨⟩⟩, ⟨⟩⟩ _ ⟨(he : smallE es), (hb : smallB bs), _⟩ X hX hz
  have hre := szE_r he
  have hrb := szB_r hb
  have hle := he.1
  have hlb := hb.1
  have hte : 0 ≤ (es.map szE).sum ∧ (es.map szE).sum ≤ 2002 * (es.map szE).length := sum_range hre (by omega)
  rw [List.length_map] at hte
  show Safe P 41 X (Ends [tInt] (sizeN es bs, ())) _
  have second : ∀ (n k : Nat), k + n = bs.length → Safe P 41 X (Ends [tInt] (sizeN es bs, ())) (cRSize2 l es bs (1 + (es.map szE).sum + ((bs.map szB).take k).sum) (k : Int)) := by
    intro n
    induction n with
    | zero =>
      intro k hk
      refine go hz hX Tab.Ok.nil Try.func41 (loopRSize2 l es bs _ k) ⟨fun h => absurd (of_decide_eq_true h) (by omega), fun h => ends_ii ?_⟩
      rw [List.take_of_length_le (by rw [List.length_map]; omega), sizeN]
      omega
    | succ n ih =>
      intro k hk
      have h1 := sum_range (l := (bs.map szB).take k) (m := 2002) (fun x hx => hrb x (List.mem_of_mem_take hx)) (by omega)
      have h3 : ((bs.map szB).take k).length ≤ 1000 := by rw [List.length_take, List.length_map]; omega
      have h2 := small_getB hb k
      refine go hz hX Tab.Ok.nil Try.func41 (loopRSize2 l es bs _ k) ?_
      simp only [Int.toNat_natCast]
      refine ⟨fun h => ⟨⟨by omega, by omega⟩, by omega, by omega, ⟨?_, ?_⟩, ⟨by omega, by omega⟩, ?_⟩, fun h => absurd (of_decide_eq_false h) (by omega)⟩
      · show (-9223372036854775808 : Int) ≤ 1 + (es.map szE).sum + ((bs.map szB).take k).sum + 3 + ((bs.getD k dB).1.size : Int); omega
      · show 1 + (es.map szE).sum + ((bs.map szB).take k).sum + 3 + ((bs.getD k dB).1.size : Int) ≤ (9223372036854775807 : Int); omega
      · have := ih (k + 1) (by omega)
        rw [← sum_take_snoc (by rw [List.length_map]; omega), map_getD' szB bs 0 dB (by omega)] at this
        have e : 1 + (es.map szE).sum + ((bs.map szB).take k).sum + 3 + ((bs.getD k dB).1.size : Int) = 1 + (es.map szE).sum + (((bs.map szB).take k).sum + szB (bs.getD k dB)) := by unfold szB; omega
        rw [← e] at this
        exact this
  have first : ∀ (n k : Nat), k + n = es.length → Safe P 41 X (Ends [tInt] (sizeN es bs, ())) (cRSize1 l es bs (1 + ((es.map szE).take k).sum) (k : Int)) := by
    intro n
    induction n with
    | zero =>
      intro k hk
      refine go hz hX Tab.Ok.nil Try.func41 (loopRSize1 l es bs _ k) ⟨fun h => absurd (of_decide_eq_true h) (by omega), fun h => ?_⟩
      rw [List.take_of_length_le (by rw [List.length_map]; omega)]
      have := second bs.length 0 (by omega)
      simp only [List.take_zero, List.sum_nil, Int.add_zero] at this
      exact this
    | succ n ih =>
      intro k hk
      have h1 := sum_range (l := (es.map szE).take k) (m := 2002) (fun x hx => hre x (List.mem_of_mem_take hx)) (by omega)
      have h3 : ((es.map szE).take k).length ≤ 1000 := by rw [List.length_take, List.length_map]; omega
      have h2 := small_getE he k
      have e : 1 + ((es.map szE).take k).sum + 2 + ((es.getD k dE).1.size : Int) + ((es.getD k dE).2.1.size : Int) = 1 + (((es.map szE).take k).sum + szE (es.getD k dE)) := by unfold szE; omega
      refine go hz hX Tab.Ok.nil Try.func41 (loopRSize1 l es bs _ k) ?_
      simp only [Int.toNat_natCast]
      refine ⟨fun h => ⟨⟨by omega, by omega⟩, by omega, by omega, ⟨?_, ?_⟩, by omega, by omega, ⟨?_, ?_⟩, ⟨by omega, by omega⟩, ?_⟩, fun h => absurd (of_decide_eq_false h) (by omega)⟩
      · show (-9223372036854775808 : Int) ≤ 1 + ((es.map szE).take k).sum + 2 + ((es.getD k dE).1.size : Int); omega
      · show 1 + ((es.map szE).take k).sum + 2 + ((es.getD k dE).1.size : Int) ≤ (9223372036854775807 : Int); omega
      · show (-9223372036854775808 : Int) ≤ 1 + ((es.map szE).take k).sum + 2 + ((es.getD k dE).1.size : Int) + ((es.getD k dE).2.1.size : Int); omega
      · show 1 + ((es.map szE).take k).sum + 2 + ((es.getD k dE).1.size : Int) + ((es.getD k dE).2.1.size : Int) ≤ (9223372036854775807 : Int); omega
      · have := ih (k + 1) (by omega)
        rw [← sum_take_snoc (by rw [List.length_map]; omega), map_getD' szE es 0 dE (by omega), ← e] at this
        exact this
  have := first es.length 0 (by omega)
  exact go hz hX Tab.Ok.nil Try.func41 (treeRSize l es bs) this

theorem rfits_ok {Z : Glob} : FnOk P Z 42 [tRN] [tBool] (fun ((_, es, bs, ()), ()) => [smallE es, smallB bs]) (fun ((_, es, bs, ()), ()) => (decide (sizeN es bs ≤ 254), ())) := by
  refine fnOk_of_safe Try.func42 (by kernel_rfl) (by kernel_rfl) ?_
  rintro ⟨⟨(l : Bool), (es : List En), (bs : List Br), ⟨⟩⟩, ⟨⟩⟩ _ ⟨(he : smallE es), (hb : smallB bs), _⟩ X hX hz
  exact go hz hX (Tab.Ok.cons rsize_ok.sum Tab.Ok.nil) Try.func42 (treeRFits l es bs) ⟨he, hb, ends_b⟩

theorem rents_ok {Z : Glob} : FnOk P Z 53 [tREs, tREs] [tBool] (fun _ => []) (fun (a, b, ()) => (eqEs a b, ())) := by
  refine fnOk_of_safe Try.func53 (by kernel_rfl) (by kernel_rfl) ?_
  rintro ⟨(a : List En), (b : List En), ⟨⟩⟩ ⟨hla, hlb, _⟩ _ X hX hz
  have hla : a.length ≤ 9223372036854775807 := hla
  show Safe P 53 X (Ends [tBool] (eqEs a b, ())) _
  refine go hz hX Tab.Ok.nil Try.func53 (treeREnts a b) ⟨fun h => ends_isl ?_, fun h => ?_⟩
  · exact decide_eq_false (fun e => by subst e; simp at h)
  · have hl : a.length = b.length := Int.ofNat_inj.1 (by simpa using h)
    have loop : ∀ (n k : Nat), k + n = a.length → (∀ j, j < k → a.getD j dE = b.getD j dE) → Safe P 53 X (Ends [tBool] (eqEs a b, ())) (cREnts a b (k : Int)) := by
      intro n
      induction n with
      | zero =>
        intro k hk hp
        refine go hz hX Tab.Ok.nil Try.func53 (loopREnts a b k) ⟨fun h => absurd (of_decide_eq_true h) (by omega), fun h => ends_isl (decide_eq_true ?_)⟩
        refine List.ext_getElem hl fun j h1 h2 => ?_
        have := hp j (by omega)
        rwa [getD_lt h1, getD_lt h2] at this
      | succ n ih =>
        intro k hk hp
        refine go hz hX Tab.Ok.nil Try.func53 (loopREnts a b k) ⟨fun h => ⟨by omega, by omega, by omega, by omega, ?_⟩, fun h => absurd (of_decide_eq_false h) (by omega)⟩
        simp only [Int.toNat_natCast]
        have e := en_eq (a.getD k dE) (b.getD k dE)
        refine ⟨fun h1 => ends_isl ?_, fun h1 => ⟨⟨by omega, by omega⟩, ih (k + 1) (by omega) (fun j hj => ?_)⟩⟩
        · have h1 : (!decide (a.getD k dE = b.getD k dE)) = true := by rw [← e]; exact h1
          refine decide_eq_false (fun e => ?_)
          subst e; simp at h1
        · by_cases hj2 : j = k
          · subst hj2
            have h1 : (!decide (a.getD j dE = b.getD j dE)) = false := by rw [← e]; exact h1
            simpa using h1
          · exact hp j (by omega)
    exact loop a.length 0 (by omega) (fun j hj => by omega)

theorem rsame_ok {Z : Glob} : FnOk P Z 43 [tRN, tRN] [tBool] (fun _ => []) (fun ((l, es, bs, ()), (l', es', bs', ()), ()) => (sameN l es bs l' es' bs', ())) := by
  refine fnOk_of_safe Try.func43 (by kernel_rfl) (by kernel_rfl) ?_
  rintro ⟨⟨(l : Bool), (a : List En), (c : List Br), ⟨⟩⟩, ⟨(l' : Bool), (b : List En), (d : List Br), ⟨⟩⟩, ⟨⟩⟩ ⟨⟨_, _, hlc, _⟩, _⟩ _ X hX hz
  have hlc : c.length ≤ 9223372036854775807 := hlc
  show Safe P 43 X (Ends [tBool] (sameN l a c l' b d, ())) _
  have hT : tabRSame.Ok P Z := Tab.Ok.cons rents_ok.sum Tab.Ok.nil
  refine go hz hX hT Try.func43 (treeRSame l l' a b c d) ⟨fun h => ends_isl ?_, fun h0 => ⟨fun h => ends_isl ?_, fun h1 => ⟨fun h => ends_isl ?_, fun h => ?_⟩⟩⟩
  · show ((l == l') && (eqEs a b && eqBs c d)) = _
    have h : (!(l == l')) = true := h
    rw [show (l == l') = false from by simpa using h]; rfl
  · show ((l == l') && (eqEs a b && eqBs c d)) = _
    rw [show eqEs a b = false from by simpa using h]; simp
  · show ((l == l') && (eqEs a b && eqBs c d)) = _
    have : eqBs c d = false := decide_eq_false (fun e => by subst e; simp at h)
    rw [this]; simp
  · have hl : c.length = d.length := Int.ofNat_inj.1 (by simpa using h)
    have e0 : sameN l a c l' b d = eqBs c d := by
      show ((l == l') && (eqEs a b && eqBs c d)) = _
      have h0 : (!(l == l')) = false := h0
      rw [show (l == l') = true from by simpa using h0, show eqEs a b = true from by simpa using h1]; rfl
    rw [e0]
    have loop : ∀ (n k : Nat), k + n = c.length → (∀ j, j < k → c.getD j dB = d.getD j dB) → Safe P 43 X (Ends [tBool] (eqBs c d, ())) (cRSame l l' a b c d (k : Int)) := by
      intro n
      induction n with
      | zero =>
        intro k hk hp
        refine go hz hX hT Try.func43 (loopRSame l l' a b c d k) ⟨fun h => absurd (of_decide_eq_true h) (by omega), fun h => ends_isl (decide_eq_true ?_)⟩
        refine List.ext_getElem hl fun j h1 h2 => ?_
        have := hp j (by omega)
        rwa [getD_lt h1, getD_lt h2] at this
      | succ n ih =>
        intro k hk hp
        refine go hz hX hT Try.func43 (loopRSame l l' a b c d k) ⟨fun h => ⟨by omega, by omega, by omega, by omega, ?_⟩, fun h => absurd (of_decide_eq_false h) (by omega)⟩
        simp only [Int.toNat_natCast]
        have e := br_eq (c.getD k dB) (d.getD k dB)
        refine ⟨fun h1 => ends_isl ?_, fun h1 => ⟨⟨by omega, by omega⟩, ih (k + 1) (by omega) (fun j hj => ?_)⟩⟩
        · have h1 : (!decide (c.getD k dB = d.getD k dB)) = true := by rw [← e]; exact h1
          refine decide_eq_false (fun e => ?_)
          subst e; simp at h1
        · by_cases hj2 : j = k
          · subst hj2
            have h1 : (!decide (c.getD j dB = d.getD j dB)) = false := by rw [← e]; exact h1
            simpa using h1
          · exact hp j (by omega)
    exact loop c.length 0 (by omega) (fun j hj => by omega)
end Lf

namespace Lf
open Go Go.Sx Go.Proofs
abbrev sRMay := sumOf [tRN] [tBool] (fun _ => []) (fun ((l, es, bs, ()), ()) => (mayN l es bs, ()))
abbrev sRFits := sumOf [tRN] [tBool] (fun ((_, es, bs, ()), ()) => [smallE es, smallB bs]) (fun ((_, es, bs, ()), ()) => (decide (sizeN es bs ≤ 254), ()))
def tabREnc : Tab := [(40, sRMay), (42, sRFits)]
def nsREnc : List (Nat × Norm) := [(9, ⟨[], [1, 4, 5], 0, []⟩), (14, ⟨[], [1, 4, 7], 0, []⟩)]
noncomputable def cREnc1 (l : Bool) (es : List En) (bs : List Br) (s : ByteArray) (i : Int) : Cfg := ⟨sl 85 [(1, .ptr 0 0), (4, .s (.str s)), (5, .s (.int .i64 i))], [obN l es bs eRN], hd Try.f44 9, {}⟩
noncomputable def cREnc2 (l : Bool) (es : List En) (bs : List Br) (s : ByteArray) (i : Int) : Cfg := ⟨sl 85 [(1, .ptr 0 0), (4, .s (.str s)), (7, .s (.int .i64 i))], [obN l es bs eRN], hd Try.f44 14, {}⟩
theorem treeREnc (l : Bool) (es : List En) (bs : List Br) : run P tabREnc.sum Try.f44 nsREnc (start Try.f44 [avN l es bs] []) =
  Tree.ite (!mayN l es bs) (Tree.ret [AObj.own [AV.s (SV.bool l), AV.s (SV.ro (Con.typ [CK.str, CK.str] es)), AV.s (SV.ro (Con.typ [CK.str, CK.int IntKind.i64] bs))] (25 : Nat)] (AV.tup [AV.s (SV.str ByteArray.empty), AV.s (SV.ilit IntKind.i64 (4 : Int))])) (Tree.need (smallE es) (Tree.need (smallB bs) (Tree.ite (!decide (sizeN es bs ≤ (254 : Int))) (Tree.ret [AObj.own [AV.s (SV.bool l), AV.s (SV.ro (Con.typ [CK.str, CK.str] es)), AV.s (SV.ro (Con.typ [CK.str, CK.int IntKind.i64] bs))] (25 : Nat)] (AV.tup [AV.s (SV.str ByteArray.empty), AV.s (SV.ilit IntKind.i64 (40 : Int))])) (Tree.ite l (Tree.at (Cfg.mk (sl (85 : Nat) [((1 : Nat), AV.ptr (0 : Nat) (0 : Nat)), ((4 : Nat), AV.s (SV.str (ByteArray.mk #[(1 : UInt8)]))), ((5 : Nat), AV.s (SV.int IntKind.i64 (0 : Int)))]) [AObj.own [AV.s (SV.bool l), AV.s (SV.ro (Con.typ [CK.str, CK.str] es)), AV.s (SV.ro (Con.typ [CK.str, CK.int IntKind.i64] bs))] (25 : Nat)] (hd Try.f44 (9 : Nat)) (Stk.mk none false (0 : Nat) [] (0 : Nat)))) (Tree.at (Cfg.mk (sl (85 : Nat) [((1 : Nat), AV.ptr (0 : Nat) (0 : Nat)), ((4 : Nat), AV.s (SV.str (ByteArray.mk #[(2 : UInt8)]))), ((5 : Nat), AV.s (SV.int IntKind.i64 (0 : Int)))]) [AObj.own [AV.s (SV.bool l), AV.s (SV.ro (Con.typ [CK.str, CK.str] es)), AV.s (SV.ro (Con.typ [CK.str, CK.int IntKind.i64] bs))] (25 : Nat)] (hd Try.f44 (9 : Nat)) (Stk.mk none false (0 : Nat) [] (0 : Nat)))))))) := by kernel_rfl
theorem loopREnc1 (l : Bool) (es : List En) (bs : List Br) (s : ByteArray) (i : Int) : run P tabREnc.sum Try.f44 nsREnc (cREnc1 l es bs s i) =
  Tree.ite (decide (i < (↑es.length : Int))) (Tree.need ((0 : Int) ≤ i) (Tree.need (i < (↑es.length : Int)) (Tree.need (s.size + (bytesStr [IntKind.u8.wrap (↑(ByteArray.size (es.getD i.toNat (CL.d [CK.str, CK.str])).fst) : Int)]).size ≤ (4611686018427387904 : Nat)) (Tree.need ((s ++ bytesStr [IntKind.u8.wrap (↑(ByteArray.size (es.getD i.toNat (CL.d [CK.str, CK.str])).fst) : Int)]).size + ByteArray.size (es.getD i.toNat (CL.d [CK.str, CK.str])).fst ≤ (4611686018427387904 : Nat)) (Tree.need ((s ++ bytesStr [IntKind.u8.wrap (↑(ByteArray.size (es.getD i.toNat (CL.d [CK.str, CK.str])).fst) : Int)] ++ (es.getD i.toNat (CL.d [CK.str, CK.str])).fst).size + (bytesStr [IntKind.u8.wrap (↑(ByteArray.size (es.getD i.toNat (CL.d [CK.str, CK.str])).snd.fst) : Int)]).size ≤ (4611686018427387904 : Nat)) (Tree.need ((s ++ bytesStr [IntKind.u8.wrap (↑(ByteArray.size (es.getD i.toNat (CL.d [CK.str, CK.str])).fst) : Int)] ++ (es.getD i.toNat (CL.d [CK.str, CK.str])).fst ++ bytesStr [IntKind.u8.wrap (↑(ByteArray.size (es.getD i.toNat (CL.d [CK.str, CK.str])).snd.fst) : Int)]).size + ByteArray.size (es.getD i.toNat (CL.d [CK.str, CK.str])).snd.fst ≤ (4611686018427387904 : Nat)) (Tree.need (inI64 (i + (1 : Int))) (Tree.at (Cfg.mk (sl (85 : Nat) [((1 : Nat), AV.ptr (0 : Nat) (0 : Nat)), ((4 : Nat), AV.s (SV.str (s ++ bytesStr [IntKind.u8.wrap (↑(ByteArray.size (es.getD i.toNat (CL.d [CK.str, CK.str])).fst) : Int)] ++ (es.getD i.toNat (CL.d [CK.str, CK.str])).fst ++ bytesStr [IntKind.u8.wrap (↑(ByteArray.size (es.getD i.toNat (CL.d [CK.str, CK.str])).snd.fst) : Int)] ++ (es.getD i.toNat (CL.d [CK.str, CK.str])).snd.fst))), ((5 : Nat), AV.s (SV.int IntKind.i64 (i + (1 : Int))))]) [AObj.own [AV.s (SV.bool l), AV.s (SV.ro (Con.typ [CK.str, CK.str] es)), AV.s (SV.ro (Con.typ [CK.str, CK.int IntKind.i64] bs))] (25 : Nat)] (hd Try.f44 (9 : Nat)) (Stk.mk none false (0 : Nat) [] (0 : Nat))))))))))) (Tree.at (Cfg.mk (sl (85 : Nat) [((1 : Nat), AV.ptr (0 : Nat) (0 : Nat)), ((4 : Nat), AV.s (SV.str s)), ((7 : Nat), AV.s (SV.int IntKind.i64 (0 : Int)))]) [AObj.own [AV.s (SV.bool l), AV.s (SV.ro (Con.typ [CK.str, CK.str] es)), AV.s (SV.ro (Con.typ [CK.str, CK.int IntKind.i64] bs))] (25 : Nat)] (hd Try.f44 (14 : Nat)) (Stk.mk none false (0 : Nat) [] (0 : Nat)))) := by kernel_rfl
theorem loopREnc2 (l : Bool) (es : List En) (bs : List Br) (s : ByteArray) (i : Int) : run P tabREnc.sum Try.f44 nsREnc (cREnc2 l es bs s i) =
  Tree.ite (decide (i < (↑bs.length : Int))) (Tree.need ((0 : Int) ≤ i) (Tree.need (i < (↑bs.length : Int)) (Tree.need (s.size + (bytesStr [IntKind.u8.wrap (↑(ByteArray.size (bs.getD i.toNat (CL.d [CK.str, CK.int IntKind.i64])).fst) : Int)]).size ≤ (4611686018427387904 : Nat)) (Tree.need ((s ++ bytesStr [IntKind.u8.wrap (↑(ByteArray.size (bs.getD i.toNat (CL.d [CK.str, CK.int IntKind.i64])).fst) : Int)]).size + ByteArray.size (bs.getD i.toNat (CL.d [CK.str, CK.int IntKind.i64])).fst ≤ (4611686018427387904 : Nat)) (Tree.need ((256 : Int) ≠ (0 : Int)) (Tree.need (inI64 (Int.tdiv (bs.getD i.toNat (CL.d [CK.str, CK.int IntKind.i64])).snd.fst (256 : Int))) (Tree.need ((256 : Int) ≠ (0 : Int)) (Tree.need ((s ++ bytesStr [IntKind.u8.wrap (↑(ByteArray.size (bs.getD i.toNat (CL.d [CK.str, CK.int IntKind.i64])).fst) : Int)] ++ (bs.getD i.toNat (CL.d [CK.str, CK.int IntKind.i64])).fst).size + (bytesStr [IntKind.u8.wrap (Int.tdiv (bs.getD i.toNat (CL.d [CK.str, CK.int IntKind.i64])).snd.fst (256 : Int)), IntKind.u8.wrap (Int.tmod (bs.getD i.toNat (CL.d [CK.str, CK.int IntKind.i64])).snd.fst (256 : Int))]).size ≤ (4611686018427387904 : Nat)) (Tree.need (inI64 (i + (1 : Int))) (Tree.at (Cfg.mk (sl (85 : Nat) [((1 : Nat), AV.ptr (0 : Nat) (0 : Nat)), ((4 : Nat), AV.s (SV.str (s ++ bytesStr [IntKind.u8.wrap (↑(ByteArray.size (bs.getD i.toNat (CL.d [CK.str, CK.int IntKind.i64])).fst) : Int)] ++ (bs.getD i.toNat (CL.d [CK.str, CK.int IntKind.i64])).fst ++ bytesStr [IntKind.u8.wrap (Int.tdiv (bs.getD i.toNat (CL.d [CK.str, CK.int IntKind.i64])).snd.fst (256 : Int)), IntKind.u8.wrap (Int.tmod (bs.getD i.toNat (CL.d [CK.str, CK.int IntKind.i64])).snd.fst (256 : Int))]))), ((7 : Nat), AV.s (SV.int IntKind.i64 (i + (1 : Int))))]) [AObj.own [AV.s (SV.bool l), AV.s (SV.ro (Con.typ [CK.str, CK.str] es)), AV.s (SV.ro (Con.typ [CK.str, CK.int IntKind.i64] bs))] (25 : Nat)] (hd Try.f44 (14 : Nat)) (Stk.mk none false (0 : Nat) [] (0 : Nat))))))))))))) (Tree.ret [AObj.own [AV.s (SV.bool l), AV.s (SV.ro (Con.typ [CK.str, CK.str] es)), AV.s (SV.ro (Con.typ [CK.str, CK.int IntKind.i64] bs))] (25 : Nat)] (AV.tup [AV.s (SV.str s), AV.s (SV.ilit IntKind.i64 (0 : Int))])) := by kernel_rfl
def nsTold : List (Nat × Norm) := [(3, ⟨[], [1, 2, 3, 4], 0, [(2, 1, false, .typ cE [], eRE), (2, 2, false, .typ cB [], eRB)]⟩), (7, ⟨[], [1, 2, 3, 5], 0, []⟩)]
def obRZ : AObj := .own [.s (.bool false), .emp, .emp] eRN
noncomputable def cTold1 (l : Bool) (es : List En) (bs : List Br) (xs : List En) (ys : List Br) (i : Int) : Cfg := ⟨sl 44 [(1, .ptr 0 0), (2, .ptr 1 0), (3, .ptr 2 0), (4, .s (.int .i64 i))], [obN l es bs 31, obRZ, .own [.s (.bool l), .vec 3, .vec 4] eRN, .vec (.typ cE xs) eRE, .vec (.typ cB ys) eRB], hd Try.f47 3, {}⟩
noncomputable def cTold2 (l : Bool) (es : List En) (bs : List Br) (xs : List En) (ys : List Br) (i : Int) : Cfg := ⟨sl 44 [(1, .ptr 0 0), (2, .ptr 1 0), (3, .ptr 2 0), (5, .s (.int .i64 i))], [obN l es bs 31, obRZ, .own [.s (.bool l), .vec 3, .vec 4] eRN, .vec (.typ cE xs) eRE, .vec (.typ cB ys) eRB], hd Try.f47 7, {}⟩
theorem treeTold (l : Bool) (es : List En) (bs : List Br) : run P tab0.sum Try.f47 nsTold (start Try.f47 [avN l es bs] []) =
  Tree.at (Cfg.mk (sl (44 : Nat) [((1 : Nat), AV.ptr (0 : Nat) (0 : Nat)), ((2 : Nat), AV.ptr (1 : Nat) (0 : Nat)), ((3 : Nat), AV.ptr (2 : Nat) (0 : Nat)), ((4 : Nat), AV.s (SV.int IntKind.i64 (0 : Int)))]) [AObj.own [AV.s (SV.bool l), AV.s (SV.ro (Con.typ [CK.str, CK.str] es)), AV.s (SV.ro (Con.typ [CK.str, CK.int IntKind.i64] bs))] (31 : Nat), AObj.own [AV.s (SV.bool false), AV.emp, AV.emp] (25 : Nat), AObj.own [AV.s (SV.bool l), AV.vec (3 : Nat), AV.vec (4 : Nat)] (25 : Nat), AObj.vec (Con.typ [CK.str, CK.str] []) (134 : Nat), AObj.vec (Con.typ [CK.str, CK.int IntKind.i64] []) (135 : Nat)] (hd Try.f47 (3 : Nat)) (Stk.mk none false (0 : Nat) [] (0 : Nat))) := by kernel_rfl
theorem loopTold1 (l : Bool) (es : List En) (bs : List Br) (xs : List En) (ys : List Br) (i : Int) : run P tab0.sum Try.f47 nsTold (cTold1 l es bs xs ys i) =
  Tree.ite (decide (i < (↑es.length : Int))) (Tree.need ((0 : Int) ≤ i) (Tree.need (i < (↑es.length : Int)) (Tree.need (xs.length + (1 : Nat) ≤ (4294967296 : Nat)) (Tree.need (inI64 (i + (1 : Int))) (Tree.at (Cfg.mk (sl (44 : Nat) [((1 : Nat), AV.ptr (0 : Nat) (0 : Nat)), ((2 : Nat), AV.ptr (1 : Nat) (0 : Nat)), ((3 : Nat), AV.ptr (2 : Nat) (0 : Nat)), ((4 : Nat), AV.s (SV.int IntKind.i64 (i + (1 : Int))))]) [AObj.own [AV.s (SV.bool l), AV.s (SV.ro (Con.typ [CK.str, CK.str] es)), AV.s (SV.ro (Con.typ [CK.str, CK.int IntKind.i64] bs))] (31 : Nat), AObj.own [AV.s (SV.bool false), AV.emp, AV.emp] (25 : Nat), AObj.own [AV.s (SV.bool l), AV.vec (3 : Nat), AV.vec (4 : Nat)] (25 : Nat), AObj.vec (Con.typ [CK.str, CK.str] (xs ++ [((es.getD i.toNat (CL.d [CK.str, CK.str])).fst, (es.getD i.toNat (CL.d [CK.str, CK.str])).snd.fst, ())])) (134 : Nat), AObj.vec (Con.typ [CK.str, CK.int IntKind.i64] ys) (135 : Nat)] (hd Try.f47 (3 : Nat)) (Stk.mk none false (0 : Nat) [] (0 : Nat)))))))) (Tree.at (Cfg.mk (sl (44 : Nat) [((1 : Nat), AV.ptr (0 : Nat) (0 : Nat)), ((2 : Nat), AV.ptr (1 : Nat) (0 : Nat)), ((3 : Nat), AV.ptr (2 : Nat) (0 : Nat)), ((5 : Nat), AV.s (SV.int IntKind.i64 (0 : Int)))]) [AObj.own [AV.s (SV.bool l), AV.s (SV.ro (Con.typ [CK.str, CK.str] es)), AV.s (SV.ro (Con.typ [CK.str, CK.int IntKind.i64] bs))] (31 : Nat), AObj.own [AV.s (SV.bool false), AV.emp, AV.emp] (25 : Nat), AObj.own [AV.s (SV.bool l), AV.vec (3 : Nat), AV.vec (4 : Nat)] (25 : Nat), AObj.vec (Con.typ [CK.str, CK.str] xs) (134 : Nat), AObj.vec (Con.typ [CK.str, CK.int IntKind.i64] ys) (135 : Nat)] (hd Try.f47 (7 : Nat)) (Stk.mk none false (0 : Nat) [] (0 : Nat)))) := by kernel_rfl
theorem loopTold2 (l : Bool) (es : List En) (bs : List Br) (xs : List En) (ys : List Br) (i : Int) : run P tab0.sum Try.f47 nsTold (cTold2 l es bs xs ys i) =
  Tree.ite (decide (i < (↑bs.length : Int))) (Tree.need ((0 : Int) ≤ i) (Tree.need (i < (↑bs.length : Int)) (Tree.need (ys.length + (1 : Nat) ≤ (4294967296 : Nat)) (Tree.need (inI64 (i + (1 : Int))) (Tree.at (Cfg.mk (sl (44 : Nat) [((1 : Nat), AV.ptr (0 : Nat) (0 : Nat)), ((2 : Nat), AV.ptr (1 : Nat) (0 : Nat)), ((3 : Nat), AV.ptr (2 : Nat) (0 : Nat)), ((5 : Nat), AV.s (SV.int IntKind.i64 (i + (1 : Int))))]) [AObj.own [AV.s (SV.bool l), AV.s (SV.ro (Con.typ [CK.str, CK.str] es)), AV.s (SV.ro (Con.typ [CK.str, CK.int IntKind.i64] bs))] (31 : Nat), AObj.own [AV.s (SV.bool false), AV.emp, AV.emp] (25 : Nat), AObj.own [AV.s (SV.bool l), AV.vec (3 : Nat), AV.vec (4 : Nat)] (25 : Nat), AObj.vec (Con.typ [CK.str, CK.str] xs) (134 : Nat), AObj.vec (Con.typ [CK.str, CK.int IntKind.i64] (ys ++ [((bs.getD i.toNat (CL.d [CK.str, CK.int IntKind.i64])).fst, (bs.getD i.toNat (CL.d [CK.str, CK.int IntKind.i64])).snd.fst, ())])) (135 : Nat)] (hd Try.f47 (7 : Nat)) (Stk.mk none false (0 : Nat) [] (0 : Nat)))))))) (Tree.ret [AObj.own [AV.s (SV.bool l), AV.s (SV.ro (Con.typ [CK.str, CK.str] es)), AV.s (SV.ro (Con.typ [CK.str, CK.int IntKind.i64] bs))] (31 : Nat), AObj.own [AV.s (SV.bool l), AV.vec (3 : Nat), AV.vec (4 : Nat)] (25 : Nat), AObj.own [AV.s (SV.bool l), AV.vec (3 : Nat), AV.vec (4 : Nat)] (25 : Nat), AObj.vec (Con.typ [CK.str, CK.str] xs) (134 : Nat), AObj.vec (Con.typ [CK.str, CK.int IntKind.i64] ys) (135 : Nat)] (AV.agg [AV.s (SV.bool l), AV.vec (3 : Nat), AV.vec (4 : Nat)])) := by kernel_rfl
theorem U_app (a b : ByteArray) : U (a ++ b) = U a ++ U b := by simp [U, ByteArray.data_append]
theorem size_app (a b : ByteArray) : (a ++ b).size = a.size + b.size := ByteArray.size_append
theorem bytes_size (zs : List Int) : (bytesStr zs).size = zs.length := by rw [← U_len, U_bytes, List.length_map]
theorem U_one {n : Nat} (h : n ≤ 255) : U (bytesStr [IntKind.u8.wrap (n : Int)]) = [UInt8.ofNat n] := by
  rw [U_bytes]
  simp only [List.map_cons, List.map_nil, u8_in (n := (n : Int)) (by omega) (by omega), Int.toNat_natCast]
theorem take_flat {α β : Type} {l : List α} {k : Nat} {d : α} (f : α → List β) (h : k < l.length) : (l.take (k + 1)).flatMap f = (l.take k).flatMap f ++ f (l.getD k d) := (flat_snoc f h).symm

theorem stepE (s : ByteArray) (x : En) (h1 : x.1.size ≤ 255) (h2 : x.2.1.size ≤ 255) : U (s ++ bytesStr [IntKind.u8.wrap (x.1.size : Int)] ++ x.1 ++ bytesStr [IntKind.u8.wrap (x.2.1.size : Int)] ++ x.2.1) = U s ++ encEU x := by
  rw [U_app, U_app, U_app, U_app, U_one h1, U_one h2]
  simp [encEU, txtU]
theorem stepB (s : ByteArray) (x : Br) (h1 : x.1.size ≤ 255) (h2 : 0 ≤ x.2.1) (h3 : x.2.1 < 65536) : U (s ++ bytesStr [IntKind.u8.wrap (x.1.size : Int)] ++ x.1 ++ bytesStr [IntKind.u8.wrap (Int.tdiv x.2.1 256), IntKind.u8.wrap (Int.tmod x.2.1 256)]) = U s ++ encBU x := by
  obtain ⟨k, p, ⟨⟩⟩ := x
  have h2 : 0 ≤ p := h2
  have h3 : p < 65536 := h3
  show U (s ++ _ ++ _ ++ bytesStr [IntKind.u8.wrap (Int.tdiv p 256), IntKind.u8.wrap (Int.tmod p 256)]) = _
  rw [Int.tdiv_eq_ediv_of_nonneg h2, Int.tmod_eq_emod_of_nonneg h2, U_app, U_app, U_app, U_one h1, U_bytes]
  simp only [List.map_cons, List.map_nil, u8_in (n := p / 256) (by omega) (by omega), u8_in (n := p % 256) (by omega) (by omega), encBU, txtU]
  simp

theorem renc_ok {Z : Glob} : FnOk P Z 44 [tRN] [tStr, tInt] (fun ((_, es, bs, ()), ()) => [smallE es, smallB bs]) (fun ((l, es, bs, ()), ()) => (encS l es bs, encN l es bs, ())) := by
  refine fnOk_of_safe Try.func44 (by kernel_rfl) (by kernel_rfl) ?_
  rintro ⟨⟨(l : Bool), (es : List En), (bs : List Br), ⟨⟩⟩, ⟨⟩⟩ _ ⟨(he : smallE es), (hb : smallB bs), _⟩ X hX hz
  have hT : tabREnc.Ok P Z := Tab.Ok.cons rmay_ok.sum (Tab.Ok.cons rfits_ok.sum Tab.Ok.nil)
  have hle := he.1
  have hlb := hb.1
  show Safe P 44 X (Ends [tStr, tInt] (encS l es bs, encN l es bs, ())) _
  have second : encN l es bs = 0 → ∀ (n k : Nat) (s : ByteArray), k + n = bs.length → s.size ≤ 2100000 + 2002 * k → U s = (if l = true then 1 else 2) :: (es.flatMap encEU ++ (bs.take k).flatMap encBU) →
      Safe P 44 X (Ends [tStr, tInt] (encS l es bs, encN l es bs, ())) (cREnc2 l es bs s (k : Int)) := by
    intro h0 n
    obtain ⟨hm, hsz⟩ := encN_zero.1 h0
    obtain ⟨m1, m2, m3, m4⟩ := mayN_iff hm
    induction n with
    | zero =>
      intro k s hk hs hu
      refine go hz hX hT Try.func44 (loopREnc2 l es bs s k) ⟨fun h => absurd (of_decide_eq_true h) (by omega), fun h => ?_⟩
      have e : encS l es bs = s := by
        rw [encS_eq h0]
        apply ba_ext
        show U _ = U _
        rw [U_enc m3 m4, hu, List.take_of_length_le (by omega)]
      rw [e, h0]
      exact ends_si
    | succ n ih =>
      intro k s hk hs hu
      have hkl : k < bs.length := by omega
      obtain ⟨q1, q2, q3⟩ := memB m4 (x := bs.getD k dB) (by rw [getD_lt hkl]; exact List.getElem_mem _)
      refine go hz hX hT Try.func44 (loopREnc2 l es bs s k) ?_
      simp only [Int.toNat_natCast, size_app, bytes_size, List.length_cons, List.length_nil]
      have d1 : Int.tdiv (bs.getD k dB).2.1 256 = (bs.getD k dB).2.1 / 256 := Int.tdiv_eq_ediv_of_nonneg (by omega)
      have d2 : Int.tmod (bs.getD k dB).2.1 256 = (bs.getD k dB).2.1 % 256 := Int.tmod_eq_emod_of_nonneg (by omega)
      refine ⟨fun h => ⟨by omega, by omega, by omega, ?_, by decide, ?_, by decide, ?_, ⟨by omega, by omega⟩, ?_⟩, fun h => absurd (of_decide_eq_false h) (by omega)⟩
      · show s.size + 1 + (bs.getD k dB).1.size ≤ _; omega
      · show inI64 (Int.tdiv (bs.getD k dB).2.1 256); rw [d1]; exact ⟨by omega, by omega⟩
      · show s.size + 1 + (bs.getD k dB).1.size + 2 ≤ _; omega
      · refine ih (k + 1) _ (by omega) ?_ ?_
        · simp only [size_app, bytes_size, List.length_cons, List.length_nil]
          show s.size + 1 + (bs.getD k dB).1.size + 2 ≤ _; omega
        · refine (stepB s (bs.getD k dB) (by omega) (by omega) (by omega)).trans ?_
          rw [hu, take_flat (d := dB) encBU hkl]
          simp only [List.cons_append, List.append_assoc]
  have first : encN l es bs = 0 → ∀ (n k : Nat) (s : ByteArray), k + n = es.length → s.size ≤ 10 + 2002 * k → U s = (if l = true then 1 else 2) :: (es.take k).flatMap encEU →
      Safe P 44 X (Ends [tStr, tInt] (encS l es bs, encN l es bs, ())) (cREnc1 l es bs s (k : Int)) := by
    intro h0 n
    obtain ⟨hm, hsz⟩ := encN_zero.1 h0
    obtain ⟨m1, m2, m3, m4⟩ := mayN_iff hm
    induction n with
    | zero =>
      intro k s hk hs hu
      refine go hz hX hT Try.func44 (loopREnc1 l es bs s k) ⟨fun h => absurd (of_decide_eq_true h) (by omega), fun h => ?_⟩
      exact second h0 bs.length 0 s (by omega) (by omega) (by rw [hu, List.take_of_length_le (by omega)]; simp)
    | succ n ih =>
      intro k s hk hs hu
      have hkl : k < es.length := by omega
      obtain ⟨q1, q2⟩ := memE m3 (x := es.getD k dE) (by rw [getD_lt hkl]; exact List.getElem_mem _)
      refine go hz hX hT Try.func44 (loopREnc1 l es bs s k) ?_
      simp only [Int.toNat_natCast, size_app, bytes_size, List.length_cons, List.length_nil]
      refine ⟨fun h => ⟨by omega, by omega, by omega, ?_, ?_, ?_, ⟨by omega, by omega⟩, ?_⟩, fun h => absurd (of_decide_eq_false h) (by omega)⟩
      · show s.size + 1 + (es.getD k dE).1.size ≤ _; omega
      · show s.size + 1 + (es.getD k dE).1.size + 1 ≤ _; omega
      · show s.size + 1 + (es.getD k dE).1.size + 1 + (es.getD k dE).2.1.size ≤ _; omega
      · refine ih (k + 1) _ (by omega) ?_ ?_
        · simp only [size_app, bytes_size, List.length_cons, List.length_nil]
          show s.size + 1 + (es.getD k dE).1.size + 1 + (es.getD k dE).2.1.size ≤ _; omega
        · refine (stepE s (es.getD k dE) (by omega) (by omega)).trans ?_
          rw [hu, take_flat (d := dE) encEU hkl]
          simp only [List.cons_append]
  refine go hz hX hT Try.func44 (treeREnc l es bs) ⟨fun h => ?_, fun h => ⟨he, hb, fun h2 => ?_, fun h2 => ?_⟩⟩
  · have h : mayN l es bs = false := by simpa using h
    have e1 : encS l es bs = ByteArray.empty := by simp [encS, encOk, h]
    have e2 : encN l es bs = 4 := by simp [encN, h]
    rw [e1, e2]; exact ends_si
  · have h : mayN l es bs = true := by simpa using h
    have h2 : ¬ sizeN es bs ≤ 254 := by simpa using h2
    have e1 : encS l es bs = ByteArray.empty := by simp [encS, encOk, h, h2]
    have e2 : encN l es bs = 40 := by simp [encN, h, h2]
    rw [e1, e2]; exact ends_si
  · have h : mayN l es bs = true := by simpa using h
    have h2 : sizeN es bs ≤ 254 := by simpa using h2
    have h0 := encN_zero.2 ⟨h, h2⟩
    refine ⟨fun hl => ?_, fun hl => ?_⟩
    · exact first h0 es.length 0 _ (by omega) (by decide) (by rw [hl]; rfl)
    · exact first h0 es.length 0 _ (by omega) (by decide) (by rw [hl]; rfl)

theorem told_ok {Z : Glob} : FnOk P Z 47 [tNode] [tRN] (fun ((_, es, bs, ()), ()) => [(es : List En).length ≤ 100000, (bs : List Br).length ≤ 100000]) (fun (n, ()) => (n, ())) := by
  refine fnOk_of_safe Try.func47 (by kernel_rfl) (by kernel_rfl) ?_
  rintro ⟨⟨(l : Bool), (es : List En), (bs : List Br), ⟨⟩⟩, ⟨⟩⟩ _ ⟨(he : es.length ≤ 100000), (hb : bs.length ≤ 100000), _⟩ X hX hz
  show Safe P 47 X (Ends [tRN] ((l, es, bs, ()), ())) _
  have second : ∀ (n k : Nat), k + n = bs.length → Safe P 47 X (Ends [tRN] ((l, es, bs, ()), ())) (cTold2 l es bs es (bs.take k) (k : Int)) := by
    intro n
    induction n with
    | zero =>
      intro k hk
      refine go hz hX Tab.Ok.nil Try.func47 (loopTold2 l es bs es (bs.take k) k) ⟨fun h => absurd (of_decide_eq_true h) (by omega), fun h => ?_⟩
      rw [List.take_of_length_le (by omega)]
      exact ends_eq ((l, es, bs, ()), ()) rfl (by kernel_rfl)
    | succ n ih =>
      intro k hk
      have hl : (bs.take k).length ≤ 100000 := by rw [List.length_take]; omega
      refine go hz hX Tab.Ok.nil Try.func47 (loopTold2 l es bs es (bs.take k) k) ⟨fun h => ⟨by omega, by omega, by omega, ⟨by omega, by omega⟩, ?_⟩, fun h => absurd (of_decide_eq_false h) (by omega)⟩
      have := ih (k + 1) (by omega)
      rw [← take_snoc (d := dB) (by omega)] at this
      exact this
  have first : ∀ (n k : Nat), k + n = es.length → Safe P 47 X (Ends [tRN] ((l, es, bs, ()), ())) (cTold1 l es bs (es.take k) [] (k : Int)) := by
    intro n
    induction n with
    | zero =>
      intro k hk
      refine go hz hX Tab.Ok.nil Try.func47 (loopTold1 l es bs (es.take k) [] k) ⟨fun h => absurd (of_decide_eq_true h) (by omega), fun h => ?_⟩
      rw [List.take_of_length_le (by omega)]
      exact second bs.length 0 (by omega)
    | succ n ih =>
      intro k hk
      have hl : (es.take k).length ≤ 100000 := by rw [List.length_take]; omega
      refine go hz hX Tab.Ok.nil Try.func47 (loopTold1 l es bs (es.take k) [] k) ⟨fun h => ⟨by omega, by omega, by omega, ⟨by omega, by omega⟩, ?_⟩, fun h => absurd (of_decide_eq_false h) (by omega)⟩
      have := ih (k + 1) (by omega)
      rw [← take_snoc (d := dE) (by omega)] at this
      exact this
  exact go hz hX Tab.Ok.nil Try.func47 (treeTold l es bs) (first es.length 0 (by omega))
end Lf
