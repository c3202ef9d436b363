import Derived.Test.YtjmdfmafnenjnaaLb
import Derived.Test.YtjmdfmafnenjnaaProg
import Derived.Lib.Walk
import Derived.WalkKit
import Derived.Laws.Externs
import Derived.Lib.Bytealg
namespace Lf
open Go Go.Sx Go.Proofs
noncomputable abbrev P : Program := Try.prog
theorem mixed : P.follows .mixedOrders = true := by kernel_rfl
abbrev tInt : Ty := .b (.int .i64)
abbrev tBool : Ty := .b .bool
abbrev tStr : Ty := .b .str
abbrev tInts : Ty := .b (.row (.ints .i64) 3)
abbrev cE : List CK := [.str, .str]
abbrev cB : List CK := [.str, .int .i64]
abbrev En : Type := ByteArray × ByteArray × Unit
abbrev Br : Type := ByteArray × Int × Unit
abbrev eE : TypeId := 59
abbrev eB : TypeId := 36
abbrev eRE : TypeId := 134
abbrev eRB : TypeId := 135
abbrev tEs : Ty := .b (.row (.typ cE) eE)
abbrev tBs : Ty := .b (.row (.typ cB) eB)
abbrev tNode : Ty := .st [.bool, .row (.typ cE) eE, .row (.typ cB) eB]
abbrev tRN : Ty := .st [.bool, .row (.typ cE) eRE, .row (.typ cB) eRB]
abbrev tREs : Ty := .b (.row (.typ cE) eRE)
abbrev tRBs : Ty := .b (.row (.typ cB) eRB)
abbrev avN (l : Bool) (es : List En) (bs : List Br) : AV := .agg [.s (.bool l), .s (.ro (.typ cE es)), .s (.ro (.typ cB bs))]
abbrev obN (l : Bool) (es : List En) (bs : List Br) (t : TypeId) : AObj := .own [.s (.bool l), .s (.ro (.typ cE es)), .s (.ro (.typ cB bs))] t

theorem go {Z : Glob} {X : Ctx} {t : Tab} {f : FuncId} {fn : Func} {ns : List (Nat × Norm)} {c : Cfg} {tr : Tree} {K : List AObj → AV → Prop} (hz : ZCtx Z X) (hX : ∀ id, X.H id = none) (hT : t.Ok P Z) (hf : P.funcs[f]? = some fn)
    (e : run P t.sum fn ns c = tr) (h : tr.Holds K (Safe P f X K)) : Safe P f X K c := safe_of_run (Tab.sOk hT) hz mixed hf (fun _ _ id _ => hX id) e h

def dE : En := (ByteArray.empty, ByteArray.empty, ())
def dB : Br := (ByteArray.empty, 0, ())

/-! ### May -/
def okE (es : List En) (i : Nat) : Bool := !(decide ((es.getD i dE).1 = ByteArray.empty) || decide (((es.getD i dE).1.size : Int) > 24) || decide (((es.getD i dE).2.1.size : Int) > 100) || (decide (0 < i) && !slt (es.getD (i - 1) dE).1 (es.getD i dE).1))
def okB (bs : List Br) (i : Nat) : Bool := !(decide (((bs.getD i dB).1.size : Int) > 24) || decide ((bs.getD i dB).2.1 < 2) || decide ((bs.getD i dB).2.1 ≥ 1024) || (decide (0 < i) && !slt (bs.getD (i - 1) dB).1 (bs.getD i dB).1))
def okEs (es : List En) : Bool := (List.range es.length).all (okE es)
def okBs (bs : List Br) : Bool := (List.range bs.length).all (okB bs)
def mayN (l : Bool) (es : List En) (bs : List Br) : Bool := !((l && decide ((bs.length : Int) > 0)) || (!l && decide ((es.length : Int) > 0))) && okEs es && okBs bs

def tab0 : Tab := []
def nsMay : List (Nat × Norm) := [(4, ⟨[], [1, 27, 28, 29], 0, []⟩), (10, ⟨[], [1, 67, 68, 69], 0, []⟩)]
noncomputable def cMay1 (l : Bool) (es : List En) (bs : List Br) (i : Int) : Cfg := ⟨sl 105 [(1, .ptr 0 0), (27, .s (.ro (.typ cE es))), (28, .s (.int .i64 (es.length : Int))), (29, .s (.int .i64 i))], [obN l es bs 31], hd Try.f25 4⟩
noncomputable def cMay2 (l : Bool) (es : List En) (bs : List Br) (i : Int) : Cfg := ⟨sl 105 [(1, .ptr 0 0), (67, .s (.ro (.typ cB bs))), (68, .s (.int .i64 (bs.length : Int))), (69, .s (.int .i64 i))], [obN l es bs 31], hd Try.f25 10⟩
theorem treeMay (l : Bool) (es : List En) (bs : List Br) : run P tab0.sum Try.f25 nsMay (start Try.f25 [avN l es bs] []) =
  Tree.ite l (Tree.ite (decide ((↑bs.length : Int) > (0 : Int))) (Tree.ret [AObj.own [AV.s (SV.bool l), AV.s (SV.ro (Con.typ [CK.str, CK.str] es)), AV.s (SV.ro (Con.typ [CK.str, CK.int IntKind.i64] bs))] (31 : Nat)] (AV.s (SV.blit false))) (Tree.ite (!l) (Tree.ite (decide ((↑es.length : Int) > (0 : Int))) (Tree.ret [AObj.own [AV.s (SV.bool l), AV.s (SV.ro (Con.typ [CK.str, CK.str] es)), AV.s (SV.ro (Con.typ [CK.str, CK.int IntKind.i64] bs))] (31 : Nat)] (AV.s (SV.blit false))) (Tree.at (Cfg.mk (sl (105 : Nat) [((1 : Nat), AV.ptr (0 : Nat) (0 : Nat)), ((27 : Nat), AV.s (SV.ro (Con.typ [CK.str, CK.str] es))), ((28 : Nat), AV.s (SV.int IntKind.i64 (↑es.length : Int))), ((29 : Nat), AV.s (SV.int IntKind.i64 (0 : Int)))]) [AObj.own [AV.s (SV.bool l), AV.s (SV.ro (Con.typ [CK.str, CK.str] es)), AV.s (SV.ro (Con.typ [CK.str, CK.int IntKind.i64] bs))] (31 : Nat)] (hd Try.f25 (4 : Nat))))) (Tree.at (Cfg.mk (sl (105 : Nat) [((1 : Nat), AV.ptr (0 : Nat) (0 : Nat)), ((27 : Nat), AV.s (SV.ro (Con.typ [CK.str, CK.str] es))), ((28 : Nat), AV.s (SV.int IntKind.i64 (↑es.length : Int))), ((29 : Nat), AV.s (SV.int IntKind.i64 (0 : Int)))]) [AObj.own [AV.s (SV.bool l), AV.s (SV.ro (Con.typ [CK.str, CK.str] es)), AV.s (SV.ro (Con.typ [CK.str, CK.int IntKind.i64] bs))] (31 : Nat)] (hd Try.f25 (4 : Nat)))))) (Tree.ite (!l) (Tree.ite (decide ((↑es.length : Int) > (0 : Int))) (Tree.ret [AObj.own [AV.s (SV.bool l), AV.s (SV.ro (Con.typ [CK.str, CK.str] es)), AV.s (SV.ro (Con.typ [CK.str, CK.int IntKind.i64] bs))] (31 : Nat)] (AV.s (SV.blit false))) (Tree.at (Cfg.mk (sl (105 : Nat) [((1 : Nat), AV.ptr (0 : Nat) (0 : Nat)), ((27 : Nat), AV.s (SV.ro (Con.typ [CK.str, CK.str] es))), ((28 : Nat), AV.s (SV.int IntKind.i64 (↑es.length : Int))), ((29 : Nat), AV.s (SV.int IntKind.i64 (0 : Int)))]) [AObj.own [AV.s (SV.bool l), AV.s (SV.ro (Con.typ [CK.str, CK.str] es)), AV.s (SV.ro (Con.typ [CK.str, CK.int IntKind.i64] bs))] (31 : Nat)] (hd Try.f25 (4 : Nat))))) (Tree.at (Cfg.mk (sl (105 : Nat) [((1 : Nat), AV.ptr (0 : Nat) (0 : Nat)), ((27 : Nat), AV.s (SV.ro (Con.typ [CK.str, CK.str] es))), ((28 : Nat), AV.s (SV.int IntKind.i64 (↑es.length : Int))), ((29 : Nat), AV.s (SV.int IntKind.i64 (0 : Int)))]) [AObj.own [AV.s (SV.bool l), AV.s (SV.ro (Con.typ [CK.str, CK.str] es)), AV.s (SV.ro (Con.typ [CK.str, CK.int IntKind.i64] bs))] (31 : Nat)] (hd Try.f25 (4 : Nat))))) := by kernel_rfl
theorem loopMay1 (l : Bool) (es : List En) (bs : List Br) (i : Int) : run P tab0.sum Try.f25 nsMay (cMay1 l es bs i) =
  Tree.ite (decide (i < (↑es.length : Int))) (Tree.need ((0 : Int) ≤ i) (Tree.need (i < (↑es.length : Int)) (Tree.ite (decide ((es.getD i.toNat (CL.d [CK.str, CK.str])).fst = ByteArray.empty)) (Tree.ret [AObj.own [AV.s (SV.bool l), AV.s (SV.ro (Con.typ [CK.str, CK.str] es)), AV.s (SV.ro (Con.typ [CK.str, CK.int IntKind.i64] bs))] (31 : Nat), AObj.own [AV.s (SV.str (es.getD i.toNat (CL.d [CK.str, CK.str])).fst), AV.s (SV.str (es.getD i.toNat (CL.d [CK.str, CK.str])).snd.fst)] (59 : Nat)] (AV.s (SV.blit false))) (Tree.ite (decide ((↑(ByteArray.size (es.getD i.toNat (CL.d [CK.str, CK.str])).fst) : Int) > (24 : Int))) (Tree.ret [AObj.own [AV.s (SV.bool l), AV.s (SV.ro (Con.typ [CK.str, CK.str] es)), AV.s (SV.ro (Con.typ [CK.str, CK.int IntKind.i64] bs))] (31 : Nat), AObj.own [AV.s (SV.str (es.getD i.toNat (CL.d [CK.str, CK.str])).fst), AV.s (SV.str (es.getD i.toNat (CL.d [CK.str, CK.str])).snd.fst)] (59 : Nat)] (AV.s (SV.blit false))) (Tree.ite (decide ((↑(ByteArray.size (es.getD i.toNat (CL.d [CK.str, CK.str])).snd.fst) : Int) > (100 : Int))) (Tree.ret [AObj.own [AV.s (SV.bool l), AV.s (SV.ro (Con.typ [CK.str, CK.str] es)), AV.s (SV.ro (Con.typ [CK.str, CK.int IntKind.i64] bs))] (31 : Nat), AObj.own [AV.s (SV.str (es.getD i.toNat (CL.d [CK.str, CK.str])).fst), AV.s (SV.str (es.getD i.toNat (CL.d [CK.str, CK.str])).snd.fst)] (59 : Nat)] (AV.s (SV.blit false))) (Tree.ite (decide (i > (0 : Int))) (Tree.need (inI64 (i - (1 : Int))) (Tree.need ((0 : Int) ≤ i - (1 : Int)) (Tree.need (i - (1 : Int) < (↑es.length : Int)) (Tree.ite (!slt (es.getD (i - (1 : Int)).toNat (CL.d [CK.str, CK.str])).fst (es.getD i.toNat (CL.d [CK.str, CK.str])).fst) (Tree.ret [AObj.own [AV.s (SV.bool l), AV.s (SV.ro (Con.typ [CK.str, CK.str] es)), AV.s (SV.ro (Con.typ [CK.str, CK.int IntKind.i64] bs))] (31 : Nat), AObj.own [AV.s (SV.str (es.getD i.toNat (CL.d [CK.str, CK.str])).fst), AV.s (SV.str (es.getD i.toNat (CL.d [CK.str, CK.str])).snd.fst)] (59 : Nat)] (AV.s (SV.blit false))) (Tree.need (inI64 (i + (1 : Int))) (Tree.at (Cfg.mk (sl (105 : Nat) [((1 : Nat), AV.ptr (0 : Nat) (0 : Nat)), ((27 : Nat), AV.s (SV.ro (Con.typ [CK.str, CK.str] es))), ((28 : Nat), AV.s (SV.int IntKind.i64 (↑es.length : Int))), ((29 : Nat), AV.s (SV.int IntKind.i64 (i + (1 : Int))))]) [AObj.own [AV.s (SV.bool l), AV.s (SV.ro (Con.typ [CK.str, CK.str] es)), AV.s (SV.ro (Con.typ [CK.str, CK.int IntKind.i64] bs))] (31 : Nat)] (hd Try.f25 (4 : Nat))))))))) (Tree.need (inI64 (i + (1 : Int))) (Tree.at (Cfg.mk (sl (105 : Nat) [((1 : Nat), AV.ptr (0 : Nat) (0 : Nat)), ((27 : Nat), AV.s (SV.ro (Con.typ [CK.str, CK.str] es))), ((28 : Nat), AV.s (SV.int IntKind.i64 (↑es.length : Int))), ((29 : Nat), AV.s (SV.int IntKind.i64 (i + (1 : Int))))]) [AObj.own [AV.s (SV.bool l), AV.s (SV.ro (Con.typ [CK.str, CK.str] es)), AV.s (SV.ro (Con.typ [CK.str, CK.int IntKind.i64] bs))] (31 : Nat)] (hd Try.f25 (4 : Nat))))))))))) (Tree.at (Cfg.mk (sl (105 : Nat) [((1 : Nat), AV.ptr (0 : Nat) (0 : Nat)), ((67 : Nat), AV.s (SV.ro (Con.typ [CK.str, CK.int IntKind.i64] bs))), ((68 : Nat), AV.s (SV.int IntKind.i64 (↑bs.length : Int))), ((69 : Nat), AV.s (SV.int IntKind.i64 (0 : Int)))]) [AObj.own [AV.s (SV.bool l), AV.s (SV.ro (Con.typ [CK.str, CK.str] es)), AV.s (SV.ro (Con.typ [CK.str, CK.int IntKind.i64] bs))] (31 : Nat)] (hd Try.f25 (10 : Nat)))) := by kernel_rfl
theorem loopMay2 (l : Bool) (es : List En) (bs : List Br) (i : Int) : run P tab0.sum Try.f25 nsMay (cMay2 l es bs i) =
  Tree.ite (decide (i < (↑bs.length : Int))) (Tree.need ((0 : Int) ≤ i) (Tree.need (i < (↑bs.length : Int)) (Tree.ite (decide ((↑(ByteArray.size (bs.getD i.toNat (CL.d [CK.str, CK.int IntKind.i64])).fst) : Int) > (24 : Int))) (Tree.ret [AObj.own [AV.s (SV.bool l), AV.s (SV.ro (Con.typ [CK.str, CK.str] es)), AV.s (SV.ro (Con.typ [CK.str, CK.int IntKind.i64] bs))] (31 : Nat), AObj.own [AV.s (SV.str (bs.getD i.toNat (CL.d [CK.str, CK.int IntKind.i64])).fst), AV.s (SV.int IntKind.i64 (bs.getD i.toNat (CL.d [CK.str, CK.int IntKind.i64])).snd.fst)] (36 : Nat)] (AV.s (SV.blit false))) (Tree.ite (decide ((bs.getD i.toNat (CL.d [CK.str, CK.int IntKind.i64])).snd.fst < (2 : Int))) (Tree.ret [AObj.own [AV.s (SV.bool l), AV.s (SV.ro (Con.typ [CK.str, CK.str] es)), AV.s (SV.ro (Con.typ [CK.str, CK.int IntKind.i64] bs))] (31 : Nat), AObj.own [AV.s (SV.str (bs.getD i.toNat (CL.d [CK.str, CK.int IntKind.i64])).fst), AV.s (SV.int IntKind.i64 (bs.getD i.toNat (CL.d [CK.str, CK.int IntKind.i64])).snd.fst)] (36 : Nat)] (AV.s (SV.blit false))) (Tree.ite (decide ((bs.getD i.toNat (CL.d [CK.str, CK.int IntKind.i64])).snd.fst ≥ (1024 : Int))) (Tree.ret [AObj.own [AV.s (SV.bool l), AV.s (SV.ro (Con.typ [CK.str, CK.str] es)), AV.s (SV.ro (Con.typ [CK.str, CK.int IntKind.i64] bs))] (31 : Nat), AObj.own [AV.s (SV.str (bs.getD i.toNat (CL.d [CK.str, CK.int IntKind.i64])).fst), AV.s (SV.int IntKind.i64 (bs.getD i.toNat (CL.d [CK.str, CK.int IntKind.i64])).snd.fst)] (36 : Nat)] (AV.s (SV.blit false))) (Tree.ite (decide (i > (0 : Int))) (Tree.need (inI64 (i - (1 : Int))) (Tree.need ((0 : Int) ≤ i - (1 : Int)) (Tree.need (i - (1 : Int) < (↑bs.length : Int)) (Tree.ite (!slt (bs.getD (i - (1 : Int)).toNat (CL.d [CK.str, CK.int IntKind.i64])).fst (bs.getD i.toNat (CL.d [CK.str, CK.int IntKind.i64])).fst) (Tree.ret [AObj.own [AV.s (SV.bool l), AV.s (SV.ro (Con.typ [CK.str, CK.str] es)), AV.s (SV.ro (Con.typ [CK.str, CK.int IntKind.i64] bs))] (31 : Nat), AObj.own [AV.s (SV.str (bs.getD i.toNat (CL.d [CK.str, CK.int IntKind.i64])).fst), AV.s (SV.int IntKind.i64 (bs.getD i.toNat (CL.d [CK.str, CK.int IntKind.i64])).snd.fst)] (36 : Nat)] (AV.s (SV.blit false))) (Tree.need (inI64 (i + (1 : Int))) (Tree.at (Cfg.mk (sl (105 : Nat) [((1 : Nat), AV.ptr (0 : Nat) (0 : Nat)), ((67 : Nat), AV.s (SV.ro (Con.typ [CK.str, CK.int IntKind.i64] bs))), ((68 : Nat), AV.s (SV.int IntKind.i64 (↑bs.length : Int))), ((69 : Nat), AV.s (SV.int IntKind.i64 (i + (1 : Int))))]) [AObj.own [AV.s (SV.bool l), AV.s (SV.ro (Con.typ [CK.str, CK.str] es)), AV.s (SV.ro (Con.typ [CK.str, CK.int IntKind.i64] bs))] (31 : Nat)] (hd Try.f25 (10 : Nat))))))))) (Tree.need (inI64 (i + (1 : Int))) (Tree.at (Cfg.mk (sl (105 : Nat) [((1 : Nat), AV.ptr (0 : Nat) (0 : Nat)), ((67 : Nat), AV.s (SV.ro (Con.typ [CK.str, CK.int IntKind.i64] bs))), ((68 : Nat), AV.s (SV.int IntKind.i64 (↑bs.length : Int))), ((69 : Nat), AV.s (SV.int IntKind.i64 (i + (1 : Int))))]) [AObj.own [AV.s (SV.bool l), AV.s (SV.ro (Con.typ [CK.str, CK.str] es)), AV.s (SV.ro (Con.typ [CK.str, CK.int IntKind.i64] bs))] (31 : Nat)] (hd Try.f25 (10 : Nat))))))))))) (Tree.ret [AObj.own [AV.s (SV.bool l), AV.s (SV.ro (Con.typ [CK.str, CK.str] es)), AV.s (SV.ro (Con.typ [CK.str, CK.int IntKind.i64] bs))] (31 : Nat)] (AV.s (SV.blit true))) := by kernel_rfl
theorem may_ok {Z : Glob} : FnOk P Z 25 [tNode] [tBool] (fun _ => []) (fun ((l, es, bs, ()), ()) => (mayN l es bs, ())) := by
  refine fnOk_of_safe Try.func25 (by kernel_rfl) (by kernel_rfl) ?_
  rintro ⟨⟨(l : Bool), (es : List En), (bs : List Br), ⟨⟩⟩, ⟨⟩⟩ ⟨⟨_, hle, hlb, _⟩, _⟩ _ X hX hz
  have hle : es.length ≤ 9223372036854775807 := hle
  have hlb : bs.length ≤ 9223372036854775807 := hlb
  have second : okEs es = true → mayN l es bs = okBs bs → ∀ (n k : Nat), k + n = bs.length → (∀ j, j < k → okB bs j = true) → Safe P 25 X (Ends [tBool] (mayN l es bs, ())) (cMay2 l es bs (k : Int)) := by
    intro he hm n
    induction n with
    | zero =>
      intro k hk hp
      refine go hz hX Tab.Ok.nil Try.func25 (loopMay2 l es bs k) ⟨fun h => absurd (of_decide_eq_true h) (by omega), fun h => ends_isl ?_⟩
      rw [hm]
      exact all_yes (fun j hj => hp j (by omega))
    | succ n ih =>
      intro k hk hp
      have no : okB bs k = false → mayN l es bs = false := fun h => by rw [hm]; exact all_no (by omega) h
      refine go hz hX Tab.Ok.nil Try.func25 (loopMay2 l es bs k) ⟨fun h => ⟨by omega, by omega, ?_⟩, fun h => absurd (of_decide_eq_false h) (by omega)⟩
      simp only [Int.toNat_natCast]
      refine ⟨fun h1 => ends_isl (no ?_), fun h1 => ⟨fun h2 => ends_isl (no ?_), fun h2 => ⟨fun h3 => ends_isl (no ?_), fun h3 => ⟨fun h4 => ?_, fun h4 => ⟨⟨by omega, by omega⟩, ?_⟩⟩⟩⟩⟩
      · show (!(decide (((bs.getD k dB).1.size : Int) > 24) || _ || _ || _)) = false
        rw [show decide (((bs.getD k dB).1.size : Int) > 24) = true from h1]; rfl
      · show (!(_ || decide ((bs.getD k dB).2.1 < 2) || _ || _)) = false
        rw [show decide ((bs.getD k dB).2.1 < 2) = true from h2]; simp
      · show (!(_ || _ || decide ((bs.getD k dB).2.1 ≥ 1024) || _)) = false
        rw [show decide ((bs.getD k dB).2.1 ≥ 1024) = true from h3]; simp
      · have h0 : (k : Int) > 0 := of_decide_eq_true h4
        rw [show ((k : Int) - 1).toNat = k - 1 from by omega]
        refine ⟨⟨by omega, by omega⟩, by omega, by omega, fun h5 => ends_isl (no ?_), fun h5 => ⟨⟨by omega, by omega⟩, ih (k + 1) (by omega) (fun j hj => ?_)⟩⟩
        · show (!(_ || _ || _ || (decide (0 < k) && !slt (bs.getD (k - 1) dB).1 (bs.getD k dB).1))) = false
          rw [show (!slt (bs.getD (k - 1) dB).1 (bs.getD k dB).1) = true from h5, show decide (0 < k) = true from decide_eq_true (by omega)]; simp
        · by_cases hj2 : j = k
          · subst hj2
            show (!(decide (((bs.getD j dB).1.size : Int) > 24) || decide ((bs.getD j dB).2.1 < 2) || decide ((bs.getD j dB).2.1 ≥ 1024) || (decide (0 < j) && !slt (bs.getD (j - 1) dB).1 (bs.getD j dB).1))) = true
            rw [show (!slt (bs.getD (j - 1) dB).1 (bs.getD j dB).1) = false from h5, show decide ((bs.getD j dB).2.1 ≥ 1024) = false from h3, show decide ((bs.getD j dB).2.1 < 2) = false from h2, show decide (((bs.getD j dB).1.size : Int) > 24) = false from h1]
            simp
          · exact hp j (by omega)
      · have h0 : ¬ (k : Int) > 0 := of_decide_eq_false h4
        refine ih (k + 1) (by omega) (fun j hj => ?_)
        by_cases hj2 : j = k
        · subst hj2
          show (!(decide (((bs.getD j dB).1.size : Int) > 24) || decide ((bs.getD j dB).2.1 < 2) || decide ((bs.getD j dB).2.1 ≥ 1024) || (decide (0 < j) && !slt (bs.getD (j - 1) dB).1 (bs.getD j dB).1))) = true
          rw [show decide ((bs.getD j dB).2.1 ≥ 1024) = false from h3, show decide ((bs.getD j dB).2.1 < 2) = false from h2, show decide (((bs.getD j dB).1.size : Int) > 24) = false from h1, decide_eq_false (by omega)]
          rfl
        · exact hp j (by omega)
  have first : mayN l es bs = (okEs es && okBs bs) → ∀ (n k : Nat), k + n = es.length → (∀ j, j < k → okE es j = true) → Safe P 25 X (Ends [tBool] (mayN l es bs, ())) (cMay1 l es bs (k : Int)) := by
    intro hm n
    induction n with
    | zero =>
      intro k hk hp
      have he : okEs es = true := all_yes (fun j hj => hp j (by omega))
      exact go hz hX Tab.Ok.nil Try.func25 (loopMay1 l es bs k) ⟨fun h => absurd (of_decide_eq_true h) (by omega), fun h => second he (by rw [hm, he]; rfl) bs.length 0 (by omega) (fun j hj => by omega)⟩
    | succ n ih =>
      intro k hk hp
      have no : okE es k = false → mayN l es bs = false := fun h => by rw [hm, show okEs es = false from all_no (by omega) h]; rfl
      refine go hz hX Tab.Ok.nil Try.func25 (loopMay1 l es bs k) ⟨fun h => ⟨by omega, by omega, ?_⟩, fun h => absurd (of_decide_eq_false h) (by omega)⟩
      simp only [Int.toNat_natCast]
      refine ⟨fun h1 => ends_isl (no ?_), fun h1 => ⟨fun h2 => ends_isl (no ?_), fun h2 => ⟨fun h3 => ends_isl (no ?_), fun h3 => ⟨fun h4 => ?_, fun h4 => ⟨⟨by omega, by omega⟩, ?_⟩⟩⟩⟩⟩
      · show (!(decide ((es.getD k dE).1 = ByteArray.empty) || _ || _ || _)) = false
        rw [show decide ((es.getD k dE).1 = ByteArray.empty) = true from h1]; rfl
      · show (!(_ || decide (((es.getD k dE).1.size : Int) > 24) || _ || _)) = false
        rw [show decide (((es.getD k dE).1.size : Int) > 24) = true from h2]; simp
      · show (!(_ || _ || decide (((es.getD k dE).2.1.size : Int) > 100) || _)) = false
        rw [show decide (((es.getD k dE).2.1.size : Int) > 100) = true from h3]; simp
      · have h0 : (k : Int) > 0 := of_decide_eq_true h4
        rw [show ((k : Int) - 1).toNat = k - 1 from by omega]
        refine ⟨⟨by omega, by omega⟩, by omega, by omega, fun h5 => ends_isl (no ?_), fun h5 => ⟨⟨by omega, by omega⟩, ih (k + 1) (by omega) (fun j hj => ?_)⟩⟩
        · show (!(_ || _ || _ || (decide (0 < k) && !slt (es.getD (k - 1) dE).1 (es.getD k dE).1))) = false
          rw [show (!slt (es.getD (k - 1) dE).1 (es.getD k dE).1) = true from h5, show decide (0 < k) = true from decide_eq_true (by omega)]; simp
        · by_cases hj2 : j = k
          · subst hj2
            show (!(decide ((es.getD j dE).1 = ByteArray.empty) || decide (((es.getD j dE).1.size : Int) > 24) || decide (((es.getD j dE).2.1.size : Int) > 100) || (decide (0 < j) && !slt (es.getD (j - 1) dE).1 (es.getD j dE).1))) = true
            rw [show (!slt (es.getD (j - 1) dE).1 (es.getD j dE).1) = false from h5, show decide (((es.getD j dE).2.1.size : Int) > 100) = false from h3, show decide (((es.getD j dE).1.size : Int) > 24) = false from h2, show decide ((es.getD j dE).1 = ByteArray.empty) = false from h1]
            simp
          · exact hp j (by omega)
      · have h0 : ¬ (k : Int) > 0 := of_decide_eq_false h4
        refine ih (k + 1) (by omega) (fun j hj => ?_)
        by_cases hj2 : j = k
        · subst hj2
          show (!(decide ((es.getD j dE).1 = ByteArray.empty) || decide (((es.getD j dE).1.size : Int) > 24) || decide (((es.getD j dE).2.1.size : Int) > 100) || (decide (0 < j) && !slt (es.getD (j - 1) dE).1 (es.getD j dE).1))) = true
          rw [show decide (((es.getD j dE).2.1.size : Int) > 100) = false from h3, show decide (((es.getD j dE).1.size : Int) > 24) = false from h2, show decide ((es.getD j dE).1 = ByteArray.empty) = false from h1, decide_eq_false (by omega)]
          rfl
        · exact hp j (by omega)
  refine go hz hX Tab.Ok.nil Try.func25 (treeMay l es bs) ⟨fun hl => ⟨fun h1 => ends_isl ?_, fun h1 => ⟨fun h2 => ?_, fun h2 => first ?_ es.length 0 (by omega) (fun j hj => by omega)⟩⟩, fun hl => ⟨fun h1 => ⟨fun h2 => ends_isl ?_, fun h2 => first ?_ es.length 0 (by omega) (fun j hj => by omega)⟩, fun h1 => ?_⟩⟩
  · show (!((l && decide ((bs.length : Int) > 0)) || _) && _ && _) = false
    rw [hl, h1]; rfl
  · subst hl; cases h2
  · show (!((l && decide ((bs.length : Int) > 0)) || (!l && _)) && _ && _) = _
    rw [hl, h1]; rfl
  · show (!((l && _) || (!l && decide ((es.length : Int) > 0))) && _ && _) = false
    rw [hl, h2]; rfl
  · show (!((l && _) || (!l && decide ((es.length : Int) > 0))) && _ && _) = _
    rw [hl, h2]; rfl
  · subst hl; cases h1
end Lf
