import Derived.Test.YtjofgphbmdbkmaaDoorSxLoop
import Derived.Test.YtjofgphbmdbkmaaDoorProg
namespace Bx
open Go Go.Sx Go.Proofs
abbrev tSet : Ty := .b (.arr .u64 16)
abbrev tInt : Ty := .b (.int .i64)
abbrev tU : Ty := .b (.int .u64)
abbrev tBool : Ty := .b .bool
abbrev tInts : Ty := .b (.row (.ints .i64) 3)
abbrev tRef : Ty := .st [.row (.ints .i64) 3]
noncomputable abbrev P : Program := Tryd.prog
theorem mixed : P.follows .mixedOrders = true := by kernel_rfl

def tab0 : Tab := []
def bitW (n : Int) : Int := if 0 ≤ n ∧ n < 1024 then n / 64 else 0
def bitB (n : Int) : Int := if 0 ≤ n ∧ n < 1024 then 2 ^ (n % 64).toNat else 0
def bitIs (n : Int) : Bool := decide (0 ≤ n ∧ n < 1024)
theorem tree36 (n : Int) : run P tab0.sum Tryd.f36 [] (start Tryd.f36 [.s (.int .i64 n)] []) =
  Tree.ite (decide (n < (0 : Int))) (Tree.ret [] (AV.tup [AV.s (SV.ilit IntKind.i64 (0 : Int)), AV.s (SV.ilit IntKind.u64 (0 : Int)), AV.s (SV.blit false)])) (Tree.ite (decide (n ≥ (1024 : Int))) (Tree.ret [] (AV.tup [AV.s (SV.ilit IntKind.i64 (0 : Int)), AV.s (SV.ilit IntKind.u64 (0 : Int)), AV.s (SV.blit false)])) (Tree.need ((64 : Int) ≠ (0 : Int)) (Tree.need (inI64 (n.tdiv (64 : Int))) (Tree.need ((64 : Int) ≠ (0 : Int)) (Tree.need ((0 : Int) ≤ n.tmod (64 : Int)) (Tree.ret [] (AV.tup [AV.s (SV.int IntKind.i64 (n.tdiv (64 : Int))), AV.s (SV.int IntKind.u64 (IntKind.u64.wrap ((1 : Int) * (2 : Int) ^ min (n.tmod (64 : Int)).toNat IntKind.u64.bits))), AV.s (SV.blit true)]))))))) := by kernel_rfl
theorem tree38 (a b : Int) : run P tab0.sum Tryd.f38 [] (start Tryd.f38 [.s (.int .u64 a), .s (.int .u64 b)] []) =
  Tree.ret [] (AV.s (SV.int IntKind.u64 (bitop BinOp.andNot IntKind.u64 a b))) := by kernel_rfl
theorem tree39 (a b : Int) : run P tab0.sum Tryd.f39 [] (start Tryd.f39 [.s (.int .u64 a), .s (.int .u64 b)] []) =
  Tree.ret [] (AV.s (SV.int IntKind.u64 (bitop BinOp.and IntKind.u64 a b))) := by kernel_rfl
theorem tree40 (a b : Int) : run P tab0.sum Tryd.f40 [] (start Tryd.f40 [.s (.int .u64 a), .s (.int .u64 b)] []) =
  Tree.ret [] (AV.s (SV.int IntKind.u64 (bitop BinOp.or IntKind.u64 a b))) := by kernel_rfl
abbrev s36 := sumOf [tInt] [tInt, tU, tBool] (fun _ => []) (fun (n, ()) => (bitW n, bitB n, bitIs n, ()))
def tab1 : Tab := [(36, s36)]
theorem tree15 (ws : List Int) (n : Int) : run P tab1.sum Tryd.f15 [] (start Tryd.f15 [.ints .u64 16 ws, .s (.int .i64 n)] []) =
  Tree.ite (bitIs n) (Tree.need ((0 : Int) ≤ bitW n) (Tree.need (bitW n < (↑(16 : Nat) : Int)) (Tree.ret [AObj.own [AV.ints IntKind.u64 (16 : Nat) ws] (25 : Nat)] (AV.s (SV.bool (bitop BinOp.and IntKind.u64 (ws.getD (bitW n).toNat (0 : Int)) (bitB n) != (0 : Int))))))) (Tree.ret [AObj.own [AV.ints IntKind.u64 (16 : Nat) ws] (25 : Nat)] (AV.s (SV.blit false))) := by kernel_rfl
theorem tree16 (ws : List Int) (n : Int) : run P tab1.sum Tryd.f16 [] (start Tryd.f16 [.ints .u64 16 ws, .s (.int .i64 n)] []) =
  Tree.ite (bitIs n) (Tree.need ((0 : Int) ≤ bitW n) (Tree.need (bitW n < (↑(16 : Nat) : Int)) (Tree.need ((0 : Int) ≤ bitW n) (Tree.need (bitW n < (↑(16 : Nat) : Int)) (Tree.ret [AObj.own [AV.ints IntKind.u64 (16 : Nat) (ws.set (bitW n).toNat (bitop BinOp.or IntKind.u64 (ws.getD (bitW n).toNat (0 : Int)) (bitB n)))] (25 : Nat), AObj.own [AV.ints IntKind.u64 (16 : Nat) (ws.set (bitW n).toNat (bitop BinOp.or IntKind.u64 (ws.getD (bitW n).toNat (0 : Int)) (bitB n)))] (25 : Nat)] (AV.ints IntKind.u64 (16 : Nat) (ws.set (bitW n).toNat (bitop BinOp.or IntKind.u64 (ws.getD (bitW n).toNat (0 : Int)) (bitB n))))))))) (Tree.ret [AObj.own [AV.ints IntKind.u64 (16 : Nat) ws] (25 : Nat), AObj.own [AV.ints IntKind.u64 (16 : Nat) ws] (25 : Nat)] (AV.ints IntKind.u64 (16 : Nat) ws)) := by kernel_rfl
theorem tree17 (ws : List Int) (n : Int) : run P tab1.sum Tryd.f17 [] (start Tryd.f17 [.ints .u64 16 ws, .s (.int .i64 n)] []) =
  Tree.ite (bitIs n) (Tree.need ((0 : Int) ≤ bitW n) (Tree.need (bitW n < (↑(16 : Nat) : Int)) (Tree.need ((0 : Int) ≤ bitW n) (Tree.need (bitW n < (↑(16 : Nat) : Int)) (Tree.ret [AObj.own [AV.ints IntKind.u64 (16 : Nat) (ws.set (bitW n).toNat (bitop BinOp.andNot IntKind.u64 (ws.getD (bitW n).toNat (0 : Int)) (bitB n)))] (25 : Nat), AObj.own [AV.ints IntKind.u64 (16 : Nat) (ws.set (bitW n).toNat (bitop BinOp.andNot IntKind.u64 (ws.getD (bitW n).toNat (0 : Int)) (bitB n)))] (25 : Nat)] (AV.ints IntKind.u64 (16 : Nat) (ws.set (bitW n).toNat (bitop BinOp.andNot IntKind.u64 (ws.getD (bitW n).toNat (0 : Int)) (bitB n))))))))) (Tree.ret [AObj.own [AV.ints IntKind.u64 (16 : Nat) ws] (25 : Nat), AObj.own [AV.ints IntKind.u64 (16 : Nat) ws] (25 : Nat)] (AV.ints IntKind.u64 (16 : Nat) ws)) := by kernel_rfl
theorem go {Z : Glob} {X : Ctx} {t : Tab} {f : FuncId} {fn : Func} {ns : List (Nat × Norm)} {c : Cfg} {tr : Tree} {K : List AObj → AV → Prop} (hz : ZCtx Z X) (hX : ∀ id, X.H id = none) (hT : t.Ok P Z) (hf : P.funcs[f]? = some fn)
    (e : run P t.sum fn ns c = tr) (h : tr.Holds K (Safe P f X K)) : Safe P f X K c := safe_of_run (Tab.sOk hT) hz mixed hf (fun _ _ id _ => hX id) e h

theorem bit_ok {Z : Glob} : FnOk P Z 36 [tInt] [tInt, tU, tBool] (fun _ => []) (fun (n, ()) => (bitW n, bitB n, bitIs n, ())) := by
  refine fnOk_of_safe Tryd.func36 (by kernel_rfl) (by kernel_rfl) ?_
  rintro ⟨(n : Int), ⟨⟩⟩ _ _ X hX hz
  refine safe_of_run (Tab.sOk Tab.Ok.nil) hz mixed Tryd.func36 (fun x h => by simp at h) (tree36 n) ?_
  have no : ¬ (0 ≤ n ∧ n < 1024) → Ends [tInt, tU, tBool] (bitW n, bitB n, bitIs n, ()) [] (AV.tup [AV.s (SV.ilit IntKind.i64 0), AV.s (SV.ilit IntKind.u64 0), AV.s (SV.blit false)]) := fun h =>
    ends_eq (0, 0, false, ()) (by simp only [bitW, bitB, bitIs, if_neg h, decide_eq_false h]) (by kernel_rfl)
  refine ⟨fun h => no (by simp at h; omega), fun h => ⟨fun h2 => no (by simp at h2; omega), fun h2 => ?_⟩⟩
  have h3 : 0 ≤ n ∧ n < 1024 := by simp at h h2; omega
  have e1 : n.tdiv 64 = n / 64 := Int.tdiv_eq_ediv_of_nonneg h3.1
  have e2 : n.tmod 64 = n % 64 := Int.tmod_eq_emod_of_nonneg h3.1
  refine ⟨by omega, ⟨by omega, by omega⟩, by omega, by omega, ?_⟩
  rw [e1, e2]
  have e3 : IntKind.u64.wrap ((1 : Int) * (2 : Int) ^ min (n % 64).toNat IntKind.u64.bits) = 2 ^ (n % 64).toNat := by
    have : (n % 64).toNat < 64 := by omega
    rw [show IntKind.u64.bits = 64 from rfl, Nat.min_eq_left (by omega), Int.one_mul]
    show (2 : Int) ^ (n % 64).toNat % 18446744073709551616 = _
    refine Int.emod_eq_of_lt (Int.pow_nonneg (by omega)) ?_
    have h5 : (2 : Nat) ^ (n % 64).toNat < 2 ^ 64 := Nat.pow_lt_pow_right (by omega) this
    have : ((2 : Nat) ^ (n % 64).toNat : Int) < ((2 ^ 64 : Nat) : Int) := by exact_mod_cast h5
    simpa using this
  rw [e3]
  exact ends_eq (n / 64, 2 ^ (n % 64).toNat, true, ()) (by simp only [bitW, bitB, bitIs, if_pos h3, decide_eq_true h3]) (by kernel_rfl)

theorem andNot_ok {Z : Glob} : FnOk P Z 38 [tU, tU] [tU] (fun _ => []) (fun (a, b, ()) => (bitop .andNot .u64 a b, ())) := by
  refine fnOk_of_safe Tryd.func38 (by kernel_rfl) (by kernel_rfl) ?_
  rintro ⟨(a : Int), (b : Int), ⟨⟩⟩ _ _ X hX hz
  exact safe_of_run (Tab.sOk Tab.Ok.nil) hz mixed Tryd.func38 (fun x h => by simp at h) (tree38 a b) (ends_eq _ rfl (by kernel_rfl))
theorem and_ok {Z : Glob} : FnOk P Z 39 [tU, tU] [tU] (fun _ => []) (fun (a, b, ()) => (bitop .and .u64 a b, ())) := by
  refine fnOk_of_safe Tryd.func39 (by kernel_rfl) (by kernel_rfl) ?_
  rintro ⟨(a : Int), (b : Int), ⟨⟩⟩ _ _ X hX hz
  exact safe_of_run (Tab.sOk Tab.Ok.nil) hz mixed Tryd.func39 (fun x h => by simp at h) (tree39 a b) (ends_eq _ rfl (by kernel_rfl))
theorem or_ok {Z : Glob} : FnOk P Z 40 [tU, tU] [tU] (fun _ => []) (fun (a, b, ()) => (bitop .or .u64 a b, ())) := by
  refine fnOk_of_safe Tryd.func40 (by kernel_rfl) (by kernel_rfl) ?_
  rintro ⟨(a : Int), (b : Int), ⟨⟩⟩ _ _ X hX hz
  exact safe_of_run (Tab.sOk Tab.Ok.nil) hz mixed Tryd.func40 (fun x h => by simp at h) (tree40 a b) (ends_eq _ rfl (by kernel_rfl))

theorem tab1_ok {Z : Glob} : tab1.Ok P Z := Tab.Ok.cons bit_ok.sum Tab.Ok.nil

theorem bitW_range {n : Int} (h : bitIs n = true) : 0 ≤ bitW n ∧ bitW n < 16 := by
  simp only [bitIs, decide_eq_true_eq] at h
  simp only [bitW, if_pos h]
  omega

def hasF (ws : List Int) (n : Int) : Bool := bitIs n && (bitop .and .u64 (ws.getD (bitW n).toNat 0) (bitB n) != 0)
def withF (ws : List Int) (n : Int) : List Int := if bitIs n = true then ws.set (bitW n).toNat (bitop .or .u64 (ws.getD (bitW n).toNat 0) (bitB n)) else ws
def withoutF (ws : List Int) (n : Int) : List Int := if bitIs n = true then ws.set (bitW n).toNat (bitop .andNot .u64 (ws.getD (bitW n).toNat 0) (bitB n)) else ws

theorem has_ok {Z : Glob} : FnOk P Z 15 [tSet, tInt] [tBool] (fun _ => []) (fun (ws, n, ()) => (hasF ws n, ())) := by
  refine fnOk_of_safe Tryd.func15 (by kernel_rfl) (by kernel_rfl) ?_
  rintro ⟨(ws : List Int), (n : Int), ⟨⟩⟩ _ _ X hX hz
  refine safe_of_run (Tab.sOk tab1_ok) hz mixed Tryd.func15 (fun x h => by simp at h) (tree15 ws n) ⟨fun h => ?_, fun h => ?_⟩
  · have := bitW_range h
    exact ⟨this.1, this.2, ends_eq (bitop .and .u64 (ws.getD (bitW n).toNat 0) (bitB n) != 0, ()) (by simp [hasF, h]) (by kernel_rfl)⟩
  · exact ends_eq (false, ()) (by simp [hasF, h]) (by kernel_rfl)

theorem with_ok {Z : Glob} : FnOk P Z 16 [tSet, tInt] [tSet] (fun _ => []) (fun (ws, n, ()) => (withF ws n, ())) := by
  refine fnOk_of_safe Tryd.func16 (by kernel_rfl) (by kernel_rfl) ?_
  rintro ⟨(ws : List Int), (n : Int), ⟨⟩⟩ _ _ X hX hz
  refine safe_of_run (Tab.sOk tab1_ok) hz mixed Tryd.func16 (fun x h => by simp at h) (tree16 ws n) ⟨fun h => ?_, fun h => ?_⟩
  · have := bitW_range h
    refine ⟨this.1, this.2, this.1, this.2, ?_⟩
    simp only [withF, if_pos h]
    exact ends_eq _ rfl (by kernel_rfl)
  · exact ends_eq (ws, ()) (by simp only [withF, h]; rfl) (by kernel_rfl)

theorem without_ok {Z : Glob} : FnOk P Z 17 [tSet, tInt] [tSet] (fun _ => []) (fun (ws, n, ()) => (withoutF ws n, ())) := by
  refine fnOk_of_safe Tryd.func17 (by kernel_rfl) (by kernel_rfl) ?_
  rintro ⟨(ws : List Int), (n : Int), ⟨⟩⟩ _ _ X hX hz
  refine safe_of_run (Tab.sOk tab1_ok) hz mixed Tryd.func17 (fun x h => by simp at h) (tree17 ws n) ⟨fun h => ?_, fun h => ?_⟩
  · have := bitW_range h
    refine ⟨this.1, this.2, this.1, this.2, ?_⟩
    simp only [withoutF, if_pos h]
    exact ends_eq _ rfl (by kernel_rfl)
  · exact ends_eq (ws, ()) (by simp only [withoutF, h]; rfl) (by kernel_rfl)
end Bx
