import Derived.Test.YtjofgphbmdbkmaaDoorBx8
namespace Bx
open Go Go.Sx Go.Proofs
abbrev s20 := sumOf [tSet] [tInts] (fun (ws, ()) => [okW ws]) (fun (ws, ()) => (toI (allN ws), ()))
abbrev s19 := sumOf [tInts, tInts] [tBool] (fun _ => []) (fun (a, b, ()) => (decide ((a : List Int) = b), ()))
abbrev s14 := sumOf [tSet] [tInt] (fun (ws, ()) => [okW ws]) (fun (ws, ()) => (lenI ws, ()))
def tab10 : Tab := [(20, s20), (19, s19), (14, s14)]
theorem tree26 (ws l : List Int) : run P tab10.sum Tryd.f26 [] (start Tryd.f26 [.ints .u64 16 ws, .agg [.s (.ro (.ints .i64 l))]] []) =
  Tree.need (okW ws) (Tree.ite (decide (toI (allN ws) = l)) (Tree.need (okW ws) (Tree.ret [AObj.own [AV.ints IntKind.u64 (16 : Nat) ws] (25 : Nat), AObj.own [AV.s (SV.ro (Con.ints IntKind.i64 l))] (40 : Nat), AObj.vec (Con.ints IntKind.i64 (toI (allN ws))) (3 : Nat)] (AV.s (SV.bool (lenI ws == (↑l.length : Int)))))) (Tree.ret [AObj.own [AV.ints IntKind.u64 (16 : Nat) ws] (25 : Nat), AObj.own [AV.s (SV.ro (Con.ints IntKind.i64 l))] (40 : Nat), AObj.vec (Con.ints IntKind.i64 (toI (allN ws))) (3 : Nat)] (AV.s (SV.blit false)))) := by kernel_rfl
abbrev s11 := sumOf [tInts] [tSet] (fun _ => []) (fun (l, ()) => (ofF l, ()))
abbrev s15 := sumOf [tSet, tInt] [tBool] (fun _ => []) (fun (ws, n, ()) => (hasF ws n, ()))
abbrev s17 := sumOf [tSet, tInt] [tSet] (fun _ => []) (fun (ws, n, ()) => (withoutF ws n, ()))
abbrev s18 := sumOf [.b (.row (.rows .i64) 27)] [tBool] (fun _ => []) (fun (l, ()) => (largeF l, ()))
abbrev s22 := sumOf [tSet, tSet] [tSet] (fun _ => []) (fun (a, b, ()) => (zipF .and a b, ()))
abbrev s23 := sumOf [tSet, tSet] [tSet] (fun _ => []) (fun (a, b, ()) => (zipF .or a b, ()))
def tab11 : Tab := [(11, s11), (12, s12), (14, s14), (17, s17), (20, s20), (19, s19), (13, s13), (15, s15)]
theorem tree10  : run P tab11.sum Tryd.f10 [] (start Tryd.f10 [] []) =
  Tree.need (okW (ofF [(3 : Int), (64 : Int), (3 : Int)])) (Tree.need (okW (ofF [(3 : Int), (64 : Int), (3 : Int)])) (Tree.ite true (Tree.ite true (Tree.ite true (Tree.need (okW (withoutF (ofF [(3 : Int), (64 : Int), (3 : Int)]) (3 : Int))) (Tree.ite true (Tree.need (okW (belowF (65 : Int))) (Tree.ite true (Tree.ite true (Tree.ite true (Tree.need (okW (ofF [(-1 : Int), (1024 : Int)])) (Tree.ret [AObj.vec (Con.ints IntKind.i64 [(3 : Int), (64 : Int), (3 : Int)]) (3 : Nat), AObj.own [AV.ints IntKind.u64 (16 : Nat) (ofF [(3 : Int), (64 : Int), (3 : Int)])] (25 : Nat), AObj.vec (Con.ints IntKind.i64 (toI (allN (withoutF (ofF [(3 : Int), (64 : Int), (3 : Int)]) (3 : Int))))) (3 : Nat), AObj.vec (Con.ints IntKind.i64 [(64 : Int)]) (3 : Nat), AObj.vec (Con.ints IntKind.i64 [(-1 : Int), (1024 : Int)]) (3 : Nat)] (AV.s (SV.bool true)))) (Tree.ret [AObj.vec (Con.ints IntKind.i64 [(3 : Int), (64 : Int), (3 : Int)]) (3 : Nat), AObj.own [AV.ints IntKind.u64 (16 : Nat) (ofF [(3 : Int), (64 : Int), (3 : Int)])] (25 : Nat), AObj.vec (Con.ints IntKind.i64 (toI (allN (withoutF (ofF [(3 : Int), (64 : Int), (3 : Int)]) (3 : Int))))) (3 : Nat), AObj.vec (Con.ints IntKind.i64 [(64 : Int)]) (3 : Nat)] (AV.s (SV.blit false)))) (Tree.ret [AObj.vec (Con.ints IntKind.i64 [(3 : Int), (64 : Int), (3 : Int)]) (3 : Nat), AObj.own [AV.ints IntKind.u64 (16 : Nat) (ofF [(3 : Int), (64 : Int), (3 : Int)])] (25 : Nat), AObj.vec (Con.ints IntKind.i64 (toI (allN (withoutF (ofF [(3 : Int), (64 : Int), (3 : Int)]) (3 : Int))))) (3 : Nat), AObj.vec (Con.ints IntKind.i64 [(64 : Int)]) (3 : Nat)] (AV.s (SV.blit false)))) (Tree.ret [AObj.vec (Con.ints IntKind.i64 [(3 : Int), (64 : Int), (3 : Int)]) (3 : Nat), AObj.own [AV.ints IntKind.u64 (16 : Nat) (ofF [(3 : Int), (64 : Int), (3 : Int)])] (25 : Nat), AObj.vec (Con.ints IntKind.i64 (toI (allN (withoutF (ofF [(3 : Int), (64 : Int), (3 : Int)]) (3 : Int))))) (3 : Nat), AObj.vec (Con.ints IntKind.i64 [(64 : Int)]) (3 : Nat)] (AV.s (SV.blit false))))) (Tree.ret [AObj.vec (Con.ints IntKind.i64 [(3 : Int), (64 : Int), (3 : Int)]) (3 : Nat), AObj.own [AV.ints IntKind.u64 (16 : Nat) (ofF [(3 : Int), (64 : Int), (3 : Int)])] (25 : Nat), AObj.vec (Con.ints IntKind.i64 (toI (allN (withoutF (ofF [(3 : Int), (64 : Int), (3 : Int)]) (3 : Int))))) (3 : Nat), AObj.vec (Con.ints IntKind.i64 [(64 : Int)]) (3 : Nat)] (AV.s (SV.blit false))))) (Tree.ret [AObj.vec (Con.ints IntKind.i64 [(3 : Int), (64 : Int), (3 : Int)]) (3 : Nat), AObj.own [AV.ints IntKind.u64 (16 : Nat) (ofF [(3 : Int), (64 : Int), (3 : Int)])] (25 : Nat)] (AV.s (SV.blit false)))) (Tree.ret [AObj.vec (Con.ints IntKind.i64 [(3 : Int), (64 : Int), (3 : Int)]) (3 : Nat), AObj.own [AV.ints IntKind.u64 (16 : Nat) (ofF [(3 : Int), (64 : Int), (3 : Int)])] (25 : Nat)] (AV.s (SV.blit false)))) (Tree.ret [AObj.vec (Con.ints IntKind.i64 [(3 : Int), (64 : Int), (3 : Int)]) (3 : Nat), AObj.own [AV.ints IntKind.u64 (16 : Nat) (ofF [(3 : Int), (64 : Int), (3 : Int)])] (25 : Nat)] (AV.s (SV.blit false))))) := by kernel_rfl
theorem tz_sum : SOk1 P zTab 34 s34 := tz_ok.sum
theorem tab10_ok : tab10.Ok P zTab := Tab.Ok.cons (all_ok tz_sum).sum (Tab.Ok.cons ints_ok.sum (Tab.Ok.cons len_ok.sum Tab.Ok.nil))
def likeF (ws l : List Int) : Bool := decide (toI (allN ws) = l) && (lenI ws == (l.length : Int))
theorem like_ok : FnOk P zTab 26 [tSet, tR] [tBool] (fun (ws, _, ()) => [okW ws]) (fun (ws, (l, ()), ()) => (likeF ws l, ())) := by
  refine fnOk_of_safe Tryd.func26 (by kernel_rfl) (by kernel_rfl) ?_
  rintro ⟨(ws : List Int), ⟨(l : List Int), ⟨⟩⟩, ⟨⟩⟩ _ ⟨(hw : okW ws), _⟩ X hX hz
  refine go hz hX tab10_ok Tryd.func26 (tree26 ws l) ⟨hw, fun h => ⟨hw, ?_⟩, fun h => ?_⟩
  · exact ends_eq (lenI ws == (l.length : Int), ()) (by show (likeF ws l, ()) = _; rw [likeF, h, Bool.true_and]) (by kernel_rfl)
  · exact ends_eq (false, ()) (by show (likeF ws l, ()) = _; rw [likeF, h, Bool.false_and]) (by kernel_rfl)

theorem tab11_ok : tab11.Ok P zTab := Tab.Ok.cons of_ok.sum (Tab.Ok.cons (next_ok tz_sum).sum (Tab.Ok.cons len_ok.sum (Tab.Ok.cons without_ok.sum (Tab.Ok.cons (all_ok tz_sum).sum (Tab.Ok.cons ints_ok.sum (Tab.Ok.cons below_ok.sum (Tab.Ok.cons has_ok.sum Tab.Ok.nil)))))))
theorem yes_then {A B : Prop} (h : A) : (true = true → A) ∧ (true = false → B) := ⟨fun _ => h, fun h => (by cases h)⟩
theorem no_then {A B : Prop} (h : B) : (false = true → A) ∧ (false = false → B) := ⟨fun h => (by cases h), fun _ => h⟩
theorem works_ok : FnOk P zTab 10 [] [tBool] (fun _ => []) (fun _ => (true, ())) := by
  refine fnOk_of_safe Tryd.func10 (by kernel_rfl) (by kernel_rfl) ?_
  rintro ⟨⟩ _ _ X hX hz
  have h1 := (ofF_ok [3, 64, 3]).1
  refine go hz hX tab11_ok Tryd.func10 tree10 ⟨h1, h1, yes_then (yes_then (yes_then ⟨(withoutF_ok h1 3).1, yes_then ⟨(belowF_ok 65).1, yes_then (yes_then (yes_then ⟨(ofF_ok [-1, 1024]).1, ?_⟩))⟩⟩))⟩
  exact ends_eq (true, ()) rfl (by kernel_rfl)
end Bx
