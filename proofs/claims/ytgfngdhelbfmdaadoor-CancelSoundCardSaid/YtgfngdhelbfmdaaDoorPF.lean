/- Lemmas: A10, A11, B2, Y1, Y2, SxMapVar. -/
import Derived.WideKeyElems2
import Derived.ChangeBears2
import Derived.LaidLaws
import Derived.Test.YtgfngdhelbfmdaaDoorPE

namespace Ds
open Go Go.Sx Go.Proofs Lf
def tyT : ByteArray := ByteArray.mk #[120]
def mkI (a b c n : Int) : CL cI := (a, b, c, ByteArray.empty, n, (0 : Int), (0 : Int), ByteArray.empty, ())
def mkC (a : Int) : CL cC := (a, tyT, (0 : Int), (0 : Int), ByteArray.empty, ())
def mkW (a b : Int) : CL cW := (a, b, (0 : Int), (0 : Int), ByteArray.empty, (0 : Int), false, ())
def isT : Is := [mkI (1) (0) (1) (-1), mkI (2) (1) (2) (0), mkI (3) (2) (1) (0), mkI (4) (3) (2) (0), mkI (5) (1) (2) (0)]
def csT : Cs := [mkC 1, mkC 2, mkC 3, mkC 4, mkC 5]
def wsT : Ws := [mkW 11 1, mkW 12 2, mkW 13 3, mkW 14 4, mkW 15 5]
abbrev toV : AL [tSt] := (((7 : Int), (9 : Int), ([] : Ps), isT, csT, wsT, ()), ())
abbrev sumToR := sumR [] [tSr] (fun _ => []) (fun _ => toV)
abbrev preLe : AL [tSt, tNs] → List Prop := fun ((ck, nx, _, is, cs, _, ()), l, ()) => [(is : Is).map (fun x : CL cI => iI x) = l, (cs : Cs).map (fun x : CL cC => lS x) = l, (ck : Int) = (7 : Int), (nx : Int) = (9 : Int)]
abbrev sumLe := sumOf [tSt, tNs] [tBool] preLe (fun _ => (true, ()))
abbrev sumEq := sumOf [tNs, tNs] [tBool] (fun (a, b, ()) => [(a : List Int) = b]) (fun _ => (true, ()))
def largeF (ps : Ps) (is : Is) (cs : Cs) (ws : Ws) : Bool := decide (is.length > 170 ∨ cs.length > 300 ∨ ws.length > 300 ∨ ps.length > 12)
abbrev sumLg := sumOf [tSt] [tBool] (fun _ => []) (fun ((_, _, ps, is, cs, ws, ()), ()) => (largeF ps is cs ws, ()))
abbrev sumGo := sumOf [tSt, tSt] [tNs] (fun ((_, _, _, is, _, _, ()), _, ()) => [(is : Is).length ≤ 1000000]) (fun ((_, _, _, is, _, _, ()), (_, _, _, is', _, _, ()), ()) => (goneF is is', ()))
def tabWk : Tab := [(47, sumToR), (23, sumCl), (22, sumTa), (48, sumLe), (50, sumGo), (49, sumEq)]
theorem trWk  : run P tabWk.sum Tryd.f20 [] (start Tryd.f20 [] []) =
  Tree.need (List.length isT ≤ (1000000 : Nat))
  (Tree.need (List.length csT ≤ (1000000 : Nat))
    (Tree.need (List.length wsT ≤ (1000000 : Nat))
      (Tree.need (List.length isT ≤ (1000000 : Nat))
        (Tree.need (List.length csT ≤ (1000000 : Nat))
          (Tree.need (List.length wsT ≤ (1000000 : Nat))
            (Tree.need (List.map (fun (x : CL cI) => iI x) (delF (pIt (takeL isT (2 : Int))) isT) = [(1 : Int), (5 : Int)])
              (Tree.need (List.map (fun (x : CL cC) => lS x) (delF (pDr (takeL isT (2 : Int))) csT) = [(1 : Int), (5 : Int)])
                (Tree.need ((7 : Int) = (7 : Int))
                  (Tree.need ((9 : Int) = (9 : Int))
                    (Tree.ite true
                      (Tree.need (List.map (fun (x : CL cI) => iI x) (delF (pIt (clearL isT (3 : Int))) isT) = [(1 : Int), (2 : Int), (3 : Int), (5 : Int)])
                        (Tree.need (List.map (fun (x : CL cC) => lS x) (delF (pDr (clearL isT (3 : Int))) csT) = [(1 : Int), (2 : Int), (3 : Int), (5 : Int)])
                          (Tree.need ((7 : Int) = (7 : Int))
                            (Tree.need ((9 : Int) = (9 : Int))
                              (Tree.ite true (Tree.need (List.length isT ≤ (1000000 : Nat)) (Tree.need (goneF isT (delF (pIt (clearL isT (3 : Int))) isT) = [(4 : Int)]) (Tree.ite true (Tree.need (List.length isT ≤ (1000000 : Nat)) (Tree.need (List.length csT ≤ (1000000 : Nat)) (Tree.need (List.length wsT ≤ (1000000 : Nat)) (Tree.need (List.map (fun (x : CL cI) => iI x) (delF (pIt (takeL isT (9 : Int))) isT) = [(1 : Int), (2 : Int), (3 : Int), (4 : Int), (5 : Int)]) (Tree.need (List.map (fun (x : CL cC) => lS x) (delF (pDr (takeL isT (9 : Int))) csT) = [(1 : Int), (2 : Int), (3 : Int), (4 : Int), (5 : Int)]) (Tree.need ((7 : Int) = (7 : Int)) (Tree.need ((9 : Int) = (9 : Int)) (Tree.ite true (Tree.need (List.map (fun (x : CL cI) => iI x) isT = [(1 : Int), (2 : Int), (3 : Int), (4 : Int), (5 : Int)]) (Tree.need (List.map (fun (x : CL cC) => lS x) csT = [(1 : Int), (2 : Int), (3 : Int), (4 : Int), (5 : Int)]) (Tree.need ((7 : Int) = (7 : Int)) (Tree.need ((9 : Int) = (9 : Int)) (Tree.ret [AObj.own [AV.s (SV.int IntKind.i64 (7 : Int)), AV.s (SV.int IntKind.i64 (9 : Int)), AV.s (SV.ro (Con.typ cP [])), AV.s (SV.ro (Con.typ cI isT)), AV.s (SV.ro (Con.typ cC csT)), AV.s (SV.ro (Con.typ cW wsT))] (27 : Nat), AObj.own [AV.s (SV.int IntKind.i64 (7 : Int)), AV.s (SV.int IntKind.i64 (9 : Int)), AV.s (SV.ro (Con.typ cP [])), AV.s (SV.ro (Con.typ cI (delF (pIt (clearL isT (3 : Int))) isT))), AV.s (SV.ro (Con.typ cC (delF (pDr (clearL isT (3 : Int))) csT))), AV.s (SV.ro (Con.typ cW (delF (pWa (clearL isT (3 : Int))) wsT)))] (27 : Nat), AObj.vec (Con.ints IntKind.i64 [(1 : Int), (5 : Int)]) (3 : Nat), AObj.vec (Con.ints IntKind.i64 [(1 : Int), (2 : Int), (3 : Int), (5 : Int)]) (3 : Nat), AObj.vec (Con.ints IntKind.i64 (goneF isT (delF (pIt (clearL isT (3 : Int))) isT))) (3 : Nat), AObj.vec (Con.ints IntKind.i64 [(4 : Int)]) (3 : Nat), AObj.vec (Con.ints IntKind.i64 [(1 : Int), (2 : Int), (3 : Int), (4 : Int), (5 : Int)]) (3 : Nat), AObj.vec (Con.ints IntKind.i64 [(1 : Int), (2 : Int), (3 : Int), (4 : Int), (5 : Int)]) (3 : Nat)] (AV.s (SV.bool true))))))) (Tree.ret [AObj.own [AV.s (SV.int IntKind.i64 (7 : Int)), AV.s (SV.int IntKind.i64 (9 : Int)), AV.s (SV.ro (Con.typ cP [])), AV.s (SV.ro (Con.typ cI isT)), AV.s (SV.ro (Con.typ cC csT)), AV.s (SV.ro (Con.typ cW wsT))] (27 : Nat), AObj.own [AV.s (SV.int IntKind.i64 (7 : Int)), AV.s (SV.int IntKind.i64 (9 : Int)), AV.s (SV.ro (Con.typ cP [])), AV.s (SV.ro (Con.typ cI (delF (pIt (clearL isT (3 : Int))) isT))), AV.s (SV.ro (Con.typ cC (delF (pDr (clearL isT (3 : Int))) csT))), AV.s (SV.ro (Con.typ cW (delF (pWa (clearL isT (3 : Int))) wsT)))] (27 : Nat), AObj.vec (Con.ints IntKind.i64 [(1 : Int), (5 : Int)]) (3 : Nat), AObj.vec (Con.ints IntKind.i64 [(1 : Int), (2 : Int), (3 : Int), (5 : Int)]) (3 : Nat), AObj.vec (Con.ints IntKind.i64 (goneF isT (delF (pIt (clearL isT (3 : Int))) isT))) (3 : Nat), AObj.vec (Con.ints IntKind.i64 [(4 : Int)]) (3 : Nat), AObj.vec (Con.ints IntKind.i64 [(1 : Int), (2 : Int), (3 : Int), (4 : Int), (5 : Int)]) (3 : Nat)] (AV.s (SV.blit false))))))))))) (Tree.ret [AObj.own [AV.s (SV.int IntKind.i64 (7 : Int)), AV.s (SV.int IntKind.i64 (9 : Int)), AV.s (SV.ro (Con.typ cP [])), AV.s (SV.ro (Con.typ cI isT)), AV.s (SV.ro (Con.typ cC csT)), AV.s (SV.ro (Con.typ cW wsT))] (27 : Nat), AObj.own [AV.s (SV.int IntKind.i64 (7 : Int)), AV.s (SV.int IntKind.i64 (9 : Int)), AV.s (SV.ro (Con.typ cP [])), AV.s (SV.ro (Con.typ cI (delF (pIt (clearL isT (3 : Int))) isT))), AV.s (SV.ro (Con.typ cC (delF (pDr (clearL isT (3 : Int))) csT))), AV.s (SV.ro (Con.typ cW (delF (pWa (clearL isT (3 : Int))) wsT)))] (27 : Nat), AObj.vec (Con.ints IntKind.i64 [(1 : Int), (5 : Int)]) (3 : Nat), AObj.vec (Con.ints IntKind.i64 [(1 : Int), (2 : Int), (3 : Int), (5 : Int)]) (3 : Nat), AObj.vec (Con.ints IntKind.i64 (goneF isT (delF (pIt (clearL isT (3 : Int))) isT))) (3 : Nat), AObj.vec (Con.ints IntKind.i64 [(4 : Int)]) (3 : Nat)] (AV.s (SV.blit false))))))
                                (Tree.ret [AObj.own [AV.s (SV.int IntKind.i64 (7 : Int)), AV.s (SV.int IntKind.i64 (9 : Int)), AV.s (SV.ro (Con.typ cP [])), AV.s (SV.ro (Con.typ cI isT)), AV.s (SV.ro (Con.typ cC csT)), AV.s (SV.ro (Con.typ cW wsT))] (27 : Nat), AObj.own [AV.s (SV.int IntKind.i64 (7 : Int)), AV.s (SV.int IntKind.i64 (9 : Int)), AV.s (SV.ro (Con.typ cP [])), AV.s (SV.ro (Con.typ cI (delF (pIt (clearL isT (3 : Int))) isT))), AV.s (SV.ro (Con.typ cC (delF (pDr (clearL isT (3 : Int))) csT))), AV.s (SV.ro (Con.typ cW (delF (pWa (clearL isT (3 : Int))) wsT)))] (27 : Nat), AObj.vec (Con.ints IntKind.i64 [(1 : Int), (5 : Int)]) (3 : Nat), AObj.vec (Con.ints IntKind.i64 [(1 : Int), (2 : Int), (3 : Int), (5 : Int)]) (3 : Nat)] (AV.s (SV.blit false))))))))
                      (Tree.ret [AObj.own [AV.s (SV.int IntKind.i64 (7 : Int)), AV.s (SV.int IntKind.i64 (9 : Int)), AV.s (SV.ro (Con.typ cP [])), AV.s (SV.ro (Con.typ cI isT)), AV.s (SV.ro (Con.typ cC csT)), AV.s (SV.ro (Con.typ cW wsT))] (27 : Nat), AObj.own [AV.s (SV.int IntKind.i64 (7 : Int)), AV.s (SV.int IntKind.i64 (9 : Int)), AV.s (SV.ro (Con.typ cP [])), AV.s (SV.ro (Con.typ cI (delF (pIt (clearL isT (3 : Int))) isT))), AV.s (SV.ro (Con.typ cC (delF (pDr (clearL isT (3 : Int))) csT))), AV.s (SV.ro (Con.typ cW (delF (pWa (clearL isT (3 : Int))) wsT)))] (27 : Nat), AObj.vec (Con.ints IntKind.i64 [(1 : Int), (5 : Int)]) (3 : Nat)] (AV.s (SV.blit false))))))))))))) := by kernel_rfl
abbrev sumWk := sumOf [] [tBool] (fun _ => []) (fun _ => (true, ()))
theorem eq_ok {Z : Glob} : FnOk P Z 49 [tNs, tNs] [tBool] (fun (a, b, ()) => [(a : List Int) = b]) (fun _ => (true, ())) := by
  refine fnOk_of_safe Tryd.func49 (by kernel_rfl) (by kernel_rfl) ?_
  rintro ⟨(l : List Int), (l2 : List Int), ⟨⟩⟩ ⟨(hl : l.length ≤ maxLen), _⟩ ⟨(rfl : l = l2), _⟩ X hX hz
  have hl2 : l.length ≤ 9223372036854775807 := by unfold maxLen at hl; omega
  show Safe P 49 X (Ends [tBool] (true, ())) _
  have loop : ∀ (n k : Nat), k + n = l.length → Safe P 49 X (Ends [tBool] (true, ())) (cEq l l (k : Int)) := by
    intro n
    induction n with
    | zero => exact fun k hk => go hz hX Tab.Ok.nil Tryd.func49 (loopEq l l k) (no_and (decide_eq_false (by omega)) (ends_eq _ rfl (by kernel_rfl)))
    | succ n ih => exact fun k hk => go hz hX Tab.Ok.nil Tryd.func49 (loopEq l l k) (yes_and (decide_eq_true (by omega)) ⟨by omega, by omega, by omega, by omega, no_and (by simp) ⟨⟨by omega, by omega⟩, ih (k + 1) (by omega)⟩⟩)
  exact go hz hX Tab.Ok.nil Tryd.func49 (trEq l l) (no_and (by simp) (loop l.length 0 (by omega)))
theorem map_at {α : Type} {f : α → Int} {xs : List α} {l : List Int} {k : Nat} (h : xs.map f = l) (hk : k < xs.length) : l.getD k 0 = f xs[k] := by
  subst h
  rw [getD_lt (by simpa using hk), List.getElem_map]
theorem left_ok {Z : Glob} : FnOk P Z 48 [tSt, tNs] [tBool] preLe (fun _ => (true, ())) := by
  refine fnOk_of_safe Tryd.func48 (by kernel_rfl) (by kernel_rfl) ?_
  rintro ⟨⟨(ck : Int), (nx : Int), (ps : Ps), (is : Is), (cs : Cs), (ws : Ws), ⟨⟩⟩, (l : List Int), ⟨⟩⟩ ⟨_, (hl : l.length ≤ maxLen), _⟩ ⟨(h1 : is.map (fun x : CL cI => iI x) = l), (h2 : cs.map (fun x : CL cC => lS x) = l), (rfl : ck = 7), (rfl : nx = 9), _⟩ X hX hz
  have hl2 : l.length ≤ 9223372036854775807 := by unfold maxLen at hl; omega
  have l1 : is.length = l.length := by rw [← h1, List.length_map]
  have l2 : cs.length = l.length := by rw [← h2, List.length_map]
  show Safe P 48 X (Ends [tBool] (true, ())) _
  have loop : ∀ (n k : Nat), k + n = l.length → Safe P 48 X (Ends [tBool] (true, ())) (cLe 7 9 ps is cs ws l (k : Int)) := by
    intro n
    induction n with
    | zero => exact fun k hk => go hz hX Tab.Ok.nil Tryd.func48 (loopLe 7 9 ps is cs ws l k) (no_and (decide_eq_false (by omega)) (ends_eq _ rfl (by kernel_rfl)))
    | succ n ih =>
      intro k hk
      refine go hz hX Tab.Ok.nil Tryd.func48 (loopLe 7 9 ps is cs ws l k) (yes_and (decide_eq_true (by omega)) ⟨by omega, by omega, by omega, by omega, ?_⟩)
      rw [Int.toNat_natCast]
      have e1 : iI (el is (k : Int)) = l.getD k 0 := by rw [el_lt (show k < is.length by omega), map_at h1 (show k < is.length by omega)]
      have e2 : lS (el cs (k : Int)) = l.getD k 0 := by rw [el_lt (show k < cs.length by omega), map_at h2 (show k < cs.length by omega)]
      exact no_and (by rw [e1]; simp) ⟨by omega, by omega, by omega, by omega, no_and (by rw [e2]; simp) ⟨⟨by omega, by omega⟩, ih (k + 1) (by omega)⟩⟩
  exact go hz hX Tab.Ok.nil Tryd.func48 (trLe 7 9 ps is cs ws l) (no_and (by simp [l1]) (no_and (by simp [l2]) (no_and (by simp) (no_and (by simp) (loop l.length 0 (by omega))))))
theorem large_ok {Z : Glob} : FnOk P Z 21 [tSt] [tBool] (fun _ => []) (fun ((_, _, ps, is, cs, ws, ()), ()) => (largeF ps is cs ws, ())) := by
  refine fnOk_of_safe Tryd.func21 (by kernel_rfl) (by kernel_rfl) ?_
  rintro ⟨⟨(ck : Int), (nx : Int), (ps : Ps), (is : Is), (cs : Cs), (ws : Ws), ⟨⟩⟩, ⟨⟩⟩ _ _ X hX hz
  show Safe P 21 X (Ends [tBool] (largeF ps is cs ws, ())) _
  refine go hz hX Tab.Ok.nil Tryd.func21 (trLg ck nx ps is cs ws) ?_
  refine ⟨fun h => ?_, fun a => ⟨fun h => ?_, fun b => ⟨fun h => ?_, fun c => ?_⟩⟩⟩
  · have h := of_decide_eq_true h
    have e : largeF ps is cs ws = true := decide_eq_true (by omega)
    rw [e]; exact ends_eq _ rfl (by kernel_rfl)
  · have h := of_decide_eq_true h
    have e : largeF ps is cs ws = true := decide_eq_true (by omega)
    rw [e]; exact ends_eq _ rfl (by kernel_rfl)
  · have h := of_decide_eq_true h
    have e : largeF ps is cs ws = true := decide_eq_true (by omega)
    rw [e]; exact ends_eq _ rfl (by kernel_rfl)
  · have a := of_decide_eq_false a
    have b := of_decide_eq_false b
    have c := of_decide_eq_false c
    have e : largeF ps is cs ws = decide ((ps.length : Int) > 12) := by unfold largeF; congr 1; rw [eq_iff_iff]; omega
    rw [e]; exact ends_eq _ rfl (by kernel_rfl)
theorem towerR_ok {Z : Glob} : FnOk P Z 47 [] [tSr] (fun _ => []) (fun _ => toV) := by
  refine fnOk_of_safe Tryd.func47 (by kernel_rfl) (by kernel_rfl) ?_
  rintro ⟨⟩ _ _ X hX hz
  exact go hz hX Tab.Ok.nil Tryd.func47 trTo ⟨by decide, by decide, by decide, by decide, by decide, by decide, by decide, by decide, by decide, by decide, ends_eq _ rfl (by kernel_rfl)⟩
theorem tabWk_ok {Z : Glob} : tabWk.Ok P Z := Tab.Ok.cons towerR_ok.sumR (Tab.Ok.cons clear_ok.sumR (Tab.Ok.cons take_ok.sumR (Tab.Ok.cons left_ok.sum (Tab.Ok.cons gone_ok.sum (Tab.Ok.cons eq_ok.sum Tab.Ok.nil)))))
end Ds

namespace Ds
open Go Go.Sx Go.Proofs Lf
theorem works_ok {Z : Glob} : FnOk P Z 20 [] [tBool] (fun _ => []) (fun _ => (true, ())) := by
  refine fnOk_of_safe Tryd.func20 (by kernel_rfl) (by kernel_rfl) ?_
  rintro ⟨⟩ _ _ X hX hz
  refine go hz hX tabWk_ok Tryd.func20 trWk ?_
  repeat first | refine yes_and rfl ?_ | refine no_and rfl ?_ | refine ⟨by kernel_rfl, ?_⟩ | refine ⟨by decide, ?_⟩
  exact ends_eq _ rfl (by kernel_rfl)
end Ds

/-! plain laws of what is taken away -/
namespace Ds
open Go Go.Sx Go.Proofs Lf
theorem has_iff {is : Is} {a : Int} : hasI is a = true ↔ ∃ y ∈ is, iI y = a := by
  unfold hasI
  rw [decide_eq_true_iff]
  rcases place_range is a with ⟨h1, h2⟩ | ⟨h1, h2, h3, h4⟩
  · rw [h1]
    exact ⟨fun h => absurd h (by omega), fun ⟨y, hy, e⟩ => absurd e (h2 y hy)⟩
  · exact ⟨fun _ => ⟨_, List.getElem_mem h3, h4⟩, fun _ => h1⟩
theorem mem_del {α : Type} {p : α → Bool} {l : List α} {x : α} : x ∈ delF p l ↔ x ∈ l ∧ p x = false := by
  unfold delF
  rw [List.mem_filter]
  cases p x <;> simp
theorem pIt_iff {l : List Int} {x : CL cI} : pIt l x = false ↔ iI x ∉ l := by
  unfold pIt
  rw [List.contains_eq_mem, decide_eq_false_iff_not]
theorem has_del {is : Is} {l : List Int} {b : Int} : hasI (delF (pIt l) is) b = true ↔ hasI is b = true ∧ b ∉ l := by
  rw [has_iff, has_iff]
  refine ⟨fun ⟨y, hy, e⟩ => ?_, fun ⟨⟨y, hy, e⟩, hb⟩ => ⟨y, mem_del.2 ⟨hy, pIt_iff.2 (by rw [e]; exact hb)⟩, e⟩⟩
  obtain ⟨h1, h2⟩ := mem_del.1 hy
  exact ⟨⟨y, h1, e⟩, by rw [← e]; exact pIt_iff.1 h2⟩
theorem take_yes {is : Is} {a : Int} (h : hasI is a = true) : takeL is a = belowF (esOf is) a ++ [a] := by unfold takeL; rw [if_pos h]
theorem take_no {is : Is} {a : Int} (h : hasI is a = false) : takeL is a = [] := by unfold takeL; rw [if_neg (by simp [h])]
theorem mem_take {is : Is} {a x : Int} : x ∈ takeL is a ↔ hasI is a = true ∧ (x = a ∨ Reach (esOf is) a x) := by
  cases h : hasI is a with
  | false => rw [take_no h]; simp
  | true =>
    rw [take_yes h, List.mem_append, mem_below, List.mem_singleton]
    refine ⟨fun e => ⟨rfl, e.elim (fun e => .inr e.2) .inl⟩, fun e => ?_⟩
    by_cases hx : x = a
    · exact .inr hx
    · exact .inl ⟨hx, e.2.resolve_left hx⟩
theorem take_kid {is : Is} {a y x : Int} (h : y ∈ takeL is a) (hk : x ∈ kidsF (esOf is) y) : x ∈ takeL is a := by
  obtain ⟨h1, h2⟩ := mem_take.1 h
  refine mem_take.2 ⟨h1, .inr ?_⟩
  rcases h2 with rfl | h2
  · exact .kid hk
  · exact .more h2 hk
theorem take_reach {is : Is} {a y x : Int} (h : y ∈ takeL is a) (hk : Reach (esOf is) y x) : x ∈ takeL is a := by
  induction hk with
  | kid hk => exact take_kid h hk
  | more _ hk ih => exact take_kid ih hk
theorem del_nil {α : Type} (f : α → Int) (l : List α) : delF (fun x => ([] : List Int).contains (f x)) l = l := delF_all fun _ _ => rfl
end Ds

namespace Ds
open Go Go.Sx Go.Proofs Lf
def tabCs : Tab := [(20, sumWk), (21, sumLg), (12, sumSd), (19, sumFi), (22, sumTa), (23, sumCl), (24, sumBr)]
theorem trCs (ck nx : Int) (ps : Ps) (is : Is) (cs : Cs) (ws : Ws) (id : Int) : run P tabCs.sum Tryd.f7 [] (start Tryd.f7 [avSt ck nx ps is cs ws, avI id] []) =
  Tree.ite false (Tree.ret [AObj.own [AV.s (SV.int IntKind.i64 ck), AV.s (SV.int IntKind.i64 nx), AV.s (SV.ro (Con.typ cP ps)), AV.s (SV.ro (Con.typ cI is)), AV.s (SV.ro (Con.typ cC cs)), AV.s (SV.ro (Con.typ cW ws))] (27 : Nat)] (AV.s (SV.bool true)))
  (Tree.ite (largeF ps is cs ws) (Tree.ret [AObj.own [AV.s (SV.int IntKind.i64 ck), AV.s (SV.int IntKind.i64 nx), AV.s (SV.ro (Con.typ cP ps)), AV.s (SV.ro (Con.typ cI is)), AV.s (SV.ro (Con.typ cC cs)), AV.s (SV.ro (Con.typ cW ws))] (27 : Nat)] (AV.s (SV.bool true)))
    (Tree.need (List.length is ≤ (1000000 : Nat))
      (Tree.ite (!soundF nx ps is) (Tree.ret [AObj.own [AV.s (SV.int IntKind.i64 ck), AV.s (SV.int IntKind.i64 nx), AV.s (SV.ro (Con.typ cP ps)), AV.s (SV.ro (Con.typ cI is)), AV.s (SV.ro (Con.typ cC cs)), AV.s (SV.ro (Con.typ cW ws))] (27 : Nat)] (AV.s (SV.bool true)))
        (Tree.ite (gS is id == (2 : Int))
          (Tree.ite (gW is id == (3 : Int)) (Tree.need (List.length is ≤ (1000000 : Nat)) (Tree.need (List.length cs ≤ (1000000 : Nat)) (Tree.need (List.length ws ≤ (1000000 : Nat)) (Tree.need ((delF (pIt (takeL is id)) is).length ≤ (1000000 : Nat)) (Tree.ret [AObj.own [AV.s (SV.int IntKind.i64 ck), AV.s (SV.int IntKind.i64 nx), AV.s (SV.ro (Con.typ cP ps)), AV.s (SV.ro (Con.typ cI is)), AV.s (SV.ro (Con.typ cC cs)), AV.s (SV.ro (Con.typ cW ws))] (27 : Nat), AObj.own [AV.s (SV.int IntKind.i64 (gI is id)), AV.s (SV.int IntKind.i64 (gU is id)), AV.s (SV.int IntKind.u8 (gS is id)), AV.s (SV.str (gP is id)), AV.s (SV.int IntKind.i64 (gN is id)), AV.s (SV.int IntKind.i64 (gF is id)), AV.s (SV.int IntKind.u8 (gW is id)), AV.s (SV.str (gC is id))] (31 : Nat), AObj.own [AV.s (SV.int IntKind.i64 (gI is (gU is id))), AV.s (SV.int IntKind.i64 (gU is (gU is id))), AV.s (SV.int IntKind.u8 (gS is (gU is id))), AV.s (SV.str (gP is (gU is id))), AV.s (SV.int IntKind.i64 (gN is (gU is id))), AV.s (SV.int IntKind.i64 (gF is (gU is id))), AV.s (SV.int IntKind.u8 (gW is (gU is id))), AV.s (SV.str (gC is (gU is id)))] (31 : Nat)] (AV.s (SV.bool (soundF nx ps (delF (pIt (takeL is id)) is)))))))))
            (Tree.ite (gS is id == (1 : Int))
              (Tree.ite (gS is (gU is id) == (2 : Int)) (Tree.need (List.length is ≤ (1000000 : Nat)) (Tree.need (List.length cs ≤ (1000000 : Nat)) (Tree.need (List.length ws ≤ (1000000 : Nat)) (Tree.need ((delF (pIt (takeL is (gI is (gU is id)))) is).length ≤ (1000000 : Nat)) (Tree.ite (soundF nx ps (delF (pIt (takeL is (gI is (gU is id)))) is)) (Tree.need (List.length is ≤ (1000000 : Nat)) (Tree.need (List.length cs ≤ (1000000 : Nat)) (Tree.need (List.length ws ≤ (1000000 : Nat)) (Tree.need ((delF (pIt (clearL is id)) is).length ≤ (1000000 : Nat)) (Tree.ite (soundF nx ps (delF (pIt (clearL is id)) is)) (Tree.need (List.length is ≤ (1000000 : Nat)) (Tree.need (List.length cs ≤ (1000000 : Nat)) (Tree.need (List.length ws ≤ (1000000 : Nat)) (Tree.need ((delF (pIt (clearL is id)) is).length ≤ (1000000 : Nat)) (Tree.ret [AObj.own [AV.s (SV.int IntKind.i64 ck), AV.s (SV.int IntKind.i64 nx), AV.s (SV.ro (Con.typ cP ps)), AV.s (SV.ro (Con.typ cI is)), AV.s (SV.ro (Con.typ cC cs)), AV.s (SV.ro (Con.typ cW ws))] (27 : Nat), AObj.own [AV.s (SV.int IntKind.i64 (gI is id)), AV.s (SV.int IntKind.i64 (gU is id)), AV.s (SV.int IntKind.u8 (gS is id)), AV.s (SV.str (gP is id)), AV.s (SV.int IntKind.i64 (gN is id)), AV.s (SV.int IntKind.i64 (gF is id)), AV.s (SV.int IntKind.u8 (gW is id)), AV.s (SV.str (gC is id))] (31 : Nat), AObj.own [AV.s (SV.int IntKind.i64 (gI is (gU is id))), AV.s (SV.int IntKind.i64 (gU is (gU is id))), AV.s (SV.int IntKind.u8 (gS is (gU is id))), AV.s (SV.str (gP is (gU is id))), AV.s (SV.int IntKind.i64 (gN is (gU is id))), AV.s (SV.int IntKind.i64 (gF is (gU is id))), AV.s (SV.int IntKind.u8 (gW is (gU is id))), AV.s (SV.str (gC is (gU is id)))] (31 : Nat)] (AV.s (SV.bool (soundF nx ps (delF (pIt (clearL is id)) is))))))))) (Tree.ret [AObj.own [AV.s (SV.int IntKind.i64 ck), AV.s (SV.int IntKind.i64 nx), AV.s (SV.ro (Con.typ cP ps)), AV.s (SV.ro (Con.typ cI is)), AV.s (SV.ro (Con.typ cC cs)), AV.s (SV.ro (Con.typ cW ws))] (27 : Nat), AObj.own [AV.s (SV.int IntKind.i64 (gI is id)), AV.s (SV.int IntKind.i64 (gU is id)), AV.s (SV.int IntKind.u8 (gS is id)), AV.s (SV.str (gP is id)), AV.s (SV.int IntKind.i64 (gN is id)), AV.s (SV.int IntKind.i64 (gF is id)), AV.s (SV.int IntKind.u8 (gW is id)), AV.s (SV.str (gC is id))] (31 : Nat), AObj.own [AV.s (SV.int IntKind.i64 (gI is (gU is id))), AV.s (SV.int IntKind.i64 (gU is (gU is id))), AV.s (SV.int IntKind.u8 (gS is (gU is id))), AV.s (SV.str (gP is (gU is id))), AV.s (SV.int IntKind.i64 (gN is (gU is id))), AV.s (SV.int IntKind.i64 (gF is (gU is id))), AV.s (SV.int IntKind.u8 (gW is (gU is id))), AV.s (SV.str (gC is (gU is id)))] (31 : Nat)] (AV.s (SV.blit false)))))))) (Tree.ret [AObj.own [AV.s (SV.int IntKind.i64 ck), AV.s (SV.int IntKind.i64 nx), AV.s (SV.ro (Con.typ cP ps)), AV.s (SV.ro (Con.typ cI is)), AV.s (SV.ro (Con.typ cC cs)), AV.s (SV.ro (Con.typ cW ws))] (27 : Nat), AObj.own [AV.s (SV.int IntKind.i64 (gI is id)), AV.s (SV.int IntKind.i64 (gU is id)), AV.s (SV.int IntKind.u8 (gS is id)), AV.s (SV.str (gP is id)), AV.s (SV.int IntKind.i64 (gN is id)), AV.s (SV.int IntKind.i64 (gF is id)), AV.s (SV.int IntKind.u8 (gW is id)), AV.s (SV.str (gC is id))] (31 : Nat), AObj.own [AV.s (SV.int IntKind.i64 (gI is (gU is id))), AV.s (SV.int IntKind.i64 (gU is (gU is id))), AV.s (SV.int IntKind.u8 (gS is (gU is id))), AV.s (SV.str (gP is (gU is id))), AV.s (SV.int IntKind.i64 (gN is (gU is id))), AV.s (SV.int IntKind.i64 (gF is (gU is id))), AV.s (SV.int IntKind.u8 (gW is (gU is id))), AV.s (SV.str (gC is (gU is id)))] (31 : Nat)] (AV.s (SV.blit false))))))))
                (Tree.need (List.length is ≤ (1000000 : Nat)) (Tree.need (List.length cs ≤ (1000000 : Nat)) (Tree.need (List.length ws ≤ (1000000 : Nat)) (Tree.need ((delF (pIt (takeL is id)) is).length ≤ (1000000 : Nat)) (Tree.ite (soundF nx ps (delF (pIt (takeL is id)) is)) (Tree.need (List.length is ≤ (1000000 : Nat)) (Tree.need (List.length cs ≤ (1000000 : Nat)) (Tree.need (List.length ws ≤ (1000000 : Nat)) (Tree.need ((delF (pIt (clearL is id)) is).length ≤ (1000000 : Nat)) (Tree.ite (soundF nx ps (delF (pIt (clearL is id)) is)) (Tree.need (List.length is ≤ (1000000 : Nat)) (Tree.need (List.length cs ≤ (1000000 : Nat)) (Tree.need (List.length ws ≤ (1000000 : Nat)) (Tree.need ((delF (pIt (clearL is id)) is).length ≤ (1000000 : Nat)) (Tree.ret [AObj.own [AV.s (SV.int IntKind.i64 ck), AV.s (SV.int IntKind.i64 nx), AV.s (SV.ro (Con.typ cP ps)), AV.s (SV.ro (Con.typ cI is)), AV.s (SV.ro (Con.typ cC cs)), AV.s (SV.ro (Con.typ cW ws))] (27 : Nat), AObj.own [AV.s (SV.int IntKind.i64 (gI is id)), AV.s (SV.int IntKind.i64 (gU is id)), AV.s (SV.int IntKind.u8 (gS is id)), AV.s (SV.str (gP is id)), AV.s (SV.int IntKind.i64 (gN is id)), AV.s (SV.int IntKind.i64 (gF is id)), AV.s (SV.int IntKind.u8 (gW is id)), AV.s (SV.str (gC is id))] (31 : Nat), AObj.own [AV.s (SV.int IntKind.i64 (gI is (gU is id))), AV.s (SV.int IntKind.i64 (gU is (gU is id))), AV.s (SV.int IntKind.u8 (gS is (gU is id))), AV.s (SV.str (gP is (gU is id))), AV.s (SV.int IntKind.i64 (gN is (gU is id))), AV.s (SV.int IntKind.i64 (gF is (gU is id))), AV.s (SV.int IntKind.u8 (gW is (gU is id))), AV.s (SV.str (gC is (gU is id)))] (31 : Nat)] (AV.s (SV.bool (soundF nx ps (delF (pIt (clearL is id)) is))))))))) (Tree.ret [AObj.own [AV.s (SV.int IntKind.i64 ck), AV.s (SV.int IntKind.i64 nx), AV.s (SV.ro (Con.typ cP ps)), AV.s (SV.ro (Con.typ cI is)), AV.s (SV.ro (Con.typ cC cs)), AV.s (SV.ro (Con.typ cW ws))] (27 : Nat), AObj.own [AV.s (SV.int IntKind.i64 (gI is id)), AV.s (SV.int IntKind.i64 (gU is id)), AV.s (SV.int IntKind.u8 (gS is id)), AV.s (SV.str (gP is id)), AV.s (SV.int IntKind.i64 (gN is id)), AV.s (SV.int IntKind.i64 (gF is id)), AV.s (SV.int IntKind.u8 (gW is id)), AV.s (SV.str (gC is id))] (31 : Nat), AObj.own [AV.s (SV.int IntKind.i64 (gI is (gU is id))), AV.s (SV.int IntKind.i64 (gU is (gU is id))), AV.s (SV.int IntKind.u8 (gS is (gU is id))), AV.s (SV.str (gP is (gU is id))), AV.s (SV.int IntKind.i64 (gN is (gU is id))), AV.s (SV.int IntKind.i64 (gF is (gU is id))), AV.s (SV.int IntKind.u8 (gW is (gU is id))), AV.s (SV.str (gC is (gU is id)))] (31 : Nat)] (AV.s (SV.blit false)))))))) (Tree.ret [AObj.own [AV.s (SV.int IntKind.i64 ck), AV.s (SV.int IntKind.i64 nx), AV.s (SV.ro (Con.typ cP ps)), AV.s (SV.ro (Con.typ cI is)), AV.s (SV.ro (Con.typ cC cs)), AV.s (SV.ro (Con.typ cW ws))] (27 : Nat), AObj.own [AV.s (SV.int IntKind.i64 (gI is id)), AV.s (SV.int IntKind.i64 (gU is id)), AV.s (SV.int IntKind.u8 (gS is id)), AV.s (SV.str (gP is id)), AV.s (SV.int IntKind.i64 (gN is id)), AV.s (SV.int IntKind.i64 (gF is id)), AV.s (SV.int IntKind.u8 (gW is id)), AV.s (SV.str (gC is id))] (31 : Nat), AObj.own [AV.s (SV.int IntKind.i64 (gI is (gU is id))), AV.s (SV.int IntKind.i64 (gU is (gU is id))), AV.s (SV.int IntKind.u8 (gS is (gU is id))), AV.s (SV.str (gP is (gU is id))), AV.s (SV.int IntKind.i64 (gN is (gU is id))), AV.s (SV.int IntKind.i64 (gF is (gU is id))), AV.s (SV.int IntKind.u8 (gW is (gU is id))), AV.s (SV.str (gC is (gU is id)))] (31 : Nat)] (AV.s (SV.blit false)))))))))
              (Tree.need (List.length is ≤ (1000000 : Nat)) (Tree.need (List.length cs ≤ (1000000 : Nat)) (Tree.need (List.length ws ≤ (1000000 : Nat)) (Tree.need ((delF (pIt (takeL is id)) is).length ≤ (1000000 : Nat)) (Tree.ite (soundF nx ps (delF (pIt (takeL is id)) is)) (Tree.need (List.length is ≤ (1000000 : Nat)) (Tree.need (List.length cs ≤ (1000000 : Nat)) (Tree.need (List.length ws ≤ (1000000 : Nat)) (Tree.need ((delF (pIt (clearL is id)) is).length ≤ (1000000 : Nat)) (Tree.ite (soundF nx ps (delF (pIt (clearL is id)) is)) (Tree.need (List.length is ≤ (1000000 : Nat)) (Tree.need (List.length cs ≤ (1000000 : Nat)) (Tree.need (List.length ws ≤ (1000000 : Nat)) (Tree.need ((delF (pIt (clearL is id)) is).length ≤ (1000000 : Nat)) (Tree.ret [AObj.own [AV.s (SV.int IntKind.i64 ck), AV.s (SV.int IntKind.i64 nx), AV.s (SV.ro (Con.typ cP ps)), AV.s (SV.ro (Con.typ cI is)), AV.s (SV.ro (Con.typ cC cs)), AV.s (SV.ro (Con.typ cW ws))] (27 : Nat), AObj.own [AV.s (SV.int IntKind.i64 (gI is id)), AV.s (SV.int IntKind.i64 (gU is id)), AV.s (SV.int IntKind.u8 (gS is id)), AV.s (SV.str (gP is id)), AV.s (SV.int IntKind.i64 (gN is id)), AV.s (SV.int IntKind.i64 (gF is id)), AV.s (SV.int IntKind.u8 (gW is id)), AV.s (SV.str (gC is id))] (31 : Nat), AObj.own [AV.s (SV.int IntKind.i64 (gI is (gU is id))), AV.s (SV.int IntKind.i64 (gU is (gU is id))), AV.s (SV.int IntKind.u8 (gS is (gU is id))), AV.s (SV.str (gP is (gU is id))), AV.s (SV.int IntKind.i64 (gN is (gU is id))), AV.s (SV.int IntKind.i64 (gF is (gU is id))), AV.s (SV.int IntKind.u8 (gW is (gU is id))), AV.s (SV.str (gC is (gU is id)))] (31 : Nat)] (AV.s (SV.bool (soundF nx ps (delF (pIt (clearL is id)) is))))))))) (Tree.ret [AObj.own [AV.s (SV.int IntKind.i64 ck), AV.s (SV.int IntKind.i64 nx), AV.s (SV.ro (Con.typ cP ps)), AV.s (SV.ro (Con.typ cI is)), AV.s (SV.ro (Con.typ cC cs)), AV.s (SV.ro (Con.typ cW ws))] (27 : Nat), AObj.own [AV.s (SV.int IntKind.i64 (gI is id)), AV.s (SV.int IntKind.i64 (gU is id)), AV.s (SV.int IntKind.u8 (gS is id)), AV.s (SV.str (gP is id)), AV.s (SV.int IntKind.i64 (gN is id)), AV.s (SV.int IntKind.i64 (gF is id)), AV.s (SV.int IntKind.u8 (gW is id)), AV.s (SV.str (gC is id))] (31 : Nat), AObj.own [AV.s (SV.int IntKind.i64 (gI is (gU is id))), AV.s (SV.int IntKind.i64 (gU is (gU is id))), AV.s (SV.int IntKind.u8 (gS is (gU is id))), AV.s (SV.str (gP is (gU is id))), AV.s (SV.int IntKind.i64 (gN is (gU is id))), AV.s (SV.int IntKind.i64 (gF is (gU is id))), AV.s (SV.int IntKind.u8 (gW is (gU is id))), AV.s (SV.str (gC is (gU is id)))] (31 : Nat)] (AV.s (SV.blit false)))))))) (Tree.ret [AObj.own [AV.s (SV.int IntKind.i64 ck), AV.s (SV.int IntKind.i64 nx), AV.s (SV.ro (Con.typ cP ps)), AV.s (SV.ro (Con.typ cI is)), AV.s (SV.ro (Con.typ cC cs)), AV.s (SV.ro (Con.typ cW ws))] (27 : Nat), AObj.own [AV.s (SV.int IntKind.i64 (gI is id)), AV.s (SV.int IntKind.i64 (gU is id)), AV.s (SV.int IntKind.u8 (gS is id)), AV.s (SV.str (gP is id)), AV.s (SV.int IntKind.i64 (gN is id)), AV.s (SV.int IntKind.i64 (gF is id)), AV.s (SV.int IntKind.u8 (gW is id)), AV.s (SV.str (gC is id))] (31 : Nat), AObj.own [AV.s (SV.int IntKind.i64 (gI is (gU is id))), AV.s (SV.int IntKind.i64 (gU is (gU is id))), AV.s (SV.int IntKind.u8 (gS is (gU is id))), AV.s (SV.str (gP is (gU is id))), AV.s (SV.int IntKind.i64 (gN is (gU is id))), AV.s (SV.int IntKind.i64 (gF is (gU is id))), AV.s (SV.int IntKind.u8 (gW is (gU is id))), AV.s (SV.str (gC is (gU is id)))] (31 : Nat)] (AV.s (SV.blit false))))))))))
          (Tree.ite (gS is id == (1 : Int))
            (Tree.ite (gS is (gU is id) == (2 : Int)) (Tree.need (List.length is ≤ (1000000 : Nat)) (Tree.need (List.length cs ≤ (1000000 : Nat)) (Tree.need (List.length ws ≤ (1000000 : Nat)) (Tree.need ((delF (pIt (takeL is (gI is (gU is id)))) is).length ≤ (1000000 : Nat)) (Tree.ite (soundF nx ps (delF (pIt (takeL is (gI is (gU is id)))) is)) (Tree.need (List.length is ≤ (1000000 : Nat)) (Tree.need (List.length cs ≤ (1000000 : Nat)) (Tree.need (List.length ws ≤ (1000000 : Nat)) (Tree.need ((delF (pIt (clearL is id)) is).length ≤ (1000000 : Nat)) (Tree.ite (soundF nx ps (delF (pIt (clearL is id)) is)) (Tree.need (List.length is ≤ (1000000 : Nat)) (Tree.need (List.length cs ≤ (1000000 : Nat)) (Tree.need (List.length ws ≤ (1000000 : Nat)) (Tree.need ((delF (pIt (clearL is id)) is).length ≤ (1000000 : Nat)) (Tree.ret [AObj.own [AV.s (SV.int IntKind.i64 ck), AV.s (SV.int IntKind.i64 nx), AV.s (SV.ro (Con.typ cP ps)), AV.s (SV.ro (Con.typ cI is)), AV.s (SV.ro (Con.typ cC cs)), AV.s (SV.ro (Con.typ cW ws))] (27 : Nat), AObj.own [AV.s (SV.int IntKind.i64 (gI is id)), AV.s (SV.int IntKind.i64 (gU is id)), AV.s (SV.int IntKind.u8 (gS is id)), AV.s (SV.str (gP is id)), AV.s (SV.int IntKind.i64 (gN is id)), AV.s (SV.int IntKind.i64 (gF is id)), AV.s (SV.int IntKind.u8 (gW is id)), AV.s (SV.str (gC is id))] (31 : Nat), AObj.own [AV.s (SV.int IntKind.i64 (gI is (gU is id))), AV.s (SV.int IntKind.i64 (gU is (gU is id))), AV.s (SV.int IntKind.u8 (gS is (gU is id))), AV.s (SV.str (gP is (gU is id))), AV.s (SV.int IntKind.i64 (gN is (gU is id))), AV.s (SV.int IntKind.i64 (gF is (gU is id))), AV.s (SV.int IntKind.u8 (gW is (gU is id))), AV.s (SV.str (gC is (gU is id)))] (31 : Nat)] (AV.s (SV.bool (soundF nx ps (delF (pIt (clearL is id)) is))))))))) (Tree.ret [AObj.own [AV.s (SV.int IntKind.i64 ck), AV.s (SV.int IntKind.i64 nx), AV.s (SV.ro (Con.typ cP ps)), AV.s (SV.ro (Con.typ cI is)), AV.s (SV.ro (Con.typ cC cs)), AV.s (SV.ro (Con.typ cW ws))] (27 : Nat), AObj.own [AV.s (SV.int IntKind.i64 (gI is id)), AV.s (SV.int IntKind.i64 (gU is id)), AV.s (SV.int IntKind.u8 (gS is id)), AV.s (SV.str (gP is id)), AV.s (SV.int IntKind.i64 (gN is id)), AV.s (SV.int IntKind.i64 (gF is id)), AV.s (SV.int IntKind.u8 (gW is id)), AV.s (SV.str (gC is id))] (31 : Nat), AObj.own [AV.s (SV.int IntKind.i64 (gI is (gU is id))), AV.s (SV.int IntKind.i64 (gU is (gU is id))), AV.s (SV.int IntKind.u8 (gS is (gU is id))), AV.s (SV.str (gP is (gU is id))), AV.s (SV.int IntKind.i64 (gN is (gU is id))), AV.s (SV.int IntKind.i64 (gF is (gU is id))), AV.s (SV.int IntKind.u8 (gW is (gU is id))), AV.s (SV.str (gC is (gU is id)))] (31 : Nat)] (AV.s (SV.blit false)))))))) (Tree.ret [AObj.own [AV.s (SV.int IntKind.i64 ck), AV.s (SV.int IntKind.i64 nx), AV.s (SV.ro (Con.typ cP ps)), AV.s (SV.ro (Con.typ cI is)), AV.s (SV.ro (Con.typ cC cs)), AV.s (SV.ro (Con.typ cW ws))] (27 : Nat), AObj.own [AV.s (SV.int IntKind.i64 (gI is id)), AV.s (SV.int IntKind.i64 (gU is id)), AV.s (SV.int IntKind.u8 (gS is id)), AV.s (SV.str (gP is id)), AV.s (SV.int IntKind.i64 (gN is id)), AV.s (SV.int IntKind.i64 (gF is id)), AV.s (SV.int IntKind.u8 (gW is id)), AV.s (SV.str (gC is id))] (31 : Nat), AObj.own [AV.s (SV.int IntKind.i64 (gI is (gU is id))), AV.s (SV.int IntKind.i64 (gU is (gU is id))), AV.s (SV.int IntKind.u8 (gS is (gU is id))), AV.s (SV.str (gP is (gU is id))), AV.s (SV.int IntKind.i64 (gN is (gU is id))), AV.s (SV.int IntKind.i64 (gF is (gU is id))), AV.s (SV.int IntKind.u8 (gW is (gU is id))), AV.s (SV.str (gC is (gU is id)))] (31 : Nat)] (AV.s (SV.blit false))))))))
              (Tree.need (List.length is ≤ (1000000 : Nat)) (Tree.need (List.length cs ≤ (1000000 : Nat)) (Tree.need (List.length ws ≤ (1000000 : Nat)) (Tree.need ((delF (pIt (takeL is id)) is).length ≤ (1000000 : Nat)) (Tree.ite (soundF nx ps (delF (pIt (takeL is id)) is)) (Tree.need (List.length is ≤ (1000000 : Nat)) (Tree.need (List.length cs ≤ (1000000 : Nat)) (Tree.need (List.length ws ≤ (1000000 : Nat)) (Tree.need ((delF (pIt (clearL is id)) is).length ≤ (1000000 : Nat)) (Tree.ite (soundF nx ps (delF (pIt (clearL is id)) is)) (Tree.need (List.length is ≤ (1000000 : Nat)) (Tree.need (List.length cs ≤ (1000000 : Nat)) (Tree.need (List.length ws ≤ (1000000 : Nat)) (Tree.need ((delF (pIt (clearL is id)) is).length ≤ (1000000 : Nat)) (Tree.ret [AObj.own [AV.s (SV.int IntKind.i64 ck), AV.s (SV.int IntKind.i64 nx), AV.s (SV.ro (Con.typ cP ps)), AV.s (SV.ro (Con.typ cI is)), AV.s (SV.ro (Con.typ cC cs)), AV.s (SV.ro (Con.typ cW ws))] (27 : Nat), AObj.own [AV.s (SV.int IntKind.i64 (gI is id)), AV.s (SV.int IntKind.i64 (gU is id)), AV.s (SV.int IntKind.u8 (gS is id)), AV.s (SV.str (gP is id)), AV.s (SV.int IntKind.i64 (gN is id)), AV.s (SV.int IntKind.i64 (gF is id)), AV.s (SV.int IntKind.u8 (gW is id)), AV.s (SV.str (gC is id))] (31 : Nat), AObj.own [AV.s (SV.int IntKind.i64 (gI is (gU is id))), AV.s (SV.int IntKind.i64 (gU is (gU is id))), AV.s (SV.int IntKind.u8 (gS is (gU is id))), AV.s (SV.str (gP is (gU is id))), AV.s (SV.int IntKind.i64 (gN is (gU is id))), AV.s (SV.int IntKind.i64 (gF is (gU is id))), AV.s (SV.int IntKind.u8 (gW is (gU is id))), AV.s (SV.str (gC is (gU is id)))] (31 : Nat)] (AV.s (SV.bool (soundF nx ps (delF (pIt (clearL is id)) is))))))))) (Tree.ret [AObj.own [AV.s (SV.int IntKind.i64 ck), AV.s (SV.int IntKind.i64 nx), AV.s (SV.ro (Con.typ cP ps)), AV.s (SV.ro (Con.typ cI is)), AV.s (SV.ro (Con.typ cC cs)), AV.s (SV.ro (Con.typ cW ws))] (27 : Nat), AObj.own [AV.s (SV.int IntKind.i64 (gI is id)), AV.s (SV.int IntKind.i64 (gU is id)), AV.s (SV.int IntKind.u8 (gS is id)), AV.s (SV.str (gP is id)), AV.s (SV.int IntKind.i64 (gN is id)), AV.s (SV.int IntKind.i64 (gF is id)), AV.s (SV.int IntKind.u8 (gW is id)), AV.s (SV.str (gC is id))] (31 : Nat), AObj.own [AV.s (SV.int IntKind.i64 (gI is (gU is id))), AV.s (SV.int IntKind.i64 (gU is (gU is id))), AV.s (SV.int IntKind.u8 (gS is (gU is id))), AV.s (SV.str (gP is (gU is id))), AV.s (SV.int IntKind.i64 (gN is (gU is id))), AV.s (SV.int IntKind.i64 (gF is (gU is id))), AV.s (SV.int IntKind.u8 (gW is (gU is id))), AV.s (SV.str (gC is (gU is id)))] (31 : Nat)] (AV.s (SV.blit false)))))))) (Tree.ret [AObj.own [AV.s (SV.int IntKind.i64 ck), AV.s (SV.int IntKind.i64 nx), AV.s (SV.ro (Con.typ cP ps)), AV.s (SV.ro (Con.typ cI is)), AV.s (SV.ro (Con.typ cC cs)), AV.s (SV.ro (Con.typ cW ws))] (27 : Nat), AObj.own [AV.s (SV.int IntKind.i64 (gI is id)), AV.s (SV.int IntKind.i64 (gU is id)), AV.s (SV.int IntKind.u8 (gS is id)), AV.s (SV.str (gP is id)), AV.s (SV.int IntKind.i64 (gN is id)), AV.s (SV.int IntKind.i64 (gF is id)), AV.s (SV.int IntKind.u8 (gW is id)), AV.s (SV.str (gC is id))] (31 : Nat), AObj.own [AV.s (SV.int IntKind.i64 (gI is (gU is id))), AV.s (SV.int IntKind.i64 (gU is (gU is id))), AV.s (SV.int IntKind.u8 (gS is (gU is id))), AV.s (SV.str (gP is (gU is id))), AV.s (SV.int IntKind.i64 (gN is (gU is id))), AV.s (SV.int IntKind.i64 (gF is (gU is id))), AV.s (SV.int IntKind.u8 (gW is (gU is id))), AV.s (SV.str (gC is (gU is id)))] (31 : Nat)] (AV.s (SV.blit false)))))))))
            (Tree.need (List.length is ≤ (1000000 : Nat)) (Tree.need (List.length cs ≤ (1000000 : Nat)) (Tree.need (List.length ws ≤ (1000000 : Nat)) (Tree.need ((delF (pIt (takeL is id)) is).length ≤ (1000000 : Nat)) (Tree.ite (soundF nx ps (delF (pIt (takeL is id)) is)) (Tree.need (List.length is ≤ (1000000 : Nat)) (Tree.need (List.length cs ≤ (1000000 : Nat)) (Tree.need (List.length ws ≤ (1000000 : Nat)) (Tree.need ((delF (pIt (clearL is id)) is).length ≤ (1000000 : Nat)) (Tree.ite (soundF nx ps (delF (pIt (clearL is id)) is)) (Tree.need (List.length is ≤ (1000000 : Nat)) (Tree.need (List.length cs ≤ (1000000 : Nat)) (Tree.need (List.length ws ≤ (1000000 : Nat)) (Tree.need ((delF (pIt (clearL is id)) is).length ≤ (1000000 : Nat)) (Tree.ret [AObj.own [AV.s (SV.int IntKind.i64 ck), AV.s (SV.int IntKind.i64 nx), AV.s (SV.ro (Con.typ cP ps)), AV.s (SV.ro (Con.typ cI is)), AV.s (SV.ro (Con.typ cC cs)), AV.s (SV.ro (Con.typ cW ws))] (27 : Nat), AObj.own [AV.s (SV.int IntKind.i64 (gI is id)), AV.s (SV.int IntKind.i64 (gU is id)), AV.s (SV.int IntKind.u8 (gS is id)), AV.s (SV.str (gP is id)), AV.s (SV.int IntKind.i64 (gN is id)), AV.s (SV.int IntKind.i64 (gF is id)), AV.s (SV.int IntKind.u8 (gW is id)), AV.s (SV.str (gC is id))] (31 : Nat), AObj.own [AV.s (SV.int IntKind.i64 (gI is (gU is id))), AV.s (SV.int IntKind.i64 (gU is (gU is id))), AV.s (SV.int IntKind.u8 (gS is (gU is id))), AV.s (SV.str (gP is (gU is id))), AV.s (SV.int IntKind.i64 (gN is (gU is id))), AV.s (SV.int IntKind.i64 (gF is (gU is id))), AV.s (SV.int IntKind.u8 (gW is (gU is id))), AV.s (SV.str (gC is (gU is id)))] (31 : Nat)] (AV.s (SV.bool (soundF nx ps (delF (pIt (clearL is id)) is))))))))) (Tree.ret [AObj.own [AV.s (SV.int IntKind.i64 ck), AV.s (SV.int IntKind.i64 nx), AV.s (SV.ro (Con.typ cP ps)), AV.s (SV.ro (Con.typ cI is)), AV.s (SV.ro (Con.typ cC cs)), AV.s (SV.ro (Con.typ cW ws))] (27 : Nat), AObj.own [AV.s (SV.int IntKind.i64 (gI is id)), AV.s (SV.int IntKind.i64 (gU is id)), AV.s (SV.int IntKind.u8 (gS is id)), AV.s (SV.str (gP is id)), AV.s (SV.int IntKind.i64 (gN is id)), AV.s (SV.int IntKind.i64 (gF is id)), AV.s (SV.int IntKind.u8 (gW is id)), AV.s (SV.str (gC is id))] (31 : Nat), AObj.own [AV.s (SV.int IntKind.i64 (gI is (gU is id))), AV.s (SV.int IntKind.i64 (gU is (gU is id))), AV.s (SV.int IntKind.u8 (gS is (gU is id))), AV.s (SV.str (gP is (gU is id))), AV.s (SV.int IntKind.i64 (gN is (gU is id))), AV.s (SV.int IntKind.i64 (gF is (gU is id))), AV.s (SV.int IntKind.u8 (gW is (gU is id))), AV.s (SV.str (gC is (gU is id)))] (31 : Nat)] (AV.s (SV.blit false)))))))) (Tree.ret [AObj.own [AV.s (SV.int IntKind.i64 ck), AV.s (SV.int IntKind.i64 nx), AV.s (SV.ro (Con.typ cP ps)), AV.s (SV.ro (Con.typ cI is)), AV.s (SV.ro (Con.typ cC cs)), AV.s (SV.ro (Con.typ cW ws))] (27 : Nat), AObj.own [AV.s (SV.int IntKind.i64 (gI is id)), AV.s (SV.int IntKind.i64 (gU is id)), AV.s (SV.int IntKind.u8 (gS is id)), AV.s (SV.str (gP is id)), AV.s (SV.int IntKind.i64 (gN is id)), AV.s (SV.int IntKind.i64 (gF is id)), AV.s (SV.int IntKind.u8 (gW is id)), AV.s (SV.str (gC is id))] (31 : Nat), AObj.own [AV.s (SV.int IntKind.i64 (gI is (gU is id))), AV.s (SV.int IntKind.i64 (gU is (gU is id))), AV.s (SV.int IntKind.u8 (gS is (gU is id))), AV.s (SV.str (gP is (gU is id))), AV.s (SV.int IntKind.i64 (gN is (gU is id))), AV.s (SV.int IntKind.i64 (gF is (gU is id))), AV.s (SV.int IntKind.u8 (gW is (gU is id))), AV.s (SV.str (gC is (gU is id)))] (31 : Nat)] (AV.s (SV.blit false))))))))))))) := by kernel_rfl
end Ds

namespace Ds
open Go Go.Sx Go.Proofs Lf
variable {nx : Int} {ps : Ps} {is : Is}
theorem not_big {ps : Ps} {is : Is} {cs : Cs} {ws : Ws} (h : largeF ps is cs ws = false) : is.length ≤ 170 ∧ cs.length ≤ 300 ∧ ws.length ≤ 300 := by
  have := of_decide_eq_false h
  omega
theorem clr_yes {a : Int} (h : hasI is a = true) : clearL is a = delF (fun x => x == a) (belowF (esOf is) a) := by unfold clearL; rw [if_pos h]
theorem clr_no {a : Int} (h : hasI is a = false) : clearL is a = [] := by unfold clearL; rw [if_neg (by simp [h])]
theorem Trees.del (T : Trees nx is) {R : List Int} (hc : ∀ a ∈ R, ∀ b ∈ kidsF (esOf is) a, b ∈ R) : Trees nx (delF (pIt R) is) := by
  refine ⟨fun x hx => T.pos x (mem_del.1 hx).1, List.Pairwise.filter _ T.ris, fun x hx => ?_⟩
  obtain ⟨h1, h2⟩ := mem_del.1 hx
  have h2 := pIt_iff.1 h2
  rcases T.up x h1 with e | ⟨y, hy, e, hlt⟩
  · exact .inl e
  · refine .inr ⟨y, mem_del.2 ⟨hy, pIt_iff.2 fun hR => h2 ?_⟩, e, hlt⟩
    rw [e] at hR
    exact hc _ hR _ (mem_kids.2 ⟨List.mem_map.2 ⟨x, h1, rfl⟩, by omega⟩)
theorem Trees.del_get (T : Trees nx is) {R : List Int} (T' : Trees nx (delF (pIt R) is)) {b : Int} (hb : b ∉ R) : hasI is b = hasI (delF (pIt R) is) b ∧ getI is b = getI (delF (pIt R) is) b := by
  have e : hasI is b = hasI (delF (pIt R) is) b := by
    rw [Bool.eq_iff_iff, has_del]
    exact ⟨fun h => ⟨h, hb⟩, fun h => h.1⟩
  refine ⟨e, ?_⟩
  cases h : hasI is b with
  | false => rw [get_no h, get_no (by rw [← e]; exact h)]
  | true =>
    obtain ⟨h1, h2⟩ := get_mem (show hasI (delF (pIt R) is) b = true by rw [← e]; exact h)
    have := (T.get (mem_del.1 h1).1).2
    rw [h2] at this
    exact this
theorem Trees.up_out (T : Trees nx is) {R : List Int} (hc : ∀ a ∈ R, ∀ b ∈ kidsF (esOf is) a, b ∈ R) {b : Int} (h : hasI is b = true) (hb : b ∉ R) : gU is b ∉ R := fun hR => by
  obtain ⟨h1, h2⟩ := get_mem h
  refine hb (hc _ hR _ (mem_kids.2 ⟨List.mem_map.2 ⟨_, h1, ?_⟩, ?_⟩))
  · rw [h2]; rfl
  · have := (T.up_lt h).1; omega
theorem Snd.del (S : Snd nx ps is) {R : List Int} (hc : ∀ a ∈ R, ∀ b ∈ kidsF (esOf is) a, b ∈ R) (hk : ∀ x ∈ is, iS x = 2 → iI x ∉ R → ∀ z ∈ kidsF (esOf is) (iI x), z ∉ R) : soundF nx ps (delF (pIt R) is) = true := by
  have T' := S.tr.del hc
  refine sound_iff.2 ⟨S.nx0, T', fun x hx => ?_, Nat.le_trans (delF_len _ _) S.len⟩
  obtain ⟨h1, h2⟩ := mem_del.1 hx
  have h2 := pIt_iff.1 h2
  obtain ⟨g1, g2⟩ := S.tr.get h1
  have hU : gU is (iI x) = iU x := by unfold gU; rw [g2]
  have hu : iU x ∉ R := by rw [← hU]; exact S.tr.up_out hc g1 h2
  have hd : depthF is (iI x) = depthF (delF (pIt R) is) (iI x) :=
    S.tr.same T' (K := fun b => b ∉ R) (fun b hb => ⟨(S.tr.del_get T' hb).1, fun h => ⟨(S.tr.del_get T' hb).2, S.tr.up_out hc h hb⟩⟩) _ _ (Nat.le_refl _) h2
  rw [← okI_same hd (S.tr.del_get T' hu).2 fun h3 => ?_]
  · exact S.ok x h1
  · unfold kidsN
    have : kidsF (esOf is) (iI x) = kidsF (esOf (delF (pIt R) is)) (iI x) := by
      refine lt_ext (setS_lt _) (setS_lt _) fun z => ?_
      show z ∈ kidsF _ _ ↔ z ∈ kidsF _ _
      constructor
      · intro hz
        have hzR := hk x h1 h3 h2 z hz
        obtain ⟨m1, m2⟩ := mem_kids.1 hz
        obtain ⟨y, hy, e⟩ := List.mem_map.1 m1
        have e1 : iI y = z := congrArg Prod.fst e
        exact mem_kids.2 ⟨List.mem_map.2 ⟨y, mem_del.2 ⟨hy, pIt_iff.2 (by rw [e1]; exact hzR)⟩, e⟩, m2⟩
      · intro hz
        obtain ⟨m1, m2⟩ := mem_kids.1 hz
        obtain ⟨y, hy, e⟩ := List.mem_map.1 m1
        exact mem_kids.2 ⟨List.mem_map.2 ⟨y, (mem_del.1 hy).1, e⟩, m2⟩
    rw [this]
theorem Snd.same_ (S : Snd nx ps is) : soundF nx ps (delF (pIt []) is) = true := by
  rw [show delF (pIt []) is = is from del_nil (fun x : CL cI => iI x) is]
  exact sound_iff.2 S
/-- Taken away with all below it: its Up holds none but it, or is no token. -/
theorem Snd.take (S : Snd nx ps is) {id : Int} (hp : gS is (gU is id) ≠ 2) : soundF nx ps (delF (pIt (takeL is id)) is) = true := by
  cases hh : hasI is id with
  | false => rw [take_no hh]; exact S.same_
  | true =>
    refine S.del (fun a ha b hb => take_reach ha (.kid hb)) fun x hx h2 hR z hz hzR => ?_
    obtain ⟨g1, g2⟩ := S.tr.get hx
    obtain ⟨_, k2, k3⟩ := S.tr.kid hz
    rcases (mem_take.1 hzR).2 with e | e
    · subst e
      rw [k3] at hp
      exact hp (by unfold gS; rw [g2]; exact h2)
    · rcases S.tr.back e hz with h | h
      · exact hR (mem_take.2 ⟨hh, .inl h.symm⟩)
      · exact hR (mem_take.2 ⟨hh, .inr h⟩)
theorem mem_clear {a x : Int} : x ∈ clearL is a ↔ hasI is a = true ∧ x ≠ a ∧ Reach (esOf is) a x := by
  cases h : hasI is a with
  | false => rw [clr_no h]; simp
  | true =>
    rw [clr_yes h, mem_del, mem_below]
    simp only [beq_eq_false_iff_ne, true_and]
    exact ⟨fun ⟨⟨h1, h2⟩, _⟩ => ⟨h1, h2⟩, fun ⟨h1, h2⟩ => ⟨⟨h1, h2⟩, h1⟩⟩
theorem Snd.no_kids (S : Snd nx ps is) {x : CL cI} (hx : x ∈ is) (h2 : iS x = 2) (hw : iW x ≠ 3) : kidsF (esOf is) (iI x) = [] := by
  rcases S.kind hx with ⟨e, _⟩ | ⟨_, ht⟩
  · omega
  · unfold tokenF tokT at ht
    simp only [Bool.and_eq_true, Bool.or_eq_true, beq_iff_eq, bne_iff_ne] at ht
    have := ht.2.2
    have h0 : kidsN is x = 0 := by
      rcases this with h | h
      · exact h.1
      · exact absurd h.2 hw
    unfold kidsN at h0
    exact List.length_eq_zero_iff.1 (by omega)
/-- Cleared: of a token that holds none. -/
theorem Snd.clear (S : Snd nx ps is) {id : Int} (hp : gS is id ≠ 2 ∨ gW is id ≠ 3) : soundF nx ps (delF (pIt (clearL is id)) is) = true := by
  cases hh : hasI is id with
  | false => rw [clr_no hh]; exact S.same_
  | true =>
    refine S.del (fun a ha b hb => ?_) fun x hx h2 hR z hz hzR => ?_
    · obtain ⟨_, _, h3⟩ := mem_clear.1 ha
      have h4 := h3.trans (.kid hb)
      have := S.tr.reach_lt h4
      exact mem_clear.2 ⟨hh, by omega, h4⟩
    · obtain ⟨g1, g2⟩ := S.tr.get hx
      obtain ⟨_, _, h3⟩ := mem_clear.1 hzR
      rcases S.tr.back h3 hz with e | e
      · subst e
        rcases hp with h | h
        · exact h (by unfold gS; rw [g2]; exact h2)
        · have := S.no_kids hx h2 (by unfold gW at h; rw [g2] at h; exact h)
          rw [this] at hz; cases hz
      · have := S.tr.reach_lt e
        exact hR (mem_clear.2 ⟨hh, by omega, e⟩)
theorem Snd.tok_par (S : Snd nx ps is) {id : Int} (h : gS is id = 2) : gS is (gU is id) ≠ 2 := by
  have hh : hasI is id = true := by
    cases h0 : hasI is id with
    | true => rfl
    | false => unfold gS at h; rw [get_no h0] at h; cases h
  obtain ⟨m1, m2⟩ := get_mem hh
  rcases S.kind m1 with ⟨e, _⟩ | ⟨_, ht⟩
  · have e : gS is id = 1 := e
    omega
  · have := (S.tok_up ht).1
    have : gS is (gU is id) = 1 := this
    omega
variable {Z : Glob}
theorem tabCs_ok (KV : MapVar P Z gKi tKi kindsF) : tabCs.Ok P Z := Tab.Ok.cons works_ok.sum (Tab.Ok.cons large_ok.sum (Tab.Ok.cons (sound_ok KV).sum (Tab.Ok.cons find_ok.sum (Tab.Ok.cons take_ok.sumR (Tab.Ok.cons clear_ok.sumR (Tab.Ok.cons break_ok.sumR Tab.Ok.nil))))))
theorem cancelSound_ok (KV : MapVar P Z gKi tKi kindsF) : FnOk P Z 7 [tSt, tInt] [tBool] (fun _ => []) (fun _ => (true, ())) := by
  refine fnOk_of_safe Tryd.func7 (by kernel_rfl) (by kernel_rfl) ?_
  rintro ⟨⟨(ck : Int), (nx : Int), (ps : Ps), (is : Is), (cs : Cs), (ws : Ws), ⟨⟩⟩, (id : Int), ⟨⟩⟩ _ _ X hX hz
  show Safe P 7 X (Ends [tBool] (true, ())) _
  refine go hz hX (tabCs_ok KV) Tryd.func7 (trCs ck nx ps is cs ws id) (no_and rfl ⟨fun _ => ends_eq _ rfl (by kernel_rfl), fun hl => ?_⟩)
  obtain ⟨l1, l2, l3⟩ := not_big hl
  have hd : ∀ R, (delF (pIt R) is).length ≤ 1000000 := fun R => by have := delF_len (pIt R) is; omega
  refine ⟨by omega, fun _ => ends_eq _ rfl (by kernel_rfl), fun hs => ?_⟩
  have S := sound_iff.1 (by simpa using hs)
  clear hs hl
  have b1 : is.length ≤ 1000000 := by omega
  have b2 : cs.length ≤ 1000000 := by omega
  have b3 : ws.length ≤ 1000000 := by omega
  have case2 : gS is id = 1 → gS is (gU is id) = 2 → soundF nx ps (delF (pIt (takeL is (gI is (gU is id)))) is) = true ∧ soundF nx ps (delF (pIt (clearL is id)) is) = true := fun h1 h2 => by
    have hh : hasI is (gU is id) = true := by
      cases h0 : hasI is (gU is id) with
      | true => rfl
      | false => unfold gS at h2; rw [get_no h0] at h2; cases h2
    rw [show gI is (gU is id) = gU is id from (has_item hh).1]
    exact ⟨S.take (S.tok_par h2), S.clear (.inl (by omega))⟩
  refine ⟨fun h1 => ⟨fun h2 => ⟨b1, b2, b3, hd _, ends_is ?_⟩, fun h2 => ⟨fun h3 => ⟨fun h4 => ?_, fun h4 => ?_⟩, fun h3 => ?_⟩⟩, fun h1 => ⟨fun h3 => ⟨fun h4 => ?_, fun h4 => ?_⟩, fun h3 => ?_⟩⟩
  · exact (S.take (S.tok_par (by simpa using h1))).symm
  · have a : gS is id = 2 := by simpa using h1
    have b : gS is id = 1 := by simpa using h3
    omega
  · have a : gS is id = 2 := by simpa using h1
    have b : gS is id = 1 := by simpa using h3
    omega
  · have a : gS is id = 2 := by simpa using h1
    have w : gW is id ≠ 3 := by simpa using h2
    have e1 := S.take (S.tok_par a)
    have e2 := S.clear (id := id) (.inr w)
    exact ⟨b1, b2, b3, hd _, yes_and e1 ⟨b1, b2, b3, hd _, yes_and e2 ⟨b1, b2, b3, hd _, ends_is e2.symm⟩⟩⟩
  · obtain ⟨e1, e2⟩ := case2 (by simpa using h3) (by simpa using h4)
    exact ⟨b1, b2, b3, hd _, yes_and e1 ⟨b1, b2, b3, hd _, yes_and e2 ⟨b1, b2, b3, hd _, ends_is e2.symm⟩⟩⟩
  · have a : gS is id ≠ 2 := by simpa using h1
    have e1 := S.take (id := id) (by simpa using h4)
    have e2 := S.clear (id := id) (.inl a)
    exact ⟨b1, b2, b3, hd _, yes_and e1 ⟨b1, b2, b3, hd _, yes_and e2 ⟨b1, b2, b3, hd _, ends_is e2.symm⟩⟩⟩
  · have a : gS is id ≠ 2 := by simpa using h1
    have b : gS is id ≠ 1 := by simpa using h3
    have hh : hasI is id = false := by
      cases h0 : hasI is id with
      | false => rfl
      | true =>
        have := S.kind (get_mem h0).1
        rcases this with h | h
        · exact absurd h.1 b
        · exact absurd h.1 a
    have e1 : soundF nx ps (delF (pIt (takeL is id)) is) = true := by rw [take_no hh]; exact S.same_
    have e2 := S.clear (id := id) (.inl a)
    exact ⟨b1, b2, b3, hd _, yes_and e1 ⟨b1, b2, b3, hd _, yes_and e2 ⟨b1, b2, b3, hd _, ends_is e2.symm⟩⟩⟩
end Ds

/-! A package variable that is a map of rows of bytes: from what a row lists to how it is read. -/
namespace Go.Sx
open Go Go.RowKit Go.ChangeShapes Go.WideShapes Go.ChangeAt

/-- All that stood there stands. -/
def Glob.all (W : World) : Glob where
  bs := List.range W.heap.size
  ok w := ∀ b, b < W.heap.size → w.heap[b]? = W.heap[b]?
  low w h b hb := by
    have hb := List.mem_range.1 hb
    have := h b hb
    rw [Array.getElem?_eq_getElem hb] at this
    exact (Array.getElem?_eq_some_iff.1 this).1
  keep w w' h hk b hb := (hk b (List.mem_range.2 hb)).trans (h b hb)

theorem Glob.all_self (W : World) : (Glob.all W).ok W := fun _ _ => rfl

theorem all_cell {W w : World} (h : (Glob.all W).ok w) {a : Addr} {v : Value} (hc : W.cell? a = some v) : w.cell? a = some v := by
  have hlt : a.block < W.heap.size := by
    rcases Nat.lt_or_ge a.block W.heap.size with h2 | h2
    · exact h2
    · simp [World.cell?, Array.getElem?_eq_none h2] at hc
  unfold World.cell? at hc ⊢
  rw [h a.block hlt]
  exact hc

/-- The map as a row lists it. -/
def rowsData {H : Type} (rows : List (Int × List Int)) : DataW H := .map (rows.map fun x => (.int .u8 x.1, .slice (lits .u8 x.2) []))

def foundAt (es : List MapEntry) (n : Int) : Value := match Instr.findNow (.int .u8) (.int .u8 n) es 0 with
  | some (some (_, v)) => v
  | _ => .slice none 0 0

theorem find_u8 {l : List MapEntry} (hks : ∀ x ∈ l, MapKept.IsKey (.int .u8) x.key) (n : Int) :
    (Instr.findNow (.int .u8) (.int .u8 n) l 0 = some none ∧ ∀ x ∈ l, x.key ≠ .int .u8 n) ∨ ∃ j e, Instr.findNow (.int .u8) (.int .u8 n) l 0 = some (some (j, e.val)) ∧ e ∈ l ∧ e.key = .int .u8 n := by
  rcases MapKept.findNow_spec (d := .int .u8) (k := .int .u8 n) rfl l 0 hks with h | ⟨j, e, h1, h2, h3⟩
  · exact .inl h
  · exact .inr ⟨_, e, h1, List.mem_of_getElem? h2, h3⟩

section
variable {P : Program} {W : World} {name : String} {rows : List (Int × List Int)} {rest : List (String × DataW Unit)} {g : Nat} {t kt et e1 : TypeId} {row : Int → List Int}

theorem lits_inj {H : Type} {k : IntKind} : ∀ {xs ys : List Int}, (lits k xs : List (DataW H)) = lits k ys → xs = ys
  | [], [], _ => rfl
  | [], _ :: _, h => by simp [lits] at h
  | _ :: _, [], h => by simp [lits] at h
  | x :: xs, y :: ys, h => by
    simp only [lits, List.map_cons, List.cons.injEq, DataW.lit.injEq, Lit.int.injEq, true_and] at h
    rw [h.1, lits_inj (H := H) (k := k) (show lits k xs = lits k ys from h.2)]

/-- A row without spare reads as its integers. -/
theorem row_den {H : Type} {enc : TypeId × Value → H} {base : Nat} {sp : Nat → Bool} {held : Bool} {t e : TypeId} {fuel : Nat} {v : Value} {zs : List Int} {p : List MemPlace} (ht : P.underlying t = some (.slice e)) (he : P.underlying e = some (.int .u8)) (hc : P.cellsOf e = 1)
    (hf : v.formed P t = true) (h : DataW.trod enc P W base sp held fuel t v.cells.toList = some (.slice (lits .u8 zs) [], p)) {w : World} (hz : (Glob.all W).ok w) : v.oneCell' = true ∧ DenS (fun _ => False) w (.ro (.ints .u8 zs)) v := by
  rcases open_ints ht he hc h with ⟨_, hx⟩ | ⟨a, len, cap, zs', hcs, _, hl, hm, hlen, hx, hcell, _⟩
  · cases hx
  · simp only [Prod.mk.injEq, DataW.slice.injEq] at hx
    obtain ⟨⟨hx1, hx2⟩, _⟩ := hx
    have hd : zs'.drop len = [] := lits_inj (H := H) (k := .u8) (by rw [← hx2]; rfl)
    have e1 := lits_inj hx1
    have hle : zs'.length ≤ len := by simpa using hd
    have h2 : len ≤ zs'.length := by rw [hlen]; split <;> omega
    rw [List.take_of_length_le hle] at e1
    subst e1
    have hlz : zs.length = len := by omega
    have hv : v = .slice (some a) len cap := by
      cases v <;> first
        | (simp only [Value.cells, List.cons.injEq, and_true] at hcs; exact hcs)
        | (simp [Value.formed, ht] at hf)
    subst hv
    refine ⟨rfl, ?_⟩
    rcases Nat.eq_zero_or_pos len with h0 | h0
    · have hz0 : zs = [] := List.length_eq_zero_iff.1 (by omega)
      subst hz0
      subst h0
      exact .ro (.ints .u8 []) (some a) cap (fun _ _ => undef) 0 0 (Nat.zero_le _) hm (fun h => by simp [Con.n] at h) (fun i j hi hj => by simp [Con.n] at hi) (fun i j hi hj => by simp [Con.n] at hi)
    · obtain ⟨b, o, rfl, hc⟩ := ints_at hcell (by omega)
      have hn : (Con.ints .u8 zs).n = len := hlz
      have key := DenS.ro (O := fun _ => False) (w := w) (.ints .u8 zs) (some ⟨b, o, none⟩) cap (fun j _ => .int .u8 (zs.getD j 0)) b o (by omega) hm (fun _ => ⟨rfl, fun h => h, ?_⟩) (fun j l hj hl' => ?_) (fun j l hj hl' => ?_)
      · rw [hn] at key
        exact key
      · have h1 := all_cell hz (hc 0 (by omega))
        rcases Nat.lt_or_ge b w.heap.size with h2 | h2
        · exact h2
        · simp [World.cell?, Array.getElem?_eq_none h2] at h1
      · rw [hn] at hj
        simp only [Con.size] at hl' ⊢
        obtain rfl : l = 0 := by omega
        rw [Nat.mul_one, Nat.add_zero]
        exact all_cell hz (hc j (by omega))
      · exact .int _ _

/-- From the list to the variable. -/
theorem mapVar_of (hg : P.globalNamed name = some g) (hty : (P.globals[g]?).map (·.type) = some t) (ht : P.underlying t = some (.map kt et)) (hk : P.underlying kt = some (.int .u8)) (he : P.underlying et = some (.slice e1)) (h1 : P.underlying e1 = some (.int .u8)) (hc1 : P.cellsOf e1 = 1)
    (hzv : (P.info? et).bind (·.zero) = some (.slice none 0 0)) (hrow : ∀ x ∈ rows, row x.1 = x.2) (hno : ∀ n, (∀ x ∈ rows, x.1 ≠ n) → row n = [])
    (h : laidMet P ((name, rowsData rows) :: rest) W) : Nonempty (MapVar P (Glob.all W) g t row) := by
  obtain ⟨ps, ⟨g', t', cs, fuel, p, q, hg', ht', hvar, hd, _, _⟩, _⟩ := h
  obtain rfl := Option.some.inj (hg.symm.trans hg')
  obtain rfl := Option.some.inj (hty.symm.trans ht')
  rcases WideElems.open_map ht hd with ⟨_, hx⟩ | ⟨b, es, clock, n, rfl, hcs, hb, _, F, hx⟩
  · cases hx
  · simp only [Prod.mk.injEq, rowsData, DataW.map.injEq] at hx
    obtain ⟨hx, _⟩ := hx
    have hperm := sorted_perm (es.toList.map (WideElems.rg P kt (WideElems.elemAt (fun _ => ()) P W 0 (fun _ => true) false n et)))
    rw [← hx] at hperm
    have hkey : ∀ x ∈ es.toList, ∃ m, x.key = .int .u8 m ∧ ∃ zs q, (m, zs) ∈ rows ∧ x.val.formed P et = true ∧ DataW.trod (fun _ => ()) P W 0 (fun _ => true) false n et x.val.cells.toList = some (.slice (lits .u8 zs) [], q) := by
      intro x hxm
      obtain ⟨y, hy⟩ := F.reads x hxm
      have hk1 := WideElems.rd_key hy
      obtain ⟨z, hz1, hz2⟩ := WideElems.rd_val hy
      have hm := hperm.mem_iff.2 (List.mem_map_of_mem (f := WideElems.rg P kt (WideElems.elemAt (fun _ => ()) P W 0 (fun _ => true) false n et)) hxm)
      rw [WideElems.rg_of hy] at hm
      obtain ⟨r, hr, e⟩ := List.mem_map.1 hm
      subst e
      simp only at hk1 hz2
      have hk2 : mapKey P kt x.key = some (.int .u8 r.1) := by unfold Go.keyOf at hk1; rw [hk] at hk1; exact hk1
      have hk3 : x.key = .int .u8 r.1 := by
        generalize x.key = u at hk2
        unfold mapKey at hk2
        rw [hk] at hk2
        cases u <;> simp at hk2
        obtain ⟨⟨rfl, _⟩, rfl⟩ := hk2
        rfl
      unfold WideElems.elemAt at hz1
      split at hz1
      · rename_i hf
        refine ⟨r.1, hk3, r.2, z.2, hr, hf, ?_⟩
        rw [hz1, hz2]
      · cases hz1
    have hback : ∀ x ∈ rows, ∃ y ∈ es.toList, y.key = .int .u8 x.1 := by
      intro x hx1
      have hm := hperm.mem_iff.1 (List.mem_map_of_mem (f := fun x : Int × List Int => ((Lit.int .u8 x.1, DataW.slice (lits .u8 x.2) []) : Lit × DataW Unit)) hx1)
      obtain ⟨y, hy, e⟩ := List.mem_map.1 hm
      obtain ⟨z, hz⟩ := F.reads y hy
      rw [WideElems.rg_of hz] at e
      subst e
      have hk1 := WideElems.rd_key hz
      simp only at hk1
      have hk2 : mapKey P kt y.key = some (.int .u8 x.1) := by unfold Go.keyOf at hk1; rw [hk] at hk1; exact hk1
      refine ⟨y, hy, ?_⟩
      generalize y.key = u at hk2
      unfold mapKey at hk2
      rw [hk] at hk2
      cases u <;> simp at hk2
      obtain ⟨⟨rfl, _⟩, rfl⟩ := hk2
      rfl
    have hks : ∀ x ∈ es.toList, MapKept.IsKey (.int .u8) x.key := fun x hx => by
      obtain ⟨m, h1, _⟩ := hkey x hx
      rw [h1]; rfl
    have hblt : b < W.heap.size := (Array.getElem?_eq_some_iff.1 hb).1
    have hgc : W.cell? ⟨g, 0, none⟩ = some (.map (some b)) := by
      rw [World.var?_cell hg hvar 0, ← Array.getElem?_toList, hcs]; rfl
    refine ⟨⟨.map (some b), foundAt es.toList, rfl, fun m => ?_, fun o e w ho hev hz => ?_, fun w m hz => ?_, fun w m hz => ?_⟩⟩
    · unfold foundAt
      rcases find_u8 hks m with ⟨h2, _⟩ | ⟨j, x, h2, h3, _⟩
      · rw [h2]; rfl
      · rw [h2]
        obtain ⟨_, _, zs, q, _, h5, h6⟩ := hkey x h3
        exact (row_den he h1 hc1 h5 h6 (Glob.all_self W)).1
    · unfold execOp
      rw [ho]
      have := run_loadVar_one (P := P) (w := w) (t := t) (b := g) (off := 0) (v := .map (some b)) (by unfold aggT; rw [ht]) (all_cell hz hgc)
      simp only [hev, Sem.run_bind, this, Result.andThen_ok, Sem.run_pure]
    · have hb' : w.heap[b]? = some (.map es clock) := (hz b hblt).trans hb
      have hzero : (zeroValue et).run P w = .ok (.slice none 0 0) w := by
        obtain ⟨i, h1, h2⟩ := Option.bind_eq_some_iff.1 hzv
        simp [zeroValue, typeInfo, h1, h2]
      have hc := MapKept.run_checkKey (P := P) (w := w) hk (k := .int .u8 m) rfl es.isEmpty 9999
      unfold foundAt
      rcases find_u8 hks m with ⟨h2, _⟩ | ⟨j, x, h2, h3, _⟩
      · have h4 := MapKept.run_findKey (P := P) (w := w) hk h2
        simp [Instr.lookup, run_underlying ht, MapKept.run_getObj_map hb', hc, h4, h2, hzero, Result.andThen]
      · have h4 := MapKept.run_findKey (P := P) (w := w) hk h2
        simp [Instr.lookup, run_underlying ht, MapKept.run_getObj_map hb', hc, h4, h2, Result.andThen]
    · unfold foundAt
      rcases find_u8 hks m with ⟨h2, h3⟩ | ⟨j, x, h2, h3, h4⟩
      · rw [h2, hno m fun x hx e => ?_]
        · exact .ro (.ints .u8 []) none 0 (fun _ _ => undef) 0 0 (Nat.zero_le _) (Nat.zero_le _) (fun h => by simp [Con.n] at h) (fun i j hi hj => by simp [Con.n] at hi) (fun i j hi hj => by simp [Con.n] at hi)
        · obtain ⟨y, hy, e2⟩ := hback x hx
          exact h3 y hy (by rw [e2, e])
      · rw [h2]
        obtain ⟨m', h8, zs, q, h9, h5, h6⟩ := hkey x h3
        rw [h4] at h8
        cases h8
        have := hrow _ h9
        simp only at this
        rw [this]
        exact (row_den he h1 hc1 h5 h6 hz).2
end
end Go.Sx
