import Derived.Test.YtjofgphbmdbkmaaDoorBx1
namespace Bx
open Go Go.Sx Go.Proofs
abbrev sOp (op : BinOp) := sumOf [tU, tU] [tU] (fun _ => []) (fun (a, b, ()) => (bitop op .u64 a b, ()))
def tab2 : Tab := [(38, sOp .andNot), (39, sOp .and), (40, sOp .or)]
def ns37 : List (Nat × Norm) := [(2, ⟨[], [2, 3, 4, 6, 8], 0, []⟩)]
noncomputable def c37 (f : FuncId) (b s : List Int) (i : Int) : Cfg := ⟨sl 23 [(2, .s (.fn0 f)), (3, .ptr 0 0), (4, .ptr 1 0), (6, .ptr 2 0), (8, .s (.int .i64 i))], [.own [.ints .u64 16 s] 25, .own [.ints .u64 16 b] 25, .own [.ints .u64 16 (List.replicate 16 0)] 25], hd Tryd.f37 2⟩
theorem tree37a (a b : List Int) : run P tab2.sum Tryd.f37 ns37 (start Tryd.f37 [.ints .u64 16 a, .ints .u64 16 b, .s (.fn0 38)] []) =
  Tree.at { tmps := sl (23 : Nat) [((2 : Nat), AV.s (SV.fn0 (38 : Nat))), ((3 : Nat), AV.ptr (0 : Nat) (0 : Nat)), ((4 : Nat), AV.ptr (1 : Nat) (0 : Nat)), ((6 : Nat), AV.ptr (2 : Nat) (0 : Nat)), ((8 : Nat), AV.s (SV.int IntKind.i64 (0 : Int)))], H := [AObj.own [AV.ints IntKind.u64 (16 : Nat) a] (25 : Nat), AObj.own [AV.ints IntKind.u64 (16 : Nat) b] (25 : Nat), AObj.own [AV.ints IntKind.u64 (16 : Nat) (List.replicate (16 : Nat) (0 : Int))] (25 : Nat)], todo := hd Tryd.f37 (2 : Nat) } := by kernel_rfl
theorem loop37a (b s : List Int) (i : Int) : run P tab2.sum Tryd.f37 ns37 (c37 38 b s i) =
  Tree.ite (decide (i < (16 : Int))) (Tree.need ((0 : Int) ≤ i) (Tree.need (i < (↑(16 : Nat) : Int)) (Tree.need ((0 : Int) ≤ i) (Tree.need (i < (↑(16 : Nat) : Int)) (Tree.need ((0 : Int) ≤ i) (Tree.need (i < (↑(16 : Nat) : Int)) (Tree.need (inI64 (i + (1 : Int))) (Tree.at { tmps := sl (23 : Nat) [((2 : Nat), AV.s (SV.fn0 (38 : Nat))), ((3 : Nat), AV.ptr (0 : Nat) (0 : Nat)), ((4 : Nat), AV.ptr (1 : Nat) (0 : Nat)), ((6 : Nat), AV.ptr (2 : Nat) (0 : Nat)), ((8 : Nat), AV.s (SV.int IntKind.i64 (i + (1 : Int))))], H := [AObj.own [AV.ints IntKind.u64 (16 : Nat) (s.set i.toNat (bitop BinOp.andNot IntKind.u64 (s.getD i.toNat (0 : Int)) (b.getD i.toNat (0 : Int))))] (25 : Nat), AObj.own [AV.ints IntKind.u64 (16 : Nat) b] (25 : Nat), AObj.own [AV.ints IntKind.u64 (16 : Nat) (List.replicate (16 : Nat) (0 : Int))] (25 : Nat)], todo := hd Tryd.f37 (2 : Nat) })))))))) (Tree.ret [AObj.own [AV.ints IntKind.u64 (16 : Nat) s] (25 : Nat), AObj.own [AV.ints IntKind.u64 (16 : Nat) b] (25 : Nat), AObj.own [AV.ints IntKind.u64 (16 : Nat) s] (25 : Nat)] (AV.ints IntKind.u64 (16 : Nat) s)) := by kernel_rfl
theorem tree37b (a b : List Int) : run P tab2.sum Tryd.f37 ns37 (start Tryd.f37 [.ints .u64 16 a, .ints .u64 16 b, .s (.fn0 39)] []) =
  Tree.at { tmps := sl (23 : Nat) [((2 : Nat), AV.s (SV.fn0 (39 : Nat))), ((3 : Nat), AV.ptr (0 : Nat) (0 : Nat)), ((4 : Nat), AV.ptr (1 : Nat) (0 : Nat)), ((6 : Nat), AV.ptr (2 : Nat) (0 : Nat)), ((8 : Nat), AV.s (SV.int IntKind.i64 (0 : Int)))], H := [AObj.own [AV.ints IntKind.u64 (16 : Nat) a] (25 : Nat), AObj.own [AV.ints IntKind.u64 (16 : Nat) b] (25 : Nat), AObj.own [AV.ints IntKind.u64 (16 : Nat) (List.replicate (16 : Nat) (0 : Int))] (25 : Nat)], todo := hd Tryd.f37 (2 : Nat) } := by kernel_rfl
theorem loop37b (b s : List Int) (i : Int) : run P tab2.sum Tryd.f37 ns37 (c37 39 b s i) =
  Tree.ite (decide (i < (16 : Int))) (Tree.need ((0 : Int) ≤ i) (Tree.need (i < (↑(16 : Nat) : Int)) (Tree.need ((0 : Int) ≤ i) (Tree.need (i < (↑(16 : Nat) : Int)) (Tree.need ((0 : Int) ≤ i) (Tree.need (i < (↑(16 : Nat) : Int)) (Tree.need (inI64 (i + (1 : Int))) (Tree.at { tmps := sl (23 : Nat) [((2 : Nat), AV.s (SV.fn0 (39 : Nat))), ((3 : Nat), AV.ptr (0 : Nat) (0 : Nat)), ((4 : Nat), AV.ptr (1 : Nat) (0 : Nat)), ((6 : Nat), AV.ptr (2 : Nat) (0 : Nat)), ((8 : Nat), AV.s (SV.int IntKind.i64 (i + (1 : Int))))], H := [AObj.own [AV.ints IntKind.u64 (16 : Nat) (s.set i.toNat (bitop BinOp.and IntKind.u64 (s.getD i.toNat (0 : Int)) (b.getD i.toNat (0 : Int))))] (25 : Nat), AObj.own [AV.ints IntKind.u64 (16 : Nat) b] (25 : Nat), AObj.own [AV.ints IntKind.u64 (16 : Nat) (List.replicate (16 : Nat) (0 : Int))] (25 : Nat)], todo := hd Tryd.f37 (2 : Nat) })))))))) (Tree.ret [AObj.own [AV.ints IntKind.u64 (16 : Nat) s] (25 : Nat), AObj.own [AV.ints IntKind.u64 (16 : Nat) b] (25 : Nat), AObj.own [AV.ints IntKind.u64 (16 : Nat) s] (25 : Nat)] (AV.ints IntKind.u64 (16 : Nat) s)) := by kernel_rfl
theorem tree37c (a b : List Int) : run P tab2.sum Tryd.f37 ns37 (start Tryd.f37 [.ints .u64 16 a, .ints .u64 16 b, .s (.fn0 40)] []) =
  Tree.at { tmps := sl (23 : Nat) [((2 : Nat), AV.s (SV.fn0 (40 : Nat))), ((3 : Nat), AV.ptr (0 : Nat) (0 : Nat)), ((4 : Nat), AV.ptr (1 : Nat) (0 : Nat)), ((6 : Nat), AV.ptr (2 : Nat) (0 : Nat)), ((8 : Nat), AV.s (SV.int IntKind.i64 (0 : Int)))], H := [AObj.own [AV.ints IntKind.u64 (16 : Nat) a] (25 : Nat), AObj.own [AV.ints IntKind.u64 (16 : Nat) b] (25 : Nat), AObj.own [AV.ints IntKind.u64 (16 : Nat) (List.replicate (16 : Nat) (0 : Int))] (25 : Nat)], todo := hd Tryd.f37 (2 : Nat) } := by kernel_rfl
theorem loop37c (b s : List Int) (i : Int) : run P tab2.sum Tryd.f37 ns37 (c37 40 b s i) =
  Tree.ite (decide (i < (16 : Int))) (Tree.need ((0 : Int) ≤ i) (Tree.need (i < (↑(16 : Nat) : Int)) (Tree.need ((0 : Int) ≤ i) (Tree.need (i < (↑(16 : Nat) : Int)) (Tree.need ((0 : Int) ≤ i) (Tree.need (i < (↑(16 : Nat) : Int)) (Tree.need (inI64 (i + (1 : Int))) (Tree.at { tmps := sl (23 : Nat) [((2 : Nat), AV.s (SV.fn0 (40 : Nat))), ((3 : Nat), AV.ptr (0 : Nat) (0 : Nat)), ((4 : Nat), AV.ptr (1 : Nat) (0 : Nat)), ((6 : Nat), AV.ptr (2 : Nat) (0 : Nat)), ((8 : Nat), AV.s (SV.int IntKind.i64 (i + (1 : Int))))], H := [AObj.own [AV.ints IntKind.u64 (16 : Nat) (s.set i.toNat (bitop BinOp.or IntKind.u64 (s.getD i.toNat (0 : Int)) (b.getD i.toNat (0 : Int))))] (25 : Nat), AObj.own [AV.ints IntKind.u64 (16 : Nat) b] (25 : Nat), AObj.own [AV.ints IntKind.u64 (16 : Nat) (List.replicate (16 : Nat) (0 : Int))] (25 : Nat)], todo := hd Tryd.f37 (2 : Nat) })))))))) (Tree.ret [AObj.own [AV.ints IntKind.u64 (16 : Nat) s] (25 : Nat), AObj.own [AV.ints IntKind.u64 (16 : Nat) b] (25 : Nat), AObj.own [AV.ints IntKind.u64 (16 : Nat) s] (25 : Nat)] (AV.ints IntKind.u64 (16 : Nat) s)) := by kernel_rfl
theorem tab2_ok {Z : Glob} : tab2.Ok P Z := Tab.Ok.cons andNot_ok.sum (Tab.Ok.cons and_ok.sum (Tab.Ok.cons or_ok.sum Tab.Ok.nil))

def zipF (op : BinOp) (a b : List Int) : List Int := List.zipWith (bitop op .u64) a b
def opOf (f : FuncId) : BinOp := if f = 38 then .andNot else if f = 39 then .and else .or

theorem ext_getD {a b : List Int} {n : Nat} (ha : a.length = n) (hb : b.length = n) (h : ∀ j, j < n → a.getD j 0 = b.getD j 0) : a = b := by
  refine List.ext_getElem (by omega) fun j h1 h2 => ?_
  have := h j (by omega)
  simpa [List.getD, h1, h2] using this

theorem set_getD (a : List Int) (i j : Nat) (x : Int) : (a.set i x).getD j 0 = if j = i ∧ i < a.length then x else a.getD j 0 := by
  simp only [List.getD, List.getElem?_set]
  by_cases h : i = j
  · subst h
    by_cases h2 : i < a.length
    · simp [h2]
    · simp [h2]
  · simp [h, Ne.symm h]

def I37 (op : BinOp) (a b s : List Int) (i : Int) : Prop := 0 ≤ i ∧ i ≤ 16 ∧ s.length = 16 ∧ ∀ j, j < 16 → s.getD j 0 = if (j : Int) < i then bitop op .u64 (a.getD j 0) (b.getD j 0) else a.getD j 0

theorem I37_step {op : BinOp} {a b s : List Int} {i : Int} (h : I37 op a b s i) (hi : i < 16) : I37 op a b (s.set i.toNat (bitop op .u64 (s.getD i.toNat 0) (b.getD i.toNat 0))) (i + 1) := by
  obtain ⟨h1, h2, h3, h4⟩ := h
  refine ⟨by omega, by omega, by simpa using h3, fun j hj => ?_⟩
  rw [set_getD]
  by_cases hji : j = i.toNat
  · subst hji
    rw [if_pos ⟨rfl, by omega⟩, if_pos (by omega), h4 _ hj, if_neg (by omega)]
  · rw [if_neg (fun h => hji h.1), h4 j hj]
    by_cases h5 : (j : Int) < i
    · rw [if_pos h5, if_pos (by omega)]
    · rw [if_neg h5, if_neg (by omega)]

theorem I37_end {op : BinOp} {a b s : List Int} {i : Int} (ha : a.length = 16) (hb : b.length = 16) (h : I37 op a b s i) (hi : ¬ i < 16) : s = zipF op a b := by
  obtain ⟨h1, h2, h3, h4⟩ := h
  refine ext_getD h3 (by simp [zipF, ha, hb]) fun j hj => ?_
  rw [h4 j hj, if_pos (by omega)]
  simp [zipF, List.getD, List.getElem?_zipWith, ha, hb, hj]

theorem both_ok {Z : Glob} : FnOk P Z 37 [tSet, tSet, .b .fn] [tSet] (fun (_, _, f, ()) => [f = 38 ∨ f = 39 ∨ f = 40]) (fun (a, b, f, ()) => (zipF (opOf f) a b, ())) := by
  refine fnOk_of_safe Tryd.func37 (by kernel_rfl) (by kernel_rfl) ?_
  rintro ⟨(a : List Int), (b : List Int), (f : FuncId), ⟨⟩⟩ ⟨(ha : a.length = 16), (hb : b.length = 16), _⟩ ⟨(hf : f = 38 ∨ f = 39 ∨ f = 40), _⟩ X hX hz
  have run (c : Cfg) (t : Tree) (ht : run P tab2.sum Tryd.f37 ns37 c = t) {K : List AObj → AV → Prop} (h : t.Holds K (Safe P 37 X K)) : Safe P 37 X K c :=
    safe_of_run (Tab.sOk tab2_ok) hz mixed Tryd.func37 (fun x h id _ => hX id) ht h
  have loop (op : BinOp) (f : FuncId) (hl : ∀ s i, Sx.run P tab2.sum Tryd.f37 ns37 (c37 f b s i) = Tree.ite (decide (i < (16 : Int))) (Tree.need ((0 : Int) ≤ i) (Tree.need (i < (↑(16 : Nat) : Int)) (Tree.need ((0 : Int) ≤ i) (Tree.need (i < (↑(16 : Nat) : Int)) (Tree.need ((0 : Int) ≤ i) (Tree.need (i < (↑(16 : Nat) : Int)) (Tree.need (inI64 (i + (1 : Int))) (Tree.at (c37 f b (s.set i.toNat (bitop op .u64 (s.getD i.toNat 0) (b.getD i.toNat 0))) (i + 1)))))))))) (Tree.ret [AObj.own [AV.ints IntKind.u64 (16 : Nat) s] (25 : Nat), AObj.own [AV.ints IntKind.u64 (16 : Nat) b] (25 : Nat), AObj.own [AV.ints IntKind.u64 (16 : Nat) s] (25 : Nat)] (AV.ints IntKind.u64 (16 : Nat) s))) :
      Safe P 37 X (Ends [tSet] (zipF op a b, ())) (c37 f b a 0) := by
    refine safe_loop (fun (x : List Int × Int) => c37 f b x.1 x.2) (fun x => I37 op a b x.1 x.2) (fun x => (16 - x.2).toNat) ?_ (a, 0) ⟨by omega, by omega, ha, fun j hj => by rw [if_neg (by simp only []; omega)]⟩
    rintro ⟨s, i⟩ hI ih
    have h0 : 0 ≤ i := hI.1
    refine run _ _ (hl s i) ⟨fun h => ?_, fun h => ?_⟩
    · have hi : i < 16 := by simpa using h
      exact ⟨h0, hi, h0, hi, h0, hi, ⟨by omega, by omega⟩, ih (_, i + 1) (I37_step hI hi) (by simp only []; omega)⟩
    · have hi : ¬ i < 16 := by simpa using h
      exact ends_eq (s, ()) (by rw [← I37_end ha hb hI hi]) (by kernel_rfl)
  rcases hf with rfl | rfl | rfl
  · exact run _ _ (tree37a a b) (loop .andNot 38 (fun s i => loop37a b s i))
  · exact run _ _ (tree37b a b) (loop .and 39 (fun s i => loop37b b s i))
  · exact run _ _ (tree37c a b) (loop .or 40 (fun s i => loop37c b s i))
end Bx
