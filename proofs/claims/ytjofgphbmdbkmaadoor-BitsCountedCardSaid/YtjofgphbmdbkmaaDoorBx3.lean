import Derived.Test.YtjofgphbmdbkmaaDoorBx2
namespace Bx
open Go Go.Sx Go.Proofs
abbrev s37 := sumOf [tSet, tSet, .b .fn] [tSet] (fun (_, _, f, ()) => [f = 38 ∨ f = 39 ∨ f = 40]) (fun (a, b, f, ()) => (zipF (opOf f) a b, ()))
def tab3 : Tab := [(37, s37)]
theorem tree21 (a b : List Int) : run P tab3.sum Tryd.f21 [] (start Tryd.f21 [.ints .u64 16 a, .ints .u64 16 b] []) =
  Tree.need ((38 : Nat) = (38 : (Ty.b B.fn).V) ∨ (38 : Nat) = (39 : (Ty.b B.fn).V) ∨ (38 : Nat) = (40 : (Ty.b B.fn).V)) (Tree.ret [AObj.own [AV.ints IntKind.u64 (16 : Nat) a] (25 : Nat), AObj.own [AV.ints IntKind.u64 (16 : Nat) b] (25 : Nat), AObj.own [AV.ints IntKind.u64 (16 : Nat) (zipF (opOf (38 : Nat)) a b)] (25 : Nat)] (AV.ints IntKind.u64 (16 : Nat) (zipF (opOf (38 : Nat)) a b))) := by kernel_rfl
theorem tree22 (a b : List Int) : run P tab3.sum Tryd.f22 [] (start Tryd.f22 [.ints .u64 16 a, .ints .u64 16 b] []) =
  Tree.need ((39 : Nat) = (38 : (Ty.b B.fn).V) ∨ (39 : Nat) = (39 : (Ty.b B.fn).V) ∨ (39 : Nat) = (40 : (Ty.b B.fn).V)) (Tree.ret [AObj.own [AV.ints IntKind.u64 (16 : Nat) a] (25 : Nat), AObj.own [AV.ints IntKind.u64 (16 : Nat) b] (25 : Nat), AObj.own [AV.ints IntKind.u64 (16 : Nat) (zipF (opOf (39 : Nat)) a b)] (25 : Nat)] (AV.ints IntKind.u64 (16 : Nat) (zipF (opOf (39 : Nat)) a b))) := by kernel_rfl
theorem tree23 (a b : List Int) : run P tab3.sum Tryd.f23 [] (start Tryd.f23 [.ints .u64 16 a, .ints .u64 16 b] []) =
  Tree.need ((40 : Nat) = (38 : (Ty.b B.fn).V) ∨ (40 : Nat) = (39 : (Ty.b B.fn).V) ∨ (40 : Nat) = (40 : (Ty.b B.fn).V)) (Tree.ret [AObj.own [AV.ints IntKind.u64 (16 : Nat) a] (25 : Nat), AObj.own [AV.ints IntKind.u64 (16 : Nat) b] (25 : Nat), AObj.own [AV.ints IntKind.u64 (16 : Nat) (zipF (opOf (40 : Nat)) a b)] (25 : Nat)] (AV.ints IntKind.u64 (16 : Nat) (zipF (opOf (40 : Nat)) a b))) := by kernel_rfl

abbrev s16 := sumOf [tSet, tInt] [tSet] (fun _ => []) (fun (ws, n, ()) => (withF ws n, ()))
def tab4 : Tab := [(16, s16)]
def ns11 : List (Nat × Norm) := [(3, ⟨[], [2, 3, 6, 7, 8], 0, []⟩)]
noncomputable def c11 (l s : List Int) (i : Int) : Cfg := ⟨sl 17 [(2, .ptr 0 0), (3, .ptr 1 0), (6, .s (.ro (.ints .i64 l))), (7, .s (.int .i64 l.length)), (8, .s (.int .i64 i))], [.own [.ints .u64 16 (List.replicate 16 0)] 25, .own [.ints .u64 16 s] 25], hd Tryd.f11 3⟩
theorem tree11 (l : List Int) : run P tab4.sum Tryd.f11 ns11 (start Tryd.f11 [.s (.ro (.ints .i64 l))] []) =
  Tree.at { tmps := sl (17 : Nat) [((2 : Nat), AV.ptr (0 : Nat) (0 : Nat)), ((3 : Nat), AV.ptr (1 : Nat) (0 : Nat)), ((6 : Nat), AV.s (SV.ro (Con.ints IntKind.i64 l))), ((7 : Nat), AV.s (SV.int IntKind.i64 (↑l.length : Int))), ((8 : Nat), AV.s (SV.int IntKind.i64 (0 : Int)))], H := [AObj.own [AV.ints IntKind.u64 (16 : Nat) (List.replicate (16 : Nat) (0 : Int))] (25 : Nat), AObj.own [AV.ints IntKind.u64 (16 : Nat) (List.replicate (16 : Nat) (0 : Int))] (25 : Nat)], todo := hd Tryd.f11 (3 : Nat) } := by kernel_rfl
theorem loop11 (l s : List Int) (i : Int) : run P tab4.sum Tryd.f11 ns11 (c11 l s i) =
  Tree.ite (decide (i < (↑l.length : Int))) (Tree.need ((0 : Int) ≤ i) (Tree.need (i < (↑l.length : Int)) (Tree.need (inI64 (i + (1 : Int))) (Tree.at { tmps := sl (17 : Nat) [((2 : Nat), AV.ptr (0 : Nat) (0 : Nat)), ((3 : Nat), AV.ptr (1 : Nat) (0 : Nat)), ((6 : Nat), AV.s (SV.ro (Con.ints IntKind.i64 l))), ((7 : Nat), AV.s (SV.int IntKind.i64 (↑l.length : Int))), ((8 : Nat), AV.s (SV.int IntKind.i64 (i + (1 : Int))))], H := [AObj.own [AV.ints IntKind.u64 (16 : Nat) (List.replicate (16 : Nat) (0 : Int))] (25 : Nat), AObj.own [AV.ints IntKind.u64 (16 : Nat) (withF s (l.getD i.toNat (0 : Int)))] (25 : Nat)], todo := hd Tryd.f11 (3 : Nat) })))) (Tree.ret [AObj.own [AV.ints IntKind.u64 (16 : Nat) s] (25 : Nat), AObj.own [AV.ints IntKind.u64 (16 : Nat) s] (25 : Nat)] (AV.ints IntKind.u64 (16 : Nat) s)) := by kernel_rfl

def ns13 : List (Nat × Norm) := [(3, ⟨[], [0, 2, 3, 6], 0, []⟩)]
noncomputable def c13 (n : Int) (s : List Int) (i : Int) : Cfg := ⟨sl 24 [(0, .s (.int .i64 n)), (2, .ptr 0 0), (3, .ptr 1 0), (6, .s (.int .i64 i))], [.own [.ints .u64 16 (List.replicate 16 0)] 25, .own [.ints .u64 16 s] 25], hd Tryd.f13 3⟩
theorem tree13 (n : Int) : run P tab0.sum Tryd.f13 ns13 (start Tryd.f13 [.s (.int .i64 n)] []) =
  Tree.at { tmps := sl (24 : Nat) [((0 : Nat), AV.s (SV.int IntKind.i64 n)), ((2 : Nat), AV.ptr (0 : Nat) (0 : Nat)), ((3 : Nat), AV.ptr (1 : Nat) (0 : Nat)), ((6 : Nat), AV.s (SV.int IntKind.i64 (0 : Int)))], H := [AObj.own [AV.ints IntKind.u64 (16 : Nat) (List.replicate (16 : Nat) (0 : Int))] (25 : Nat), AObj.own [AV.ints IntKind.u64 (16 : Nat) (List.replicate (16 : Nat) (0 : Int))] (25 : Nat)], todo := hd Tryd.f13 (3 : Nat) } := by kernel_rfl
theorem loop13 (n : Int) (s : List Int) (i : Int) : run P tab0.sum Tryd.f13 ns13 (c13 n s i) =
  Tree.ite (decide (i < (16 : Int))) (Tree.need (inI64 (i * (64 : Int))) (Tree.need (inI64 (imin (imax n (0 : Int)) (1024 : Int) - i * (64 : Int))) (Tree.need ((0 : Int) ≤ imin (imax (imin (imax n (0 : Int)) (1024 : Int) - i * (64 : Int)) (0 : Int)) (64 : Int)) (Tree.need ((0 : Int) ≤ i) (Tree.need (i < (↑(16 : Nat) : Int)) (Tree.need (inI64 (i + (1 : Int))) (Tree.at { tmps := sl (24 : Nat) [((0 : Nat), AV.s (SV.int IntKind.i64 n)), ((2 : Nat), AV.ptr (0 : Nat) (0 : Nat)), ((3 : Nat), AV.ptr (1 : Nat) (0 : Nat)), ((6 : Nat), AV.s (SV.int IntKind.i64 (i + (1 : Int))))], H := [AObj.own [AV.ints IntKind.u64 (16 : Nat) (List.replicate (16 : Nat) (0 : Int))] (25 : Nat), AObj.own [AV.ints IntKind.u64 (16 : Nat) (s.set i.toNat (IntKind.u64.wrap (IntKind.u64.wrap ((1 : Int) * (2 : Int) ^ min (imin (imax (imin (imax n (0 : Int)) (1024 : Int) - i * (64 : Int)) (0 : Int)) (64 : Int)).toNat IntKind.u64.bits) - (1 : Int))))] (25 : Nat)], todo := hd Tryd.f13 (3 : Nat) }))))))) (Tree.ret [AObj.own [AV.ints IntKind.u64 (16 : Nat) s] (25 : Nat), AObj.own [AV.ints IntKind.u64 (16 : Nat) s] (25 : Nat)] (AV.ints IntKind.u64 (16 : Nat) s)) := by kernel_rfl

def ns18 : List (Nat × Norm) := [(2, ⟨[], [0, 3], 0, []⟩)]
noncomputable def c18 (l : List (List Int)) (i : Int) : Cfg := ⟨sl 16 [(0, .s (.ro (rowsCon .i64 l))), (3, .s (.int .i64 i))], [], hd Tryd.f18 2⟩
theorem tree18 (l : List (List Int)) : run P tab0.sum Tryd.f18 ns18 (start Tryd.f18 [.s (.ro (rowsCon .i64 l))] []) =
  Tree.at { tmps := sl (16 : Nat) [((0 : Nat), AV.s (SV.ro (Con.recs (1 : Nat) l.length fun (i x : Nat) => SV.ro (Con.ints IntKind.i64 (l.getD i []))))), ((3 : Nat), AV.s (SV.int IntKind.i64 (0 : Int)))], H := [], todo := hd Tryd.f18 (2 : Nat) } := by kernel_rfl
theorem loop18 (l : List (List Int)) (i : Int) : run P tab0.sum Tryd.f18 ns18 (c18 l i) =
  Tree.ite (decide (i < (↑l.length : Int))) (Tree.need ((0 : Int) ≤ i) (Tree.need (i < (↑l.length : Int)) (Tree.ite (decide ((↑(l.getD i.toNat []).length : Int) > (200 : Int))) (Tree.ret [] (AV.s (SV.blit true))) (Tree.need (inI64 (i + (1 : Int))) (Tree.at { tmps := sl (16 : Nat) [((0 : Nat), AV.s (SV.ro (Con.recs (1 : Nat) l.length fun (i x : Nat) => SV.ro (Con.ints IntKind.i64 (l.getD i []))))), ((3 : Nat), AV.s (SV.int IntKind.i64 (i + (1 : Int))))], H := [], todo := hd Tryd.f18 (2 : Nat) }))))) (Tree.ret [] (AV.s (SV.blit false))) := by kernel_rfl

def ns19 : List (Nat × Norm) := [(4, ⟨[], [0, 1, 5], 0, []⟩)]
noncomputable def c19 (a b : List Int) (i : Int) : Cfg := ⟨sl 26 [(0, .s (.ro (.ints .i64 a))), (1, .s (.ro (.ints .i64 b))), (5, .s (.int .i64 i))], [], hd Tryd.f19 4⟩
theorem tree19 (a b : List Int) : run P tab0.sum Tryd.f19 ns19 (start Tryd.f19 [.s (.ro (.ints .i64 a)), .s (.ro (.ints .i64 b))] []) =
  Tree.ite ((↑a.length : Int) != (↑b.length : Int)) (Tree.ret [] (AV.s (SV.blit false))) (Tree.at { tmps := sl (26 : Nat) [((0 : Nat), AV.s (SV.ro (Con.ints IntKind.i64 a))), ((1 : Nat), AV.s (SV.ro (Con.ints IntKind.i64 b))), ((5 : Nat), AV.s (SV.int IntKind.i64 (0 : Int)))], H := [], todo := hd Tryd.f19 (4 : Nat) }) := by kernel_rfl
theorem loop19 (a b : List Int) (i : Int) : run P tab0.sum Tryd.f19 ns19 (c19 a b i) =
  Tree.ite (decide (i < (↑a.length : Int))) (Tree.need ((0 : Int) ≤ i) (Tree.need (i < (↑a.length : Int)) (Tree.need ((0 : Int) ≤ i) (Tree.need (i < (↑b.length : Int)) (Tree.ite (a.getD i.toNat (0 : Int) != b.getD i.toNat (0 : Int)) (Tree.ret [] (AV.s (SV.blit false))) (Tree.need (inI64 (i + (1 : Int))) (Tree.at { tmps := sl (26 : Nat) [((0 : Nat), AV.s (SV.ro (Con.ints IntKind.i64 a))), ((1 : Nat), AV.s (SV.ro (Con.ints IntKind.i64 b))), ((5 : Nat), AV.s (SV.int IntKind.i64 (i + (1 : Int))))], H := [], todo := hd Tryd.f19 (4 : Nat) }))))))) (Tree.ret [] (AV.s (SV.blit true))) := by kernel_rfl
theorem less_ok {Z : Glob} : FnOk P Z 21 [tSet, tSet] [tSet] (fun _ => []) (fun (a, b, ()) => (zipF .andNot a b, ())) := by
  refine fnOk_of_safe Tryd.func21 (by kernel_rfl) (by kernel_rfl) ?_
  rintro ⟨(a : List Int), (b : List Int), ⟨⟩⟩ _ _ X hX hz
  exact go hz hX (Tab.Ok.cons both_ok.sum Tab.Ok.nil) Tryd.func21 (tree21 a b) ⟨.inl rfl, ends_eq _ rfl (by kernel_rfl)⟩
theorem and2_ok {Z : Glob} : FnOk P Z 22 [tSet, tSet] [tSet] (fun _ => []) (fun (a, b, ()) => (zipF .and a b, ())) := by
  refine fnOk_of_safe Tryd.func22 (by kernel_rfl) (by kernel_rfl) ?_
  rintro ⟨(a : List Int), (b : List Int), ⟨⟩⟩ _ _ X hX hz
  exact go hz hX (Tab.Ok.cons both_ok.sum Tab.Ok.nil) Tryd.func22 (tree22 a b) ⟨.inr (.inl rfl), ends_eq _ rfl (by kernel_rfl)⟩
theorem or2_ok {Z : Glob} : FnOk P Z 23 [tSet, tSet] [tSet] (fun _ => []) (fun (a, b, ()) => (zipF .or a b, ())) := by
  refine fnOk_of_safe Tryd.func23 (by kernel_rfl) (by kernel_rfl) ?_
  rintro ⟨(a : List Int), (b : List Int), ⟨⟩⟩ _ _ X hX hz
  exact go hz hX (Tab.Ok.cons both_ok.sum Tab.Ok.nil) Tryd.func23 (tree23 a b) ⟨.inr (.inr rfl), ends_eq _ rfl (by kernel_rfl)⟩

def zeros : List Int := List.replicate 16 0
def ofF (l : List Int) : List Int := l.foldl withF zeros

theorem maxLen_eq : maxLen = 9223372036854775807 := by decide

theorem getD_take {α : Type} (l : List α) (i : Nat) (d : α) (h : i < l.length) : l.take (i + 1) = l.take i ++ [l.getD i d] := by
  rw [List.take_add_one]
  simp [List.getD, h]

theorem of_ok {Z : Glob} : FnOk P Z 11 [tInts] [tSet] (fun _ => []) (fun (l, ()) => (ofF l, ())) := by
  refine fnOk_of_safe Tryd.func11 (by kernel_rfl) (by kernel_rfl) ?_
  rintro ⟨(l : List Int), ⟨⟩⟩ ⟨(hl : l.length ≤ maxLen), _⟩ _ X hX hz
  rw [maxLen_eq] at hl
  have hT : tab4.Ok P Z := Tab.Ok.cons with_ok.sum Tab.Ok.nil
  refine go hz hX hT Tryd.func11 (tree11 l) ?_
  refine safe_loop (fun (x : List Int × Int) => c11 l x.1 x.2) (fun x => 0 ≤ x.2 ∧ x.2 ≤ l.length ∧ x.1 = (l.take x.2.toNat).foldl withF zeros) (fun x => (l.length - x.2).toNat) ?_ (zeros, 0) ⟨by simp only []; omega, by simp only []; omega, rfl⟩
  rintro ⟨s, i⟩ ⟨(h0 : 0 ≤ i), (h1 : i ≤ l.length), (h2 : s = _)⟩ ih
  simp only [] at h2
  refine go hz hX hT Tryd.func11 (loop11 l s i) ⟨fun h => ?_, fun h => ?_⟩
  · have hi : i < (l.length : Int) := of_decide_eq_true h
    refine ⟨h0, hi, ⟨by omega, by omega⟩, ih (withF s (l.getD i.toNat 0), i + 1) ⟨by simp only []; omega, by simp only []; omega, ?_⟩ (by simp only []; omega)⟩
    simp only []
    rw [show (i + 1).toNat = i.toNat + 1 from by omega, getD_take l i.toNat 0 (by omega), List.foldl_append, h2]
    rfl
  · have hi : ¬ i < (l.length : Int) := of_decide_eq_false h
    refine ends_eq (s, ()) ?_ (by kernel_rfl)
    rw [h2, List.take_of_length_le (by omega)]
    rfl

def lftF (n i : Int) : Int := imin (imax (imin (imax n 0) 1024 - i * 64) 0) 64
def belowW (n i : Int) : Int := IntKind.u64.wrap (IntKind.u64.wrap (1 * 2 ^ min (lftF n i).toNat IntKind.u64.bits) - 1)
def belowF (n : Int) : List Int := (List.range 16).map fun (i : Nat) => belowW n i

theorem lftF_range (n i : Int) : 0 ≤ lftF n i ∧ lftF n i ≤ 64 := by
  unfold lftF
  generalize imin (imax n 0) 1024 - i * 64 = x
  unfold imin imax
  split <;> split at * <;> omega

theorem cap_range (n : Int) : 0 ≤ imin (imax n 0) 1024 ∧ imin (imax n 0) 1024 ≤ 1024 := by
  unfold imin imax
  split <;> split at * <;> omega

theorem below_ok {Z : Glob} : FnOk P Z 13 [tInt] [tSet] (fun _ => []) (fun (n, ()) => (belowF n, ())) := by
  refine fnOk_of_safe Tryd.func13 (by kernel_rfl) (by kernel_rfl) ?_
  rintro ⟨(n : Int), ⟨⟩⟩ _ _ X hX hz
  refine go hz hX Tab.Ok.nil Tryd.func13 (tree13 n) ?_
  refine safe_loop (fun (x : List Int × Int) => c13 n x.1 x.2) (fun x => 0 ≤ x.2 ∧ x.2 ≤ 16 ∧ x.1.length = 16 ∧ ∀ j : Nat, j < 16 → (j : Int) < x.2 → x.1.getD j 0 = belowW n j) (fun x => (16 - x.2).toNat) ?_ (zeros, 0) ⟨by simp only []; omega, by simp only []; omega, rfl, fun j _ h => by simp only [] at h; omega⟩
  rintro ⟨s, i⟩ ⟨(h0 : 0 ≤ i), (h1 : i ≤ 16), (h2 : s.length = 16), h3⟩ ih
  simp only [] at h3
  have hr := lftF_range n i
  have hc := cap_range n
  refine go hz hX Tab.Ok.nil Tryd.func13 (loop13 n s i) ⟨fun h => ?_, fun h => ?_⟩
  · have hi : i < (16 : Int) := of_decide_eq_true h
    refine ⟨⟨by omega, by omega⟩, ⟨by omega, by omega⟩, hr.1, h0, hi, ⟨by omega, by omega⟩, ih (s.set i.toNat (belowW n i), i + 1) ⟨by simp only []; omega, by simp only []; omega, by simpa using h2, fun j hj hji => ?_⟩ (by simp only []; omega)⟩
    simp only [] at hji ⊢
    rw [set_getD]
    by_cases hj2 : j = i.toNat
    · rw [if_pos ⟨hj2, by omega⟩, show (j : Int) = i from by omega]
    · rw [if_neg (fun h => hj2 h.1)]
      exact h3 j hj (by omega)
  · have hi : ¬ i < (16 : Int) := of_decide_eq_false h
    refine ends_eq (s, ()) ?_ (by kernel_rfl)
    rw [ext_getD (a := s) (b := belowF n) h2 (by simp [belowF]) (fun j hj => ?_)]
    rw [h3 j hj (by omega)]
    simp [belowF, List.getD, hj]

def largeF (l : List (List Int)) : Bool := l.any fun x => decide (x.length > 200)

theorem large_ok {Z : Glob} : FnOk P Z 18 [.b (.row (.rows .i64) 27)] [tBool] (fun _ => []) (fun (l, ()) => (largeF l, ())) := by
  refine fnOk_of_safe Tryd.func18 (by kernel_rfl) (by kernel_rfl) ?_
  rintro ⟨(l : List (List Int)), ⟨⟩⟩ ⟨(hl : l.length ≤ maxLen), _⟩ _ X hX hz
  rw [maxLen_eq] at hl
  refine go hz hX Tab.Ok.nil Tryd.func18 (tree18 l) ?_
  refine safe_loop (fun (i : Int) => c18 l i) (fun i => 0 ≤ i ∧ i ≤ l.length ∧ ∀ x ∈ l.take i.toNat, x.length ≤ 200) (fun i => (l.length - i).toNat) ?_ 0 ⟨by omega, by omega, fun x hx => by simp at hx⟩
  rintro i ⟨(h0 : 0 ≤ i), (h1 : i ≤ l.length), h2⟩ ih
  refine go hz hX Tab.Ok.nil Tryd.func18 (loop18 l i) ⟨fun h => ?_, fun h => ?_⟩
  · have hi : i < (l.length : Int) := of_decide_eq_true h
    refine ⟨h0, hi, fun h3 => ?_, fun h3 => ⟨⟨by omega, by omega⟩, ih (i + 1) ⟨by omega, by omega, ?_⟩ (by omega)⟩⟩
    · refine ends_eq (true, ()) ?_ (by kernel_rfl)
      have h3 : (l.getD i.toNat []).length > 200 := by simp [Con.n] at h3; simp only [List.getD_eq_getElem?_getD]; omega
      simp only [Prod.mk.injEq, and_true]
      refine List.any_eq_true.2 ⟨l.getD i.toNat [], ?_, decide_eq_true h3⟩
      rw [List.getD, List.getElem?_eq_getElem (by omega)]
      exact List.getElem_mem (by omega)
    · have h3 : (l.getD i.toNat []).length ≤ 200 := by simp [Con.n] at h3; simp only [List.getD_eq_getElem?_getD]; omega
      rw [show (i + 1).toNat = i.toNat + 1 from by omega, getD_take l i.toNat [] (by omega)]
      intro x hx
      rcases List.mem_append.1 hx with hx | hx
      · exact h2 x hx
      · rw [List.mem_singleton.1 hx]; exact h3
  · have hi : ¬ i < (l.length : Int) := of_decide_eq_false h
    refine ends_eq (false, ()) ?_ (by kernel_rfl)
    simp only [Prod.mk.injEq, and_true]
    refine List.any_eq_false.2 fun x hx => ?_
    have := h2 x (by rw [List.take_of_length_le (by omega)]; exact hx)
    simp; omega

theorem ints_ok {Z : Glob} : FnOk P Z 19 [tInts, tInts] [tBool] (fun _ => []) (fun (a, b, ()) => (decide ((a : List Int) = b), ())) := by
  refine fnOk_of_safe Tryd.func19 (by kernel_rfl) (by kernel_rfl) ?_
  rintro ⟨(a : List Int), (b : List Int), ⟨⟩⟩ ⟨(hl : a.length ≤ maxLen), _⟩ _ X hX hz
  rw [maxLen_eq] at hl
  refine go hz hX Tab.Ok.nil Tryd.func19 (tree19 a b) ⟨fun h => ?_, fun h => ?_⟩
  · refine ends_eq (false, ()) ?_ (by kernel_rfl)
    have : a ≠ b := by rintro rfl; simp at h
    simp [this]
  · have hab : a.length = b.length := by simp [Con.n] at h; omega
    refine safe_loop (fun (i : Int) => c19 a b i) (fun i => 0 ≤ i ∧ i ≤ a.length ∧ a.take i.toNat = b.take i.toNat) (fun i => (a.length - i).toNat) ?_ 0 ⟨by omega, by omega, rfl⟩
    rintro i ⟨(h0 : 0 ≤ i), (h1 : i ≤ a.length), h2⟩ ih
    refine go hz hX Tab.Ok.nil Tryd.func19 (loop19 a b i) ⟨fun h => ?_, fun h => ?_⟩
    · have hi : i < (a.length : Int) := of_decide_eq_true h
      refine ⟨h0, hi, h0, by omega, fun h3 => ?_, fun h3 => ⟨⟨by omega, by omega⟩, ih (i + 1) ⟨by omega, by omega, ?_⟩ (by omega)⟩⟩
      · refine ends_eq (false, ()) ?_ (by kernel_rfl)
        have : a ≠ b := by rintro rfl; simp at h3
        simp [this]
      · rw [show (i + 1).toNat = i.toNat + 1 from by omega, getD_take a i.toNat 0 (by omega), getD_take b i.toNat 0 (by omega), h2]
        simp only [bne_eq_false_iff_eq] at h3
        rw [h3]
    · have hi : ¬ i < (a.length : Int) := of_decide_eq_false h
      refine ends_eq (true, ()) ?_ (by kernel_rfl)
      rw [List.take_of_length_le (by omega), List.take_of_length_le (by omega)] at h2
      simp [h2]
end Bx
