import Derived.Test.YtjmdfmafnenjnaaL1
namespace Lf
open Go Go.Sx Go.Proofs
theorem take_snoc {α : Type} {l : List α} {k : Nat} {d : α} (h : k < l.length) : l.take k ++ [l.getD k d] = l.take (k + 1) := by
  rw [getD_lt h, List.take_succ_eq_append_getElem h]
theorem en_eta (x : En) : (x.1, x.2.1, ()) = x := rfl
theorem br_eta (x : Br) : (x.1, x.2.1, ()) = x := rfl

/-! ### large -/
def bigE (es : List En) (i : Nat) : Bool := decide (((es.getD i dE).1.size : Int) > 300) || decide (((es.getD i dE).2.1.size : Int) > 300)
def bigB (bs : List Br) (i : Nat) : Bool := decide (((bs.getD i dB).1.size : Int) > 300)
def largeN (es : List En) (bs : List Br) : Bool := (decide ((es.length : Int) > 200) || decide ((bs.length : Int) > 200)) || (List.range es.length).any (bigE es) || (List.range bs.length).any (bigB bs)

def nsLarge : List (Nat × Norm) := [(4, ⟨[], [1, 3], 0, []⟩), (9, ⟨[], [1, 4], 0, []⟩)]
noncomputable def cLarge1 (l : Bool) (es : List En) (bs : List Br) (i : Int) : Cfg := ⟨sl 55 [(1, .ptr 0 0), (3, .s (.int .i64 i))], [obN l es bs 25], hd Try.f22 4⟩
noncomputable def cLarge2 (l : Bool) (es : List En) (bs : List Br) (i : Int) : Cfg := ⟨sl 55 [(1, .ptr 0 0), (4, .s (.int .i64 i))], [obN l es bs 25], hd Try.f22 9⟩
theorem treeLarge (l : Bool) (es : List En) (bs : List Br) : run P tab0.sum Try.f22 nsLarge (start Try.f22 [avN l es bs] []) =
  Tree.ite (decide ((↑es.length : Int) > (200 : Int))) (Tree.ret [AObj.own [AV.s (SV.bool l), AV.s (SV.ro (Con.typ [CK.str, CK.str] es)), AV.s (SV.ro (Con.typ [CK.str, CK.int IntKind.i64] bs))] (25 : Nat)] (AV.s (SV.blit true))) (Tree.ite (decide ((↑bs.length : Int) > (200 : Int))) (Tree.ret [AObj.own [AV.s (SV.bool l), AV.s (SV.ro (Con.typ [CK.str, CK.str] es)), AV.s (SV.ro (Con.typ [CK.str, CK.int IntKind.i64] bs))] (25 : Nat)] (AV.s (SV.blit true))) (Tree.at (Cfg.mk (sl (55 : Nat) [((1 : Nat), AV.ptr (0 : Nat) (0 : Nat)), ((3 : Nat), AV.s (SV.int IntKind.i64 (0 : Int)))]) [AObj.own [AV.s (SV.bool l), AV.s (SV.ro (Con.typ [CK.str, CK.str] es)), AV.s (SV.ro (Con.typ [CK.str, CK.int IntKind.i64] bs))] (25 : Nat)] (hd Try.f22 (4 : Nat))))) := by kernel_rfl
theorem loopLarge1 (l : Bool) (es : List En) (bs : List Br) (i : Int) : run P tab0.sum Try.f22 nsLarge (cLarge1 l es bs i) =
  Tree.ite (decide (i < (↑es.length : Int))) (Tree.need ((0 : Int) ≤ i) (Tree.need (i < (↑es.length : Int)) (Tree.ite (decide ((↑(ByteArray.size (es.getD i.toNat (CL.d [CK.str, CK.str])).fst) : Int) > (300 : Int))) (Tree.ret [AObj.own [AV.s (SV.bool l), AV.s (SV.ro (Con.typ [CK.str, CK.str] es)), AV.s (SV.ro (Con.typ [CK.str, CK.int IntKind.i64] bs))] (25 : Nat)] (AV.s (SV.blit true))) (Tree.need ((0 : Int) ≤ i) (Tree.need (i < (↑es.length : Int)) (Tree.ite (decide ((↑(ByteArray.size (es.getD i.toNat (CL.d [CK.str, CK.str])).snd.fst) : Int) > (300 : Int))) (Tree.ret [AObj.own [AV.s (SV.bool l), AV.s (SV.ro (Con.typ [CK.str, CK.str] es)), AV.s (SV.ro (Con.typ [CK.str, CK.int IntKind.i64] bs))] (25 : Nat)] (AV.s (SV.blit true))) (Tree.need (inI64 (i + (1 : Int))) (Tree.at (Cfg.mk (sl (55 : Nat) [((1 : Nat), AV.ptr (0 : Nat) (0 : Nat)), ((3 : Nat), AV.s (SV.int IntKind.i64 (i + (1 : Int))))]) [AObj.own [AV.s (SV.bool l), AV.s (SV.ro (Con.typ [CK.str, CK.str] es)), AV.s (SV.ro (Con.typ [CK.str, CK.int IntKind.i64] bs))] (25 : Nat)] (hd Try.f22 (4 : Nat))))))))))) (Tree.at (Cfg.mk (sl (55 : Nat) [((1 : Nat), AV.ptr (0 : Nat) (0 : Nat)), ((4 : Nat), AV.s (SV.int IntKind.i64 (0 : Int)))]) [AObj.own [AV.s (SV.bool l), AV.s (SV.ro (Con.typ [CK.str, CK.str] es)), AV.s (SV.ro (Con.typ [CK.str, CK.int IntKind.i64] bs))] (25 : Nat)] (hd Try.f22 (9 : Nat)))) := by kernel_rfl
theorem loopLarge2 (l : Bool) (es : List En) (bs : List Br) (i : Int) : run P tab0.sum Try.f22 nsLarge (cLarge2 l es bs i) =
  Tree.ite (decide (i < (↑bs.length : Int))) (Tree.need ((0 : Int) ≤ i) (Tree.need (i < (↑bs.length : Int)) (Tree.ite (decide ((↑(ByteArray.size (bs.getD i.toNat (CL.d [CK.str, CK.int IntKind.i64])).fst) : Int) > (300 : Int))) (Tree.ret [AObj.own [AV.s (SV.bool l), AV.s (SV.ro (Con.typ [CK.str, CK.str] es)), AV.s (SV.ro (Con.typ [CK.str, CK.int IntKind.i64] bs))] (25 : Nat)] (AV.s (SV.blit true))) (Tree.need (inI64 (i + (1 : Int))) (Tree.at (Cfg.mk (sl (55 : Nat) [((1 : Nat), AV.ptr (0 : Nat) (0 : Nat)), ((4 : Nat), AV.s (SV.int IntKind.i64 (i + (1 : Int))))]) [AObj.own [AV.s (SV.bool l), AV.s (SV.ro (Con.typ [CK.str, CK.str] es)), AV.s (SV.ro (Con.typ [CK.str, CK.int IntKind.i64] bs))] (25 : Nat)] (hd Try.f22 (9 : Nat)))))))) (Tree.ret [AObj.own [AV.s (SV.bool l), AV.s (SV.ro (Con.typ [CK.str, CK.str] es)), AV.s (SV.ro (Con.typ [CK.str, CK.int IntKind.i64] bs))] (25 : Nat)] (AV.s (SV.blit false))) := by kernel_rfl

/-! ### entries, branches, given -/
def nsEntries : List (Nat × Norm) := [(3, ⟨[(3, .typ cE [], eE)], [0, 3, 4], 0, []⟩)]
noncomputable def cEntries (es acc : List En) (i : Int) : Cfg := ⟨sl 19 [(0, .s (.ro (.typ cE es))), (3, .vec 0), (4, .s (.int .i64 i))], [.vec (.typ cE acc) eE], hd Try.f87 3⟩
theorem treeEntries (es : List En) : run P tab0.sum Try.f87 nsEntries (start Try.f87 [.s (.ro (.typ cE es))] []) =
  Tree.at (Cfg.mk (sl (19 : Nat) [((0 : Nat), AV.s (SV.ro (Con.typ [CK.str, CK.str] es))), ((3 : Nat), AV.vec (0 : Nat)), ((4 : Nat), AV.s (SV.int IntKind.i64 (0 : Int)))]) [AObj.vec (Con.typ [CK.str, CK.str] []) (59 : Nat)] (hd Try.f87 (3 : Nat))) := by kernel_rfl
theorem loopEntries (es acc : List En) (i : Int) : run P tab0.sum Try.f87 nsEntries (cEntries es acc i) =
  Tree.ite (decide (i < (↑es.length : Int))) (Tree.need ((0 : Int) ≤ i) (Tree.need (i < (↑es.length : Int)) (Tree.need (acc.length + (1 : Nat) ≤ (4294967296 : Nat)) (Tree.need (inI64 (i + (1 : Int))) (Tree.at (Cfg.mk (sl (19 : Nat) [((0 : Nat), AV.s (SV.ro (Con.typ [CK.str, CK.str] es))), ((3 : Nat), AV.vec (0 : Nat)), ((4 : Nat), AV.s (SV.int IntKind.i64 (i + (1 : Int))))]) [AObj.vec (Con.typ [CK.str, CK.str] (acc ++ [((es.getD i.toNat (CL.d [CK.str, CK.str])).fst, (es.getD i.toNat (CL.d [CK.str, CK.str])).snd.fst, ())])) (59 : Nat)] (hd Try.f87 (3 : Nat)))))))) (Tree.ret [AObj.vec (Con.typ [CK.str, CK.str] acc) (59 : Nat)] (AV.vec (0 : Nat))) := by kernel_rfl
def nsBranches : List (Nat × Norm) := [(3, ⟨[(3, .typ cB [], eB)], [0, 3, 4], 0, []⟩)]
noncomputable def cBranches (es acc : List Br) (i : Int) : Cfg := ⟨sl 19 [(0, .s (.ro (.typ cB es))), (3, .vec 0), (4, .s (.int .i64 i))], [.vec (.typ cB acc) eB], hd Try.f88 3⟩
theorem treeBranches (es : List Br) : run P tab0.sum Try.f88 nsBranches (start Try.f88 [.s (.ro (.typ cB es))] []) =
  Tree.at (Cfg.mk (sl (19 : Nat) [((0 : Nat), AV.s (SV.ro (Con.typ [CK.str, CK.int IntKind.i64] es))), ((3 : Nat), AV.vec (0 : Nat)), ((4 : Nat), AV.s (SV.int IntKind.i64 (0 : Int)))]) [AObj.vec (Con.typ [CK.str, CK.int IntKind.i64] []) (36 : Nat)] (hd Try.f88 (3 : Nat))) := by kernel_rfl
theorem loopBranches (es acc : List Br) (i : Int) : run P tab0.sum Try.f88 nsBranches (cBranches es acc i) =
  Tree.ite (decide (i < (↑es.length : Int))) (Tree.need ((0 : Int) ≤ i) (Tree.need (i < (↑es.length : Int)) (Tree.need (acc.length + (1 : Nat) ≤ (4294967296 : Nat)) (Tree.need (inI64 (i + (1 : Int))) (Tree.at (Cfg.mk (sl (19 : Nat) [((0 : Nat), AV.s (SV.ro (Con.typ [CK.str, CK.int IntKind.i64] es))), ((3 : Nat), AV.vec (0 : Nat)), ((4 : Nat), AV.s (SV.int IntKind.i64 (i + (1 : Int))))]) [AObj.vec (Con.typ [CK.str, CK.int IntKind.i64] (acc ++ [((es.getD i.toNat (CL.d [CK.str, CK.int IntKind.i64])).fst, (es.getD i.toNat (CL.d [CK.str, CK.int IntKind.i64])).snd.fst, ())])) (36 : Nat)] (hd Try.f88 (3 : Nat)))))))) (Tree.ret [AObj.vec (Con.typ [CK.str, CK.int IntKind.i64] acc) (36 : Nat)] (AV.vec (0 : Nat))) := by kernel_rfl
abbrev sEntries := sumOf [tREs] [tEs] (fun (l, ()) => [(l : List En).length ≤ 100000]) (fun (l, ()) => (l, ()))
abbrev sBranches := sumOf [tRBs] [tBs] (fun (l, ()) => [(l : List Br).length ≤ 100000]) (fun (l, ()) => (l, ()))
def tabGiven : Tab := [(87, sEntries), (88, sBranches)]
theorem treeGiven (l : Bool) (es : List En) (bs : List Br) : run P tabGiven.sum Try.f24 [] (start Try.f24 [avN l es bs] []) =
  Tree.need (es.length ≤ (100000 : Nat)) (Tree.need (bs.length ≤ (100000 : Nat)) (Tree.ret [AObj.own [AV.s (SV.bool l), AV.s (SV.ro (Con.typ [CK.str, CK.str] es)), AV.s (SV.ro (Con.typ [CK.str, CK.int IntKind.i64] bs))] (25 : Nat), AObj.own [AV.s (SV.bool l), AV.vec (2 : Nat), AV.vec (3 : Nat)] (31 : Nat), AObj.vec (Con.typ [CK.str, CK.str] es) (59 : Nat), AObj.vec (Con.typ [CK.str, CK.int IntKind.i64] bs) (36 : Nat)] (AV.agg [AV.s (SV.bool l), AV.vec (2 : Nat), AV.vec (3 : Nat)]))) := by kernel_rfl

/-! ### strings.Compare -/
abbrev sCmp0 := sumOf [tStr, tStr] [tInt] (fun _ => []) (fun (a, b, ()) => (cmpS a b, ()))
def tabCmp : Tab := [(122, sCmp0)]
theorem treeCmp (a b : ByteArray) : run P tabCmp.sum Try.f91 [] (start Try.f91 [.s (.str a), .s (.str b)] []) =
  Tree.ret [] (AV.s (SV.int IntKind.i64 (cmpS a b))) := by kernel_rfl
def tabCmp1 : Tab := [(91, sCmp0)]
theorem treePlace1 (x : Br) (b : ByteArray) : run P tabCmp1.sum Try.f90 [] (start Try.f90 [.agg [.s (.str x.1), .s (.int .i64 x.2.1)], .s (.str b)] []) =
  Tree.ret [AObj.own [AV.s (SV.str x.fst), AV.s (SV.int IntKind.i64 x.snd.fst)] (36 : Nat)] (AV.s (SV.int IntKind.i64 (cmpS x.fst b))) := by kernel_rfl
theorem treeSearch1 (x : En) (b : ByteArray) : run P tabCmp1.sum Try.f126 [] (start Try.f126 [.agg [.s (.str x.1), .s (.str x.2.1)], .s (.str b)] []) =
  Tree.ret [AObj.own [AV.s (SV.str x.fst), AV.s (SV.str x.snd.fst)] (59 : Nat)] (AV.s (SV.int IntKind.i64 (cmpS x.fst b))) := by kernel_rfl
theorem large_ok {Z : Glob} : FnOk P Z 22 [tRN] [tBool] (fun _ => []) (fun ((_, es, bs, ()), ()) => (largeN es bs, ())) := by
  refine fnOk_of_safe Try.func22 (by kernel_rfl) (by kernel_rfl) ?_
  rintro ⟨⟨(l : Bool), (es : List En), (bs : List Br), ⟨⟩⟩, ⟨⟩⟩ ⟨⟨_, hle, hlb, _⟩, _⟩ _ X hX hz
  have hle : es.length ≤ 9223372036854775807 := hle
  have hlb : bs.length ≤ 9223372036854775807 := hlb
  have second : largeN es bs = (List.range bs.length).any (bigB bs) → ∀ (n k : Nat), k + n = bs.length → (∀ j, j < k → bigB bs j = false) → Safe P 22 X (Ends [tBool] (largeN es bs, ())) (cLarge2 l es bs (k : Int)) := by
    intro hm n
    induction n with
    | zero =>
      intro k hk hp
      refine go hz hX Tab.Ok.nil Try.func22 (loopLarge2 l es bs k) ⟨fun h => absurd (of_decide_eq_true h) (by omega), fun h => ends_isl ?_⟩
      rw [hm]
      exact any_no (fun j hj => hp j (by omega))
    | succ n ih =>
      intro k hk hp
      refine go hz hX Tab.Ok.nil Try.func22 (loopLarge2 l es bs k) ⟨fun h => ⟨by omega, by omega, ?_⟩, fun h => absurd (of_decide_eq_false h) (by omega)⟩
      simp only [Int.toNat_natCast]
      refine ⟨fun h1 => ends_isl (by rw [hm]; exact any_yes (i := k) (by omega) h1), fun h1 => ⟨⟨by omega, by omega⟩, ih (k + 1) (by omega) (fun j hj => ?_)⟩⟩
      by_cases hj2 : j = k
      · subst hj2; exact h1
      · exact hp j (by omega)
  have first : largeN es bs = ((List.range es.length).any (bigE es) || (List.range bs.length).any (bigB bs)) → ∀ (n k : Nat), k + n = es.length → (∀ j, j < k → bigE es j = false) → Safe P 22 X (Ends [tBool] (largeN es bs, ())) (cLarge1 l es bs (k : Int)) := by
    intro hm n
    induction n with
    | zero =>
      intro k hk hp
      have he : (List.range es.length).any (bigE es) = false := any_no (fun j hj => hp j (by omega))
      exact go hz hX Tab.Ok.nil Try.func22 (loopLarge1 l es bs k) ⟨fun h => absurd (of_decide_eq_true h) (by omega), fun h => second (by rw [hm, he]; rfl) bs.length 0 (by omega) (fun j hj => by omega)⟩
    | succ n ih =>
      intro k hk hp
      have yes : bigE es k = true → largeN es bs = true := fun h => by rw [hm, any_yes (i := k) (by omega) h]; rfl
      refine go hz hX Tab.Ok.nil Try.func22 (loopLarge1 l es bs k) ⟨fun h => ⟨by omega, by omega, ?_⟩, fun h => absurd (of_decide_eq_false h) (by omega)⟩
      simp only [Int.toNat_natCast]
      refine ⟨fun h1 => ends_isl (yes ?_), fun h1 => ⟨by omega, by omega, fun h2 => ends_isl (yes ?_), fun h2 => ⟨⟨by omega, by omega⟩, ih (k + 1) (by omega) (fun j hj => ?_)⟩⟩⟩
      · show (decide (((es.getD k dE).1.size : Int) > 300) || _) = true
        rw [show decide (((es.getD k dE).1.size : Int) > 300) = true from h1]; rfl
      · show (_ || decide (((es.getD k dE).2.1.size : Int) > 300)) = true
        rw [show decide (((es.getD k dE).2.1.size : Int) > 300) = true from h2]; simp
      · by_cases hj2 : j = k
        · subst hj2
          show (decide (((es.getD j dE).1.size : Int) > 300) || decide (((es.getD j dE).2.1.size : Int) > 300)) = false
          rw [show decide (((es.getD j dE).1.size : Int) > 300) = false from h1, show decide (((es.getD j dE).2.1.size : Int) > 300) = false from h2]; rfl
        · exact hp j (by omega)
  refine go hz hX Tab.Ok.nil Try.func22 (treeLarge l es bs) ⟨fun h1 => ends_isl ?_, fun h1 => ⟨fun h2 => ends_isl ?_, fun h2 => first ?_ es.length 0 (by omega) (fun j hj => by omega)⟩⟩
  · show ((decide ((es.length : Int) > 200) || _) || _ || _) = true
    rw [h1]; rfl
  · show ((_ || decide ((bs.length : Int) > 200)) || _ || _) = true
    rw [h2]; simp
  · show ((decide ((es.length : Int) > 200) || decide ((bs.length : Int) > 200)) || _ || _) = _
    rw [h1, h2]; rfl

theorem entries_ok {Z : Glob} : FnOk P Z 87 [tREs] [tEs] (fun (l, ()) => [(l : List En).length ≤ 100000]) (fun (l, ()) => (l, ())) := by
  refine fnOk_of_safe Try.func87 (by kernel_rfl) (by kernel_rfl) ?_
  rintro ⟨(es : List En), ⟨⟩⟩ _ ⟨(hle : es.length ≤ 100000), _⟩ X hX hz
  have first : ∀ (n k : Nat), k + n = es.length → Safe P 87 X (Ends [tEs] (es, ())) (cEntries es (es.take k) (k : Int)) := by
    intro n
    induction n with
    | zero =>
      intro k hk
      refine go hz hX Tab.Ok.nil Try.func87 (loopEntries es _ k) ⟨fun h => absurd (of_decide_eq_true h) (by omega), fun h => ?_⟩
      rw [List.take_of_length_le (by omega)]
      exact ends_eq (es, ()) rfl (by kernel_rfl)
    | succ n ih =>
      intro k hk
      refine go hz hX Tab.Ok.nil Try.func87 (loopEntries es _ k) ⟨fun h => ⟨by omega, by omega, ?_, ⟨by omega, by omega⟩, ?_⟩, fun h => absurd (of_decide_eq_false h) (by omega)⟩
      · show (es.take k).length + 1 ≤ 4294967296
        rw [List.length_take]; omega
      · simp only [Int.toNat_natCast]
        have := ih (k + 1) (by omega)
        rw [← take_snoc (d := dE) (by omega)] at this
        exact this
  exact go hz hX Tab.Ok.nil Try.func87 (treeEntries es) (first es.length 0 (by omega))

theorem branches_ok {Z : Glob} : FnOk P Z 88 [tRBs] [tBs] (fun (l, ()) => [(l : List Br).length ≤ 100000]) (fun (l, ()) => (l, ())) := by
  refine fnOk_of_safe Try.func88 (by kernel_rfl) (by kernel_rfl) ?_
  rintro ⟨(es : List Br), ⟨⟩⟩ _ ⟨(hle : es.length ≤ 100000), _⟩ X hX hz
  have first : ∀ (n k : Nat), k + n = es.length → Safe P 88 X (Ends [tBs] (es, ())) (cBranches es (es.take k) (k : Int)) := by
    intro n
    induction n with
    | zero =>
      intro k hk
      refine go hz hX Tab.Ok.nil Try.func88 (loopBranches es _ k) ⟨fun h => absurd (of_decide_eq_true h) (by omega), fun h => ?_⟩
      rw [List.take_of_length_le (by omega)]
      exact ends_eq (es, ()) rfl (by kernel_rfl)
    | succ n ih =>
      intro k hk
      refine go hz hX Tab.Ok.nil Try.func88 (loopBranches es _ k) ⟨fun h => ⟨by omega, by omega, ?_, ⟨by omega, by omega⟩, ?_⟩, fun h => absurd (of_decide_eq_false h) (by omega)⟩
      · show (es.take k).length + 1 ≤ 4294967296
        rw [List.length_take]; omega
      · simp only [Int.toNat_natCast]
        have := ih (k + 1) (by omega)
        rw [← take_snoc (d := dB) (by omega)] at this
        exact this
  exact go hz hX Tab.Ok.nil Try.func88 (treeBranches es) (first es.length 0 (by omega))

theorem tabGiven_ok {Z : Glob} : tabGiven.Ok P Z := Tab.Ok.cons entries_ok.sum (Tab.Ok.cons branches_ok.sum Tab.Ok.nil)
theorem given_ok {Z : Glob} : FnOk P Z 24 [tRN] [tNode] (fun ((_, es, bs, ()), ()) => [(es : List En).length ≤ 100000, (bs : List Br).length ≤ 100000]) (fun (n, ()) => (n, ())) := by
  refine fnOk_of_safe Try.func24 (by kernel_rfl) (by kernel_rfl) ?_
  rintro ⟨⟨(l : Bool), (es : List En), (bs : List Br), ⟨⟩⟩, ⟨⟩⟩ _ ⟨(hle : es.length ≤ 100000), (hlb : bs.length ≤ 100000), _⟩ X hX hz
  exact go hz hX tabGiven_ok Try.func24 (treeGiven l es bs) ⟨hle, hlb, ends_eq ((l, es, bs, ()), ()) rfl (by kernel_rfl)⟩

set_option maxHeartbeats 1000000 in
set_option maxRecDepth 100000 in
theorem cmpstr_calls (a b : ByteArray) (w : World) : Calls P 122 #[.string a, .string b] w fun e w' => e = .returned (.int .i64 (cmpS a b)) ∧ w' = w := by
  have mixed := mixed
  have t3 := Try.underlying3
  have t9 := Try.underlying9
  have u3 := run_underlying t3; have u9 := run_underlying t9
  go_enter Try.func122, Try.ntmps122
  go_wp2
  rw [run_callFunc_extern Try.func133 (by kernel_rfl) (by kernel_rfl) (by kernel_rfl) (e := Extern.BytealgCompare.compare) (by kernel_rfl), Lib.run_compareString]
  simp only [Result.andThen]
  rw [Oper.upon_value]
  go_wp2
  go_ret
  exact ⟨rfl, rfl⟩
theorem cmp0_ok {Z : Glob} : FnOk P Z 122 [tStr, tStr] [tInt] (fun _ => []) (fun (a, b, ()) => (cmpS a b, ())) := by
  rintro ⟨(a : ByteArray), (b : ByteArray), ⟨⟩⟩ _ _ G w vs hG hz hd
  obtain ⟨v, rest, rfl, h1, h2⟩ := DenL_cons.1 hd
  obtain ⟨u, rest, rfl, h3, h4⟩ := DenL_cons.1 h2
  obtain rfl := DenL_nil.1 h4
  obtain rfl := str_den h1
  obtain rfl := str_den h3
  refine (cmpstr_calls a b w).mono ?_
  rintro e w' ⟨rfl, rfl⟩
  refine ⟨_, rfl, Good.val ⟨fun id o ho => by simp at ho, fun i j oi oj b hi => by simp at hi, fun b hb => ?_, hG⟩ ?_⟩
  · obtain ⟨id, o, ho, _⟩ := hb; cases ho
  · exact DenV_s (.int .i64 _)
theorem cmp_ok {Z : Glob} : FnOk P Z 91 [tStr, tStr] [tInt] (fun _ => []) (fun (a, b, ()) => (cmpS a b, ())) := by
  refine fnOk_of_safe Try.func91 (by kernel_rfl) (by kernel_rfl) ?_
  rintro ⟨(a : ByteArray), (b : ByteArray), ⟨⟩⟩ _ _ X hX hz
  exact go hz hX (Tab.Ok.cons cmp0_ok.sum Tab.Ok.nil) Try.func91 (treeCmp a b) ends_i
abbrev tBr : Ty := .st [.str, .int .i64]
abbrev tEn : Ty := .st [.str, .str]
theorem place1_ok {Z : Glob} : FnOk P Z 90 [tBr, tStr] [tInt] (fun _ => []) (fun ((a, _, ()), b, ()) => (cmpS a b, ())) := by
  refine fnOk_of_safe Try.func90 (by kernel_rfl) (by kernel_rfl) ?_
  rintro ⟨⟨(a : ByteArray), (n : Int), ⟨⟩⟩, (b : ByteArray), ⟨⟩⟩ _ _ X hX hz
  exact go hz hX (Tab.Ok.cons cmp_ok.sum Tab.Ok.nil) Try.func90 (treePlace1 (a, n, ()) b) ends_i
theorem search1_ok {Z : Glob} : FnOk P Z 126 [tEn, tStr] [tInt] (fun _ => []) (fun ((a, _, ()), b, ()) => (cmpS a b, ())) := by
  refine fnOk_of_safe Try.func126 (by kernel_rfl) (by kernel_rfl) ?_
  rintro ⟨⟨(a : ByteArray), (n : ByteArray), ⟨⟩⟩, (b : ByteArray), ⟨⟩⟩ _ _ X hX hz
  exact go hz hX (Tab.Ok.cons cmp_ok.sum Tab.Ok.nil) Try.func126 (treeSearch1 (a, n, ()) b) ends_i
end Lf
