import Derived.Test.YtjmdfmafnenjnaaL3
namespace Lf
open Go Go.Sx Go.Proofs
abbrev sBSB := sumOf [tBs, tStr, .b .fn] [tInt, tBool] (fun (l, _, f, ()) => [(f : Nat) = 90, (l : List Br).length ≤ 1000000, srt (ksB l)]) (fun (l, key, _, ()) => ((lbP (ksB l) key : Nat), atK (ksB l) key, ()))
abbrev sBSE := sumOf [tEs, tStr, .b .fn] [tInt, tBool] (fun (l, _, f, ()) => [(f : Nat) = 126, (l : List En).length ≤ 1000000, srt (ksE l)]) (fun (l, key, _, ()) => ((lbP (ksE l) key : Nat), atK (ksE l) key, ()))
def tabPl : Tab := [(89, sBSB), (125, sBSE)]
theorem treePlace (l : List Br) (key : ByteArray) : run P tabPl.sum Try.f26 [] (start Try.f26 [.s (.ro (.typ cB l)), .s (.str key)] []) =
  Tree.need ((90 : Nat) = (90 : (Ty.b B.fn).V)) (Tree.need (l.length ≤ (1000000 : Nat)) (Tree.need (srt (ksB l)) (Tree.ite (!atK (ksB l) key) (Tree.need (inI64 ((↑(lbP (ksB l) key) : tInt.V) - (1 : Int))) (Tree.ret [] (AV.s (SV.int IntKind.i64 (imax (0 : Int) ((↑(lbP (ksB l) key) : tInt.V) - (1 : Int))))))) (Tree.ret [] (AV.s (SV.int IntKind.i64 (imax (0 : Int) (↑(lbP (ksB l) key) : tInt.V)))))))) := by kernel_rfl
theorem treeSearch (l : List En) (key : ByteArray) : run P tabPl.sum Try.f104 [] (start Try.f104 [.s (.ro (.typ cE l)), .s (.str key)] []) =
  Tree.need ((126 : Nat) = (126 : (Ty.b B.fn).V)) (Tree.need (l.length ≤ (1000000 : Nat)) (Tree.need (srt (ksE l)) (Tree.ret [] (AV.tup [AV.s (SV.int IntKind.i64 (↑(lbP (ksE l) key) : tInt.V)), AV.s (SV.bool (atK (ksE l) key))])))) := by kernel_rfl

/-! ### sizes -/
def nsSizes : List (Nat × Norm) := [(3, ⟨[(3, .ints .i64 [], 3)], [1, 3, 9, 10, 11], 0, []⟩), (8, ⟨[(3, .ints .i64 [], 3)], [3, 28, 29, 30], 0, []⟩)]
noncomputable def cSizes1 (l : Bool) (es : List En) (bs : List Br) (acc : List Int) (i : Int) : Cfg := ⟨sl 43 [(1, .ptr 0 0), (3, .vec 1), (9, .s (.ro (.typ cE es))), (10, .s (.int .i64 (es.length : Int))), (11, .s (.int .i64 i))], [obN l es bs 31, .vec (.ints .i64 acc) 3], hd Try.f98 3⟩
noncomputable def cSizes2 (bs : List Br) (acc : List Int) (i : Int) : Cfg := ⟨sl 43 [(3, .vec 0), (28, .s (.ro (.typ cB bs))), (29, .s (.int .i64 (bs.length : Int))), (30, .s (.int .i64 i))], [.vec (.ints .i64 acc) 3], hd Try.f98 8⟩
theorem treeSizes (l : Bool) (es : List En) (bs : List Br) : run P tab0.sum Try.f98 nsSizes (start Try.f98 [avN l es bs] []) =
  Tree.at (Cfg.mk (sl (43 : Nat) [((1 : Nat), AV.ptr (0 : Nat) (0 : Nat)), ((3 : Nat), AV.vec (1 : Nat)), ((9 : Nat), AV.s (SV.ro (Con.typ [CK.str, CK.str] es))), ((10 : Nat), AV.s (SV.int IntKind.i64 (↑es.length : Int))), ((11 : Nat), AV.s (SV.int IntKind.i64 (0 : Int)))]) [AObj.own [AV.s (SV.bool l), AV.s (SV.ro (Con.typ [CK.str, CK.str] es)), AV.s (SV.ro (Con.typ [CK.str, CK.int IntKind.i64] bs))] (31 : Nat), AObj.vec (Con.ints IntKind.i64 []) (3 : Nat)] (hd Try.f98 (3 : Nat))) := by kernel_rfl
theorem loopSizes1 (l : Bool) (es : List En) (bs : List Br) (acc : List Int) (i : Int) : run P tab0.sum Try.f98 nsSizes (cSizes1 l es bs acc i) =
  Tree.ite (decide (i < (↑es.length : Int))) (Tree.need ((0 : Int) ≤ i) (Tree.need (i < (↑es.length : Int)) (Tree.need (inI64 ((2 : Int) + (↑(ByteArray.size (es.getD i.toNat (CL.d [CK.str, CK.str])).fst) : Int))) (Tree.need (inI64 ((2 : Int) + (↑(ByteArray.size (es.getD i.toNat (CL.d [CK.str, CK.str])).fst) : Int) + (↑(ByteArray.size (es.getD i.toNat (CL.d [CK.str, CK.str])).snd.fst) : Int))) (Tree.need (acc.length + (1 : Nat) ≤ (4294967296 : Nat)) (Tree.need (inI64 (i + (1 : Int))) (Tree.at (Cfg.mk (sl (43 : Nat) [((1 : Nat), AV.ptr (0 : Nat) (0 : Nat)), ((3 : Nat), AV.vec (1 : Nat)), ((9 : Nat), AV.s (SV.ro (Con.typ [CK.str, CK.str] es))), ((10 : Nat), AV.s (SV.int IntKind.i64 (↑es.length : Int))), ((11 : Nat), AV.s (SV.int IntKind.i64 (i + (1 : Int))))]) [AObj.own [AV.s (SV.bool l), AV.s (SV.ro (Con.typ [CK.str, CK.str] es)), AV.s (SV.ro (Con.typ [CK.str, CK.int IntKind.i64] bs))] (31 : Nat), AObj.vec (Con.ints IntKind.i64 (acc ++ [(2 : Int) + (↑(ByteArray.size (es.getD i.toNat (CL.d [CK.str, CK.str])).fst) : Int) + (↑(ByteArray.size (es.getD i.toNat (CL.d [CK.str, CK.str])).snd.fst) : Int)])) (3 : Nat)] (hd Try.f98 (3 : Nat)))))))))) (Tree.at (Cfg.mk (sl (43 : Nat) [((3 : Nat), AV.vec (0 : Nat)), ((28 : Nat), AV.s (SV.ro (Con.typ [CK.str, CK.int IntKind.i64] bs))), ((29 : Nat), AV.s (SV.int IntKind.i64 (↑bs.length : Int))), ((30 : Nat), AV.s (SV.int IntKind.i64 (0 : Int)))]) [AObj.vec (Con.ints IntKind.i64 acc) (3 : Nat)] (hd Try.f98 (8 : Nat)))) := by kernel_rfl
theorem loopSizes2 (bs : List Br) (acc : List Int) (i : Int) : run P tab0.sum Try.f98 nsSizes (cSizes2 bs acc i) =
  Tree.ite (decide (i < (↑bs.length : Int))) (Tree.need ((0 : Int) ≤ i) (Tree.need (i < (↑bs.length : Int)) (Tree.need (inI64 ((3 : Int) + (↑(ByteArray.size (bs.getD i.toNat (CL.d [CK.str, CK.int IntKind.i64])).fst) : Int))) (Tree.need (acc.length + (1 : Nat) ≤ (4294967296 : Nat)) (Tree.need (inI64 (i + (1 : Int))) (Tree.at (Cfg.mk (sl (43 : Nat) [((3 : Nat), AV.vec (0 : Nat)), ((28 : Nat), AV.s (SV.ro (Con.typ [CK.str, CK.int IntKind.i64] bs))), ((29 : Nat), AV.s (SV.int IntKind.i64 (↑bs.length : Int))), ((30 : Nat), AV.s (SV.int IntKind.i64 (i + (1 : Int))))]) [AObj.vec (Con.ints IntKind.i64 (acc ++ [(3 : Int) + (↑(ByteArray.size (bs.getD i.toNat (CL.d [CK.str, CK.int IntKind.i64])).fst) : Int)])) (3 : Nat)] (hd Try.f98 (8 : Nat))))))))) (Tree.ret [AObj.vec (Con.ints IntKind.i64 acc) (3 : Nat)] (AV.vec (0 : Nat))) := by kernel_rfl
def szE (x : En) : Int := 2 + (x.1.size : Int) + (x.2.1.size : Int)
def szB (x : Br) : Int := 3 + (x.1.size : Int)
def sizesF (es : List En) (bs : List Br) : List Int := es.map szE ++ bs.map szB
def sumI (l : List Int) : Int := l.foldl (· + ·) 0
def sizeN (es : List En) (bs : List Br) : Int := 1 + ((es.map szE).sum + (bs.map szB).sum)
def smallE (es : List En) : Prop := es.length ≤ 1000 ∧ ∀ x ∈ es, x.1.size ≤ 1000 ∧ x.2.1.size ≤ 1000
def smallB (bs : List Br) : Prop := bs.length ≤ 1000 ∧ ∀ x ∈ bs, x.1.size ≤ 1000
abbrev sSizes := sumOf [tNode] [tInts] (fun ((_, es, bs, ()), ()) => [smallE es, smallB bs]) (fun ((_, es, bs, ()), ()) => (sizesF es bs, ()))
def tabSz : Tab := [(98, sSizes)]
def nsSize : List (Nat × Norm) := [(3, ⟨[], [3, 7, 8, 9], 0, []⟩)]
noncomputable def cSize (l : List Int) (a i : Int) : Cfg := ⟨sl 18 [(3, .s (.int .i64 a)), (7, .vec 0), (8, .s (.int .i64 (l.length : Int))), (9, .s (.int .i64 i))], [.vec (.ints .i64 l) 3], hd Try.f34 3⟩
theorem treeSize (l : Bool) (es : List En) (bs : List Br) : run P tabSz.sum Try.f34 nsSize (start Try.f34 [avN l es bs] []) =
  Tree.need (smallE es) (Tree.need (smallB bs) (Tree.at (Cfg.mk (sl (18 : Nat) [((3 : Nat), AV.s (SV.int IntKind.i64 (1 : Int))), ((7 : Nat), AV.vec (0 : Nat)), ((8 : Nat), AV.s (SV.int IntKind.i64 (↑(sizesF es bs).length : Int))), ((9 : Nat), AV.s (SV.int IntKind.i64 (0 : Int)))]) [AObj.vec (Con.ints IntKind.i64 (sizesF es bs)) (3 : Nat)] (hd Try.f34 (3 : Nat))))) := by kernel_rfl
theorem loopSize (l : List Int) (a i : Int) : run P tabSz.sum Try.f34 nsSize (cSize l a i) =
  Tree.ite (decide (i < (↑l.length : Int))) (Tree.need ((0 : Int) ≤ i) (Tree.need (i < (↑l.length : Int)) (Tree.need (inI64 (a + l.getD i.toNat (0 : Int))) (Tree.need (inI64 (i + (1 : Int))) (Tree.at (Cfg.mk (sl (18 : Nat) [((3 : Nat), AV.s (SV.int IntKind.i64 (a + l.getD i.toNat (0 : Int)))), ((7 : Nat), AV.vec (0 : Nat)), ((8 : Nat), AV.s (SV.int IntKind.i64 (↑l.length : Int))), ((9 : Nat), AV.s (SV.int IntKind.i64 (i + (1 : Int))))]) [AObj.vec (Con.ints IntKind.i64 l) (3 : Nat)] (hd Try.f34 (3 : Nat)))))))) (Tree.ret [AObj.vec (Con.ints IntKind.i64 l) (3 : Nat)] (AV.s (SV.int IntKind.i64 a))) := by kernel_rfl
abbrev sSize := sumOf [tNode] [tInt] (fun ((_, es, bs, ()), ()) => [smallE es, smallB bs]) (fun ((_, es, bs, ()), ()) => (sizeN es bs, ()))
def tabFi : Tab := [(34, sSize)]
theorem treeFits (l : Bool) (es : List En) (bs : List Br) : run P tabFi.sum Try.f35 [] (start Try.f35 [avN l es bs] []) =
  Tree.need (smallE es) (Tree.need (smallB bs) (Tree.ret [AObj.own [AV.s (SV.bool l), AV.s (SV.ro (Con.typ [CK.str, CK.str] es)), AV.s (SV.ro (Con.typ [CK.str, CK.int IntKind.i64] bs))] (31 : Nat)] (AV.s (SV.bool (decide (sizeN es bs ≤ (254 : Int))))))) := by kernel_rfl
theorem tabPl_ok {Z : Glob} : tabPl.Ok P Z := Tab.Ok.cons bsB_ok.sum (Tab.Ok.cons bsE_ok.sum Tab.Ok.nil)
def placeF (l : List Br) (key : ByteArray) : Int := imax 0 (if atK (ksB l) key = true then (lbP (ksB l) key : Int) else (lbP (ksB l) key : Int) - 1)
theorem lbP_le (ks : List ByteArray) (key : ByteArray) : lbP ks key ≤ ks.length := by
  unfold lbP
  exact (List.takeWhile_sublist _).length_le
theorem place_ok {Z : Glob} : FnOk P Z 26 [tBs, tStr] [tInt] (fun (l, _, ()) => [(l : List Br).length ≤ 1000000, srt (ksB l)]) (fun (l, key, ()) => (placeF l key, ())) := by
  refine fnOk_of_safe Try.func26 (by kernel_rfl) (by kernel_rfl) ?_
  rintro ⟨(l : List Br), (key : ByteArray), ⟨⟩⟩ _ ⟨(hl : l.length ≤ 1000000), (hs : srt (ksB l)), _⟩ X hX hz
  have hb := lbP_le (ksB l) key
  rw [show (ksB l).length = l.length from List.length_map _] at hb
  refine go hz hX tabPl_ok Try.func26 (treePlace l key) ⟨rfl, hl, hs, fun h => ⟨⟨by omega, by omega⟩, ends_ii ?_⟩, fun h => ends_ii ?_⟩
  · have h : atK (ksB l) key = false := by simpa using h
    simp [placeF, h]
  · have h : atK (ksB l) key = true := by simpa using h
    simp [placeF, h]
theorem search_ok {Z : Glob} : FnOk P Z 104 [tEs, tStr] [tInt, tBool] (fun (l, _, ()) => [(l : List En).length ≤ 1000000, srt (ksE l)]) (fun (l, key, ()) => ((lbP (ksE l) key : Nat), atK (ksE l) key, ())) := by
  refine fnOk_of_safe Try.func104 (by kernel_rfl) (by kernel_rfl) ?_
  rintro ⟨(l : List En), (key : ByteArray), ⟨⟩⟩ _ ⟨(hl : l.length ≤ 1000000), (hs : srt (ksE l)), _⟩ X hX hz
  exact go hz hX tabPl_ok Try.func104 (treeSearch l key) ⟨rfl, hl, hs, ends_eq _ rfl (by kernel_rfl)⟩

theorem small_getE {es : List En} (h : smallE es) (i : Nat) : (es.getD i dE).1.size ≤ 1000 ∧ (es.getD i dE).2.1.size ≤ 1000 := by
  by_cases hi : i < es.length
  · rw [getD_lt hi]; exact h.2 _ (List.getElem_mem hi)
  · rw [show es.getD i dE = dE from by simp [List.getD, List.getElem?_eq_none (Nat.le_of_not_lt hi)]]
    exact ⟨by decide, by decide⟩
theorem small_getB {bs : List Br} (h : smallB bs) (i : Nat) : (bs.getD i dB).1.size ≤ 1000 := by
  by_cases hi : i < bs.length
  · rw [getD_lt hi]; exact h.2 _ (List.getElem_mem hi)
  · rw [show bs.getD i dB = dB from by simp [List.getD, List.getElem?_eq_none (Nat.le_of_not_lt hi)]]
    decide

theorem map_take_snoc {α : Type} {l : List α} {k : Nat} {d : α} (f : α → Int) (h : k < l.length) : (l.take k).map f ++ [f (l.getD k d)] = (l.take (k + 1)).map f := by
  rw [← take_snoc (d := d) h, List.map_append]; rfl

theorem sizes_ok {Z : Glob} : FnOk P Z 98 [tNode] [tInts] (fun ((_, es, bs, ()), ()) => [smallE es, smallB bs]) (fun ((_, es, bs, ()), ()) => (sizesF es bs, ())) := by
  refine fnOk_of_safe Try.func98 (by kernel_rfl) (by kernel_rfl) ?_
  rintro ⟨⟨(l : Bool), (es : List En), (bs : List Br), ⟨⟩⟩, ⟨⟩⟩ _ ⟨(he : smallE es), (hb : smallB bs), _⟩ X hX hz
  have he1 := he.1
  have hb1 := hb.1
  have second : ∀ (n k : Nat), k + n = bs.length → Safe P 98 X (Ends [tInts] (sizesF es bs, ())) (cSizes2 bs (es.map szE ++ (bs.take k).map szB) (k : Int)) := by
    intro n
    induction n with
    | zero =>
      intro k hk
      refine go hz hX Tab.Ok.nil Try.func98 (loopSizes2 bs _ k) ⟨fun h => absurd (of_decide_eq_true h) (by omega), fun h => ?_⟩
      rw [List.take_of_length_le (by omega)]
      exact ends_eq (sizesF es bs, ()) rfl (by kernel_rfl)
    | succ n ih =>
      intro k hk
      have hsz := small_getB hb k
      refine go hz hX Tab.Ok.nil Try.func98 (loopSizes2 bs _ k) ⟨fun h => ⟨by omega, by omega, ?_, ?_, ⟨by omega, by omega⟩, ?_⟩, fun h => absurd (of_decide_eq_false h) (by omega)⟩
      · simp only [Int.toNat_natCast]
        show inI64 (3 + ((bs.getD k dB).1.size : Int))
        exact ⟨by omega, by omega⟩
      · simp only [List.length_append, List.length_map, List.length_take]; omega
      · simp only [Int.toNat_natCast]
        have := ih (k + 1) (by omega)
        rw [← map_take_snoc (d := dB) szB (by omega), ← List.append_assoc] at this
        exact this
  have first : ∀ (n k : Nat), k + n = es.length → Safe P 98 X (Ends [tInts] (sizesF es bs, ())) (cSizes1 l es bs ((es.take k).map szE) (k : Int)) := by
    intro n
    induction n with
    | zero =>
      intro k hk
      refine go hz hX Tab.Ok.nil Try.func98 (loopSizes1 l es bs _ k) ⟨fun h => absurd (of_decide_eq_true h) (by omega), fun h => ?_⟩
      rw [List.take_of_length_le (by omega)]
      have := second bs.length 0 (by omega)
      simp only [List.take_zero, List.map_nil, List.append_nil] at this
      exact this
    | succ n ih =>
      intro k hk
      obtain ⟨hs1, hs2⟩ := small_getE he k
      refine go hz hX Tab.Ok.nil Try.func98 (loopSizes1 l es bs _ k) ⟨fun h => ⟨by omega, by omega, ?_, ?_, ?_, ⟨by omega, by omega⟩, ?_⟩, fun h => absurd (of_decide_eq_false h) (by omega)⟩
      · simp only [Int.toNat_natCast]
        show inI64 (2 + ((es.getD k dE).1.size : Int))
        exact ⟨by omega, by omega⟩
      · simp only [Int.toNat_natCast]
        show inI64 (2 + ((es.getD k dE).1.size : Int) + ((es.getD k dE).2.1.size : Int))
        exact ⟨by omega, by omega⟩
      · simp only [List.length_map, List.length_take]; omega
      · simp only [Int.toNat_natCast]
        have := ih (k + 1) (by omega)
        rw [← map_take_snoc (d := dE) szE (by omega)] at this
        exact this
  exact go hz hX Tab.Ok.nil Try.func98 (treeSizes l es bs) (first es.length 0 (by omega))

theorem szs_range {es : List En} {bs : List Br} (he : smallE es) (hb : smallB bs) : ∀ x ∈ sizesF es bs, 0 ≤ x ∧ x ≤ 2002 := by
  intro x hx
  rcases List.mem_append.1 hx with hx | hx
  · obtain ⟨y, hy, rfl⟩ := List.mem_map.1 hx
    have := he.2 y hy
    simp only [szE]; omega
  · obtain ⟨y, hy, rfl⟩ := List.mem_map.1 hx
    have := hb.2 y hy
    simp only [szB]; omega

theorem sum_range {l : List Int} {m : Int} (h : ∀ x ∈ l, 0 ≤ x ∧ x ≤ m) (hm : 0 ≤ m) : 0 ≤ l.sum ∧ l.sum ≤ m * l.length := by
  induction l with
  | nil => simp
  | cons x l ih =>
    have h1 := h x (by simp)
    obtain ⟨h2, h3⟩ := ih (fun y hy => h y (by simp [hy]))
    simp only [List.sum_cons, List.length_cons]
    refine ⟨by omega, ?_⟩
    rw [show ((l.length + 1 : Nat) : Int) = (l.length : Int) + 1 from rfl, Int.mul_add]
    omega

theorem sum_take_snoc {l : List Int} {k : Nat} (h : k < l.length) : (l.take k).sum + l.getD k 0 = (l.take (k + 1)).sum := by
  rw [← take_snoc (d := (0 : Int)) h, List.sum_append]; simp

theorem sizeN_eq (es : List En) (bs : List Br) : sizeN es bs = 1 + (sizesF es bs).sum := by
  simp [sizeN, sizesF, List.sum_append]

theorem size_ok {Z : Glob} : FnOk P Z 34 [tNode] [tInt] (fun ((_, es, bs, ()), ()) => [smallE es, smallB bs]) (fun ((_, es, bs, ()), ()) => (sizeN es bs, ())) := by
  refine fnOk_of_safe Try.func34 (by kernel_rfl) (by kernel_rfl) ?_
  rintro ⟨⟨(l : Bool), (es : List En), (bs : List Br), ⟨⟩⟩, ⟨⟩⟩ _ ⟨(he : smallE es), (hb : smallB bs), _⟩ X hX hz
  have hr := szs_range he hb
  have hlen : (sizesF es bs).length ≤ 2000 := by
    have := he.1; have := hb.1
    simp only [sizesF, List.length_append, List.length_map]; omega
  show Safe P 34 X (Ends [tInt] (sizeN es bs, ())) _
  rw [sizeN_eq]
  have loop : ∀ (n k : Nat), k + n = (sizesF es bs).length → Safe P 34 X (Ends [tInt] (1 + (sizesF es bs).sum, ())) (cSize (sizesF es bs) (1 + ((sizesF es bs).take k).sum) (k : Int)) := by
    intro n
    induction n with
    | zero =>
      intro k hk
      refine go hz hX (Tab.Ok.cons sizes_ok.sum Tab.Ok.nil) Try.func34 (loopSize _ _ k) ⟨fun h => absurd (of_decide_eq_true h) (by omega), fun h => ?_⟩
      rw [List.take_of_length_le (by omega)]
      exact ends_i
    | succ n ih =>
      intro k hk
      have h1 := sum_range (l := (sizesF es bs).take k) (m := 2002) (fun x hx => hr x (List.mem_of_mem_take hx)) (by omega)
      have h2 : 0 ≤ (sizesF es bs).getD k 0 ∧ (sizesF es bs).getD k 0 ≤ 2002 := by
        rw [getD_lt (by omega)]; exact hr _ (List.getElem_mem _)
      have h3 : ((sizesF es bs).take k).length ≤ 2000 := by rw [List.length_take]; omega
      refine go hz hX (Tab.Ok.cons sizes_ok.sum Tab.Ok.nil) Try.func34 (loopSize _ _ k) ?_
      simp only [Int.toNat_natCast]
      refine ⟨fun h => ⟨by omega, by omega, ⟨by omega, by omega⟩, ⟨by omega, by omega⟩, ?_⟩, fun h => absurd (of_decide_eq_false h) (by omega)⟩
      have := ih (k + 1) (by omega)
      rw [← sum_take_snoc (by omega), ← Int.add_assoc] at this
      exact this
  have := loop (sizesF es bs).length 0 (by omega)
  exact go hz hX (Tab.Ok.cons sizes_ok.sum Tab.Ok.nil) Try.func34 (treeSize l es bs) ⟨he, hb, this⟩

theorem fits_ok {Z : Glob} : FnOk P Z 35 [tNode] [tBool] (fun ((_, es, bs, ()), ()) => [smallE es, smallB bs]) (fun ((_, es, bs, ()), ()) => (decide (sizeN es bs ≤ 254), ())) := by
  refine fnOk_of_safe Try.func35 (by kernel_rfl) (by kernel_rfl) ?_
  rintro ⟨⟨(l : Bool), (es : List En), (bs : List Br), ⟨⟩⟩, ⟨⟩⟩ _ ⟨(he : smallE es), (hb : smallB bs), _⟩ X hX hz
  exact go hz hX (Tab.Ok.cons size_ok.sum Tab.Ok.nil) Try.func35 (treeFits l es bs) ⟨he, hb, ends_b⟩
end Lf
