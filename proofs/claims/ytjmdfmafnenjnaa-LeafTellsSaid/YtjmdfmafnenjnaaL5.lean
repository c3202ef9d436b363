import Derived.Test.YtjmdfmafnenjnaaL4
namespace Lf
open Go Go.Sx Go.Proofs
def bytesI (s : ByteArray) : List Int := s.data.toList.map fun b => (b.toNat : Int)
def txt (s : ByteArray) : List Int := IntKind.u8.wrap (s.size : Int) :: bytesI s
abbrev XEnc : Type := ByteArray × List Int
def specEnc1 : Spec XEnc := ⟨fun x => [.s (.str x.1), .ptr 0 0], fun x => [.own [.vec 1] 55, .vec (.ints .u8 x.2) 5], fun x => [x.2.length ≤ 100000000, x.1.size ≤ 1000000], fun x => [.own [.vec 2] 55, .dead, .vec (.ints .u8 (x.2 ++ txt x.1)) 5], fun _ => .tup []⟩
def mEnc1 : List AV → RM (XEnc × List Nat)
  | [.s (.str s), .ptr id 0] => .look id fun
    | some (.own [.vec j] _) => .look j fun
      | some (.vec (.ints .u8 zs) _) => .ret ((s, zs), [id, j])
      | _ => .fail "enc1: no bytes"
    | _ => .fail "enc1: no box"
  | _ => .fail "enc1"
theorem treeEnc1 (s : ByteArray) (zs : List Int) : run P tab0.sum Try.f93 [] (start Try.f93 [.s (.str s), .ptr 0 0] [.own [.vec 1] 55, .vec (.ints .u8 zs) 5]) =
  Tree.need (zs.length + (1 : Nat) ≤ (4294967296 : Nat)) (Tree.need ((zs ++ [IntKind.u8.wrap (↑s.size : Int)]).length + (List.map (fun (b : UInt8) => (↑b.toNat : Int)) s.data.toList).length ≤ (4294967296 : Nat)) (Tree.ret [AObj.own [AV.vec (4 : Nat)] (55 : Nat), AObj.dead, AObj.vec (Con.ints IntKind.u8 [IntKind.u8.wrap (↑s.size : Int)]) (5 : Nat), AObj.dead, AObj.vec (Con.ints IntKind.u8 (zs ++ [IntKind.u8.wrap (↑s.size : Int)] ++ List.map (fun (b : UInt8) => (↑b.toNat : Int)) s.data.toList)) (5 : Nat)] (AV.tup []))) := by kernel_rfl

abbrev sMay := sumOf [tNode] [tBool] (fun _ => []) (fun ((l, es, bs, ()), ()) => (mayN l es bs, ()))
abbrev sFits := sumOf [tNode] [tBool] (fun ((_, es, bs, ()), ()) => [smallE es, smallB bs]) (fun ((_, es, bs, ()), ()) => (decide (sizeN es bs ≤ 254), ()))
def tabEnc : Tab := [(25, sMay), (35, sFits), (93, sumS specEnc1 mEnc1)]
def nsEnc : List (Nat × Norm) := [(8, ⟨[], [1, 4], 0, []⟩), (10, ⟨[], [1, 4, 5, 25, 26, 27], 0, []⟩), (16, ⟨[], [4, 5, 41, 42, 43], 0, []⟩)]
noncomputable def cEnc0 (l : Bool) (es : List En) (bs : List Br) (zs : List Int) : Cfg := ⟨sl 64 [(1, .ptr 0 0), (4, .ptr 1 0)], [obN l es bs 31, .own [.vec 2] 55, .vec (.ints .u8 zs) 5], hr Try.f31 8⟩
noncomputable def cEnc1 (l : Bool) (es : List En) (bs : List Br) (zs : List Int) (i : Int) : Cfg := ⟨sl 64 [(1, .ptr 0 0), (4, .ptr 1 0), (5, .fn 93 [.ptr 1 0]), (25, .s (.ro (.typ cE es))), (26, .s (.int .i64 (es.length : Int))), (27, .s (.int .i64 i))], [obN l es bs 31, .own [.vec 2] 55, .vec (.ints .u8 zs) 5], hd Try.f31 10⟩
noncomputable def cEnc2 (bs : List Br) (zs : List Int) (i : Int) : Cfg := ⟨sl 64 [(4, .ptr 0 0), (5, .fn 93 [.ptr 0 0]), (41, .s (.ro (.typ cB bs))), (42, .s (.int .i64 (bs.length : Int))), (43, .s (.int .i64 i))], [.own [.vec 1] 55, .vec (.ints .u8 zs) 5], hd Try.f31 16⟩
theorem treeEnc (l : Bool) (es : List En) (bs : List Br) : run P tabEnc.sum Try.f31 nsEnc (start Try.f31 [avN l es bs] []) =
  Tree.ite (!mayN l es bs) (Tree.ret [AObj.own [AV.s (SV.bool l), AV.s (SV.ro (Con.typ [CK.str, CK.str] es)), AV.s (SV.ro (Con.typ [CK.str, CK.int IntKind.i64] bs))] (31 : Nat)] (AV.tup [AV.s (SV.str ByteArray.empty), AV.s (SV.ilit IntKind.i64 (4 : Int))])) (Tree.need (smallE es) (Tree.need (smallB bs) (Tree.ite (!decide (sizeN es bs ≤ (254 : Int))) (Tree.ret [AObj.own [AV.s (SV.bool l), AV.s (SV.ro (Con.typ [CK.str, CK.str] es)), AV.s (SV.ro (Con.typ [CK.str, CK.int IntKind.i64] bs))] (31 : Nat)] (AV.tup [AV.s (SV.str ByteArray.empty), AV.s (SV.ilit IntKind.i64 (40 : Int))])) (Tree.ite l (Tree.need ((0 : Int) ≤ (0 : Int)) (Tree.need ((0 : Int) < (↑(1 : Nat) : Int)) (Tree.at (Cfg.mk (sl (64 : Nat) [((1 : Nat), AV.ptr (0 : Nat) (0 : Nat)), ((4 : Nat), AV.ptr (1 : Nat) (0 : Nat))]) [AObj.own [AV.s (SV.bool l), AV.s (SV.ro (Con.typ [CK.str, CK.str] es)), AV.s (SV.ro (Con.typ [CK.str, CK.int IntKind.i64] bs))] (31 : Nat), AObj.own [AV.vec (2 : Nat)] (55 : Nat), AObj.vec (Con.ints IntKind.u8 ([(2 : Int)].set (0 : Nat) (1 : Int))) (5 : Nat)] (hr Try.f31 (8 : Nat)))))) (Tree.at (Cfg.mk (sl (64 : Nat) [((1 : Nat), AV.ptr (0 : Nat) (0 : Nat)), ((4 : Nat), AV.ptr (1 : Nat) (0 : Nat))]) [AObj.own [AV.s (SV.bool l), AV.s (SV.ro (Con.typ [CK.str, CK.str] es)), AV.s (SV.ro (Con.typ [CK.str, CK.int IntKind.i64] bs))] (31 : Nat), AObj.own [AV.vec (2 : Nat)] (55 : Nat), AObj.vec (Con.ints IntKind.u8 [(2 : Int)]) (5 : Nat)] (hr Try.f31 (8 : Nat)))))))) := by kernel_rfl
theorem stopEnc (l : Bool) (es : List En) (bs : List Br) (zs : List Int) : run P tabEnc.sum Try.f31 nsEnc (cEnc0 l es bs zs) =
  Tree.at (Cfg.mk (sl (64 : Nat) [((1 : Nat), AV.ptr (0 : Nat) (0 : Nat)), ((4 : Nat), AV.ptr (1 : Nat) (0 : Nat)), ((5 : Nat), AV.fn (93 : Nat) [AV.ptr (1 : Nat) (0 : Nat)]), ((25 : Nat), AV.s (SV.ro (Con.typ [CK.str, CK.str] es))), ((26 : Nat), AV.s (SV.int IntKind.i64 (↑es.length : Int))), ((27 : Nat), AV.s (SV.int IntKind.i64 (0 : Int)))]) [AObj.own [AV.s (SV.bool l), AV.s (SV.ro (Con.typ [CK.str, CK.str] es)), AV.s (SV.ro (Con.typ [CK.str, CK.int IntKind.i64] bs))] (31 : Nat), AObj.own [AV.vec (2 : Nat)] (55 : Nat), AObj.vec (Con.ints IntKind.u8 zs) (5 : Nat)] (hd Try.f31 (10 : Nat))) := by kernel_rfl
theorem loopEnc1 (l : Bool) (es : List En) (bs : List Br) (zs : List Int) (i : Int) : run P tabEnc.sum Try.f31 nsEnc (cEnc1 l es bs zs i) =
  Tree.ite (decide (i < (↑es.length : Int))) (Tree.need ((0 : Int) ≤ i) (Tree.need (i < (↑es.length : Int)) (Tree.need (some [AV.s (SV.str (es.getD i.toNat (CL.d [CK.str, CK.str])).fst), AV.ptr (0 : Nat) (0 : Nat)] = some [AV.s (SV.str (es.getD i.toNat (CL.d [CK.str, CK.str])).fst), AV.ptr (0 : Nat) (0 : Nat)]) (Tree.need (some [AObj.own [AV.vec (1 : Nat)] (55 : Nat), AObj.vec (Con.ints IntKind.u8 zs) (5 : Nat)] = some [AObj.own [AV.vec (1 : Nat)] (55 : Nat), AObj.vec (Con.ints IntKind.u8 zs) (5 : Nat)]) (Tree.need (zs.length ≤ (100000000 : Nat)) (Tree.need (ByteArray.size (es.getD i.toNat (CL.d [CK.str, CK.str])).fst ≤ (1000000 : Nat)) (Tree.need (some [AV.s (SV.str (es.getD i.toNat (CL.d [CK.str, CK.str])).snd.fst), AV.ptr (0 : Nat) (0 : Nat)] = some [AV.s (SV.str (es.getD i.toNat (CL.d [CK.str, CK.str])).snd.fst), AV.ptr (0 : Nat) (0 : Nat)]) (Tree.need (some [AObj.own [AV.vec (1 : Nat)] (55 : Nat), AObj.vec (Con.ints IntKind.u8 (zs ++ txt (es.getD i.toNat (CL.d [CK.str, CK.str])).fst)) (5 : Nat)] = some [AObj.own [AV.vec (1 : Nat)] (55 : Nat), AObj.vec (Con.ints IntKind.u8 (zs ++ txt (es.getD i.toNat (CL.d [CK.str, CK.str])).fst)) (5 : Nat)]) (Tree.need ((zs ++ txt (es.getD i.toNat (CL.d [CK.str, CK.str])).fst).length ≤ (100000000 : Nat)) (Tree.need (ByteArray.size (es.getD i.toNat (CL.d [CK.str, CK.str])).snd.fst ≤ (1000000 : Nat)) (Tree.need (inI64 (i + (1 : Int))) (Tree.at (Cfg.mk (sl (64 : Nat) [((1 : Nat), AV.ptr (0 : Nat) (0 : Nat)), ((4 : Nat), AV.ptr (1 : Nat) (0 : Nat)), ((5 : Nat), AV.fn (93 : Nat) [AV.ptr (1 : Nat) (0 : Nat)]), ((25 : Nat), AV.s (SV.ro (Con.typ [CK.str, CK.str] es))), ((26 : Nat), AV.s (SV.int IntKind.i64 (↑es.length : Int))), ((27 : Nat), AV.s (SV.int IntKind.i64 (i + (1 : Int))))]) [AObj.own [AV.s (SV.bool l), AV.s (SV.ro (Con.typ [CK.str, CK.str] es)), AV.s (SV.ro (Con.typ [CK.str, CK.int IntKind.i64] bs))] (31 : Nat), AObj.own [AV.vec (2 : Nat)] (55 : Nat), AObj.vec (Con.ints IntKind.u8 (zs ++ txt (es.getD i.toNat (CL.d [CK.str, CK.str])).fst ++ txt (es.getD i.toNat (CL.d [CK.str, CK.str])).snd.fst)) (5 : Nat)] (hd Try.f31 (10 : Nat))))))))))))))) (Tree.at (Cfg.mk (sl (64 : Nat) [((4 : Nat), AV.ptr (0 : Nat) (0 : Nat)), ((5 : Nat), AV.fn (93 : Nat) [AV.ptr (0 : Nat) (0 : Nat)]), ((41 : Nat), AV.s (SV.ro (Con.typ [CK.str, CK.int IntKind.i64] bs))), ((42 : Nat), AV.s (SV.int IntKind.i64 (↑bs.length : Int))), ((43 : Nat), AV.s (SV.int IntKind.i64 (0 : Int)))]) [AObj.own [AV.vec (1 : Nat)] (55 : Nat), AObj.vec (Con.ints IntKind.u8 zs) (5 : Nat)] (hd Try.f31 (16 : Nat)))) := by kernel_rfl
theorem loopEnc2 (bs : List Br) (zs : List Int) (i : Int) : run P tabEnc.sum Try.f31 nsEnc (cEnc2 bs zs i) =
  Tree.ite (decide (i < (↑bs.length : Int))) (Tree.need ((0 : Int) ≤ i) (Tree.need (i < (↑bs.length : Int)) (Tree.need (some [AV.s (SV.str (bs.getD i.toNat (CL.d [CK.str, CK.int IntKind.i64])).fst), AV.ptr (0 : Nat) (0 : Nat)] = some [AV.s (SV.str (bs.getD i.toNat (CL.d [CK.str, CK.int IntKind.i64])).fst), AV.ptr (0 : Nat) (0 : Nat)]) (Tree.need (some [AObj.own [AV.vec (1 : Nat)] (55 : Nat), AObj.vec (Con.ints IntKind.u8 zs) (5 : Nat)] = some [AObj.own [AV.vec (1 : Nat)] (55 : Nat), AObj.vec (Con.ints IntKind.u8 zs) (5 : Nat)]) (Tree.need (zs.length ≤ (100000000 : Nat)) (Tree.need (ByteArray.size (bs.getD i.toNat (CL.d [CK.str, CK.int IntKind.i64])).fst ≤ (1000000 : Nat)) (Tree.need ((0 : Int) ≤ (8 : Int)) (Tree.need ((zs ++ txt (bs.getD i.toNat (CL.d [CK.str, CK.int IntKind.i64])).fst).length + (2 : Nat) ≤ (4294967296 : Nat)) (Tree.need (inI64 (i + (1 : Int))) (Tree.at (Cfg.mk (sl (64 : Nat) [((4 : Nat), AV.ptr (0 : Nat) (0 : Nat)), ((5 : Nat), AV.fn (93 : Nat) [AV.ptr (0 : Nat) (0 : Nat)]), ((41 : Nat), AV.s (SV.ro (Con.typ [CK.str, CK.int IntKind.i64] bs))), ((42 : Nat), AV.s (SV.int IntKind.i64 (↑bs.length : Int))), ((43 : Nat), AV.s (SV.int IntKind.i64 (i + (1 : Int))))]) [AObj.own [AV.vec (1 : Nat)] (55 : Nat), AObj.vec (Con.ints IntKind.u8 (zs ++ txt (bs.getD i.toNat (CL.d [CK.str, CK.int IntKind.i64])).fst ++ [IntKind.u8.wrap (Int.fdiv (bs.getD i.toNat (CL.d [CK.str, CK.int IntKind.i64])).snd.fst ((2 : Int) ^ min (Int.toNat (8 : Int)) IntKind.i64.bits)), IntKind.u8.wrap (bs.getD i.toNat (CL.d [CK.str, CK.int IntKind.i64])).snd.fst])) (5 : Nat)] (hd Try.f31 (16 : Nat))))))))))))) (Tree.ret [AObj.own [AV.vec (1 : Nat)] (55 : Nat), AObj.vec (Con.ints IntKind.u8 zs) (5 : Nat)] (AV.tup [AV.s (SV.str (bytesStr zs)), AV.s (SV.ilit IntKind.i64 (0 : Int))])) := by kernel_rfl
theorem goS {Z : Glob} {X : Ctx} {t : Tab} {f : FuncId} {fn : Func} {ns : List (Nat × Norm)} {c : Cfg} {tr : Tree} {K : List AObj → AV → Prop} {L : List AObj} (hz : ZCtx Z X) (hX : X.H = lk L) (hm : ∀ x ∈ ns, L.length ≤ x.2.m) (hT : t.Ok P Z) (hf : P.funcs[f]? = some fn)
    (e : run P t.sum fn ns c = tr) (h : tr.Holds K (Safe P f X K)) : Safe P f X K c := safe_of_run (Tab.sOk hT) hz mixed hf (fun x hx id hid => by rw [hX]; exact List.getElem?_eq_none (Nat.le_trans (hm x hx) hid)) e h

theorem enc1_ok {Z : Glob} : FnS P Z 93 specEnc1 := by
  refine fnS_of_safe Try.func93 (by kernel_rfl) (fun x => Nat.le_of_ble_eq_true (by kernel_rfl)) ?_
  rintro ⟨(s : ByteArray), (zs : List Int)⟩ ⟨(h1 : zs.length ≤ 100000000), (h2 : s.size ≤ 1000000), _⟩ X hX hz
  have hs : s.data.toList.length = s.size := Array.length_toList
  refine goS hz hX (by simp) Tab.Ok.nil Try.func93 (treeEnc1 s zs) ⟨by omega, by simp only [List.length_append, List.length_map, List.length_singleton]; omega, ⟨[], [0], 2, []⟩, Nat.le_refl _, ?_⟩
  have e : zs ++ txt s = zs ++ [IntKind.u8.wrap (s.size : Int)] ++ bytesI s := by simp [txt]
  show Norm.run _ _ = some ⟨[AV.tup []], [.own [.vec 2] 55, .dead, .vec (.ints .u8 (zs ++ txt s)) 5], []⟩
  rw [e]
  kernel_rfl

def encE (x : En) : List Int := txt x.1 ++ txt x.2.1
def encB (x : Br) : List Int := txt x.1 ++ [IntKind.u8.wrap (Int.fdiv x.2.1 (2 ^ min (Int.toNat 8) IntKind.i64.bits)), IntKind.u8.wrap x.2.1]
def encH (l : Bool) : List Int := [if l = true then 1 else 2]
def encZ (l : Bool) (es : List En) (bs : List Br) : List Int := encH l ++ es.flatMap encE ++ bs.flatMap encB
def encOk (l : Bool) (es : List En) (bs : List Br) : Bool := mayN l es bs && decide (sizeN es bs ≤ 254)
def encS (l : Bool) (es : List En) (bs : List Br) : ByteArray := if encOk l es bs = true then bytesStr (encZ l es bs) else ByteArray.empty
def encN (l : Bool) (es : List En) (bs : List Br) : Int := if mayN l es bs = true then (if sizeN es bs ≤ 254 then 0 else 40) else 4

theorem txt_length (s : ByteArray) : (txt s).length = s.size + 1 := by
  have hs : s.data.toList.length = s.size := Array.length_toList
  simp [txt, bytesI, hs]
theorem flat_snoc {α β : Type} {l : List α} {k : Nat} {d : α} (f : α → List β) (h : k < l.length) : (l.take k).flatMap f ++ f (l.getD k d) = (l.take (k + 1)).flatMap f := by
  rw [← take_snoc (d := d) h, List.flatMap_append]; simp
theorem flat_len {α β : Type} (f : α → List β) (m : Nat) : ∀ {l : List α}, (∀ x ∈ l, (f x).length ≤ m) → (l.flatMap f).length ≤ m * l.length
  | [], _ => by simp
  | x :: l, h => by
    have h1 := h x (by simp)
    have h2 := flat_len f m (l := l) (fun y hy => h y (by simp [hy]))
    simp only [List.flatMap_cons, List.length_append, List.length_cons, Nat.mul_add]
    omega
theorem encE_len {x : En} (h : x.1.size ≤ 1000 ∧ x.2.1.size ≤ 1000) : (encE x).length ≤ 2002 := by
  simp only [encE, List.length_append, txt_length]; omega
theorem encB_len {x : Br} (h : x.1.size ≤ 1000) : (encB x).length ≤ 1003 := by
  simp only [encB, List.length_append, txt_length, List.length_cons, List.length_nil]; omega

theorem tabEnc_ok {Z : Glob} : tabEnc.Ok P Z := Tab.Ok.cons may_ok.sum (Tab.Ok.cons fits_ok.sum (Tab.Ok.cons (enc1_ok.sum mEnc1) Tab.Ok.nil))

theorem encode_ok {Z : Glob} : FnOk P Z 31 [tNode] [tStr, tInt] (fun ((_, es, bs, ()), ()) => [smallE es, smallB bs]) (fun ((l, es, bs, ()), ()) => (encS l es bs, encN l es bs, ())) := by
  refine fnOk_of_safe Try.func31 (by kernel_rfl) (by kernel_rfl) ?_
  rintro ⟨⟨(l : Bool), (es : List En), (bs : List Br), ⟨⟩⟩, ⟨⟩⟩ _ ⟨(he : smallE es), (hb : smallB bs), _⟩ X hX hz
  have he1 := he.1
  have hb1 := hb.1
  show Safe P 31 X (Ends [tStr, tInt] (encS l es bs, encN l es bs, ())) _
  have second : encS l es bs = bytesStr (encZ l es bs) → encN l es bs = 0 → ∀ (n k : Nat), k + n = bs.length → Safe P 31 X (Ends [tStr, tInt] (encS l es bs, encN l es bs, ())) (cEnc2 bs (encH l ++ es.flatMap encE ++ (bs.take k).flatMap encB) (k : Int)) := by
    intro hS hN n
    induction n with
    | zero =>
      intro k hk
      refine go hz hX tabEnc_ok Try.func31 (loopEnc2 bs _ k) ⟨fun h => absurd (of_decide_eq_true h) (by omega), fun h => ?_⟩
      rw [List.take_of_length_le (by omega), hS, hN]
      exact ends_si
    | succ n ih =>
      intro k hk
      have hsz := small_getB hb k
      have hl1 : (es.flatMap encE).length ≤ 2002 * es.length := flat_len encE 2002 (fun x hx => encE_len (he.2 x hx))
      have hl2 : ((bs.take k).flatMap encB).length ≤ 1003 * (bs.take k).length := flat_len encB 1003 (fun x hx => encB_len (hb.2 x (List.mem_of_mem_take hx)))
      have hl3 : (bs.take k).length ≤ 1000 := by rw [List.length_take]; omega
      have hl : (encH l ++ es.flatMap encE ++ (bs.take k).flatMap encB).length ≤ 4000000 := by
        simp only [List.length_append, encH, List.length_singleton]; omega
      refine go hz hX tabEnc_ok Try.func31 (loopEnc2 bs _ k) ?_
      simp only [Int.toNat_natCast]
      refine ⟨fun h => ⟨by omega, by omega, trivial, trivial, by omega, ?_, by decide, ?_, ⟨by omega, by omega⟩, ?_⟩, fun h => absurd (of_decide_eq_false h) (by omega)⟩
      · show (bs.getD k dB).1.size ≤ 1000000
        omega
      · rw [List.length_append, txt_length]
        show _ + ((bs.getD k dB).1.size + 1) + 2 ≤ _
        omega
      · have := ih (k + 1) (by omega)
        rw [← flat_snoc (d := dB) encB (by omega), ← List.append_assoc] at this
        rw [List.append_assoc (encH l ++ es.flatMap encE ++ (bs.take k).flatMap encB)]
        exact this
  have first : encS l es bs = bytesStr (encZ l es bs) → encN l es bs = 0 → ∀ (n k : Nat), k + n = es.length → Safe P 31 X (Ends [tStr, tInt] (encS l es bs, encN l es bs, ())) (cEnc1 l es bs (encH l ++ (es.take k).flatMap encE) (k : Int)) := by
    intro hS hN n
    induction n with
    | zero =>
      intro k hk
      refine go hz hX tabEnc_ok Try.func31 (loopEnc1 l es bs _ k) ⟨fun h => absurd (of_decide_eq_true h) (by omega), fun h => ?_⟩
      rw [List.take_of_length_le (by omega)]
      have := second hS hN bs.length 0 (by omega)
      simp only [List.take_zero, List.flatMap_nil, List.append_nil] at this
      exact this
    | succ n ih =>
      intro k hk
      obtain ⟨hs1, hs2⟩ := small_getE he k
      have hl2 : ((es.take k).flatMap encE).length ≤ 2002 * (es.take k).length := flat_len encE 2002 (fun x hx => encE_len (he.2 x (List.mem_of_mem_take hx)))
      have hl3 : (es.take k).length ≤ 1000 := by rw [List.length_take]; omega
      have hl : (encH l ++ (es.take k).flatMap encE).length ≤ 4000000 := by
        simp only [List.length_append, encH, List.length_singleton]; omega
      refine go hz hX tabEnc_ok Try.func31 (loopEnc1 l es bs _ k) ?_
      simp only [Int.toNat_natCast]
      refine ⟨fun h => ⟨by omega, by omega, trivial, trivial, by omega, ?_, trivial, trivial, ?_, ?_, ⟨by omega, by omega⟩, ?_⟩, fun h => absurd (of_decide_eq_false h) (by omega)⟩
      · show (es.getD k dE).1.size ≤ 1000000
        omega
      · rw [List.length_append, txt_length]
        show _ + ((es.getD k dE).1.size + 1) ≤ _
        omega
      · show (es.getD k dE).2.1.size ≤ 1000000
        omega
      · have := ih (k + 1) (by omega)
        rw [← flat_snoc (d := dE) encE (by omega), ← List.append_assoc] at this
        rw [List.append_assoc (encH l ++ (es.take k).flatMap encE)]
        exact this
  refine go hz hX tabEnc_ok Try.func31 (treeEnc l es bs) ⟨fun h => ?_, fun h => ⟨he, hb, fun h2 => ?_, fun h2 => ?_⟩⟩
  · have h : mayN l es bs = false := by simpa using h
    have e1 : encS l es bs = ByteArray.empty := by simp [encS, encOk, h]
    have e2 : encN l es bs = 4 := by simp [encN, h]
    rw [e1, e2]; exact ends_si
  · have h : mayN l es bs = true := by simpa using h
    have h2 : ¬ sizeN es bs ≤ 254 := by simpa using h2
    have e1 : encS l es bs = ByteArray.empty := by simp [encS, encOk, h, h2]
    have e2 : encN l es bs = 40 := by simp [encN, h, h2]
    rw [e1, e2]; exact ends_si
  · have h : mayN l es bs = true := by simpa using h
    have h2 : sizeN es bs ≤ 254 := by simpa using h2
    have e1 : encS l es bs = bytesStr (encZ l es bs) := by simp [encS, encOk, h, h2]
    have e2 : encN l es bs = 0 := by simp [encN, h, h2]
    have st : Safe P 31 X (Ends [tStr, tInt] (encS l es bs, encN l es bs, ())) (cEnc0 l es bs (encH l)) := by
      refine go hz hX tabEnc_ok Try.func31 (stopEnc l es bs _) ?_
      have := first e1 e2 es.length 0 (by omega)
      simp only [List.take_zero, List.flatMap_nil, List.append_nil] at this
      exact this
    refine ⟨fun h3 => ⟨by decide, by decide, ?_⟩, fun h3 => ?_⟩
    · subst h3; exact st
    · subst h3; exact st
end Lf
