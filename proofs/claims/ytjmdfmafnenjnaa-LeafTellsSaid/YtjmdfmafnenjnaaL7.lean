import Derived.Test.YtjmdfmafnenjnaaL6
namespace Lf
open Go Go.Sx Go.Proofs
/-! ### equality -/
def nsEq : List (Nat × Norm) := [(4, ⟨[], [0, 1, 12, 13], 0, []⟩)]
noncomputable def cEqE (a b : List En) (i : Int) : Cfg := ⟨sl 26 [(0, .s (.ro (.typ cE a))), (1, .s (.ro (.typ cE b))), (12, .s (.int .i64 (a.length : Int))), (13, .s (.int .i64 i))], [], hd Try.f96 4⟩
noncomputable def cEqB (a b : List Br) (i : Int) : Cfg := ⟨sl 26 [(0, .s (.ro (.typ cB a))), (1, .s (.ro (.typ cB b))), (12, .s (.int .i64 (a.length : Int))), (13, .s (.int .i64 i))], [], hd Try.f97 4⟩
theorem treeEqE (a b : List En) : run P tab0.sum Try.f96 nsEq (start Try.f96 [.s (.ro (.typ cE a)), .s (.ro (.typ cE b))] []) =
  Tree.ite ((↑a.length : Int) != (↑b.length : Int)) (Tree.ret [] (AV.s (SV.blit false))) (Tree.at (Cfg.mk (sl (26 : Nat) [((0 : Nat), AV.s (SV.ro (Con.typ [CK.str, CK.str] a))), ((1 : Nat), AV.s (SV.ro (Con.typ [CK.str, CK.str] b))), ((12 : Nat), AV.s (SV.int IntKind.i64 (↑a.length : Int))), ((13 : Nat), AV.s (SV.int IntKind.i64 (0 : Int)))]) [] (hd Try.f96 (4 : Nat)))) := by kernel_rfl
theorem loopEqE (a b : List En) (i : Int) : run P tab0.sum Try.f96 nsEq (cEqE a b i) =
  Tree.ite (decide (i < (↑a.length : Int))) (Tree.need ((0 : Int) ≤ i) (Tree.need (i < (↑a.length : Int)) (Tree.need ((0 : Int) ≤ i) (Tree.need (i < (↑b.length : Int)) (Tree.ite (!(decide ((a.getD i.toNat (CL.d [CK.str, CK.str])).fst = (b.getD i.toNat (CL.d [CK.str, CK.str])).fst) && (decide ((a.getD i.toNat (CL.d [CK.str, CK.str])).snd.fst = (b.getD i.toNat (CL.d [CK.str, CK.str])).snd.fst) && true))) (Tree.ret [] (AV.s (SV.blit false))) (Tree.need (inI64 (i + (1 : Int))) (Tree.at (Cfg.mk (sl (26 : Nat) [((0 : Nat), AV.s (SV.ro (Con.typ [CK.str, CK.str] a))), ((1 : Nat), AV.s (SV.ro (Con.typ [CK.str, CK.str] b))), ((12 : Nat), AV.s (SV.int IntKind.i64 (↑a.length : Int))), ((13 : Nat), AV.s (SV.int IntKind.i64 (i + (1 : Int))))]) [] (hd Try.f96 (4 : Nat)))))))))) (Tree.ret [] (AV.s (SV.blit true))) := by kernel_rfl
theorem treeEqB (a b : List Br) : run P tab0.sum Try.f97 nsEq (start Try.f97 [.s (.ro (.typ cB a)), .s (.ro (.typ cB b))] []) =
  Tree.ite ((↑a.length : Int) != (↑b.length : Int)) (Tree.ret [] (AV.s (SV.blit false))) (Tree.at (Cfg.mk (sl (26 : Nat) [((0 : Nat), AV.s (SV.ro (Con.typ [CK.str, CK.int IntKind.i64] a))), ((1 : Nat), AV.s (SV.ro (Con.typ [CK.str, CK.int IntKind.i64] b))), ((12 : Nat), AV.s (SV.int IntKind.i64 (↑a.length : Int))), ((13 : Nat), AV.s (SV.int IntKind.i64 (0 : Int)))]) [] (hd Try.f97 (4 : Nat)))) := by kernel_rfl
theorem loopEqB (a b : List Br) (i : Int) : run P tab0.sum Try.f97 nsEq (cEqB a b i) =
  Tree.ite (decide (i < (↑a.length : Int))) (Tree.need ((0 : Int) ≤ i) (Tree.need (i < (↑a.length : Int)) (Tree.need ((0 : Int) ≤ i) (Tree.need (i < (↑b.length : Int)) (Tree.ite (!(decide ((a.getD i.toNat (CL.d [CK.str, CK.int IntKind.i64])).fst = (b.getD i.toNat (CL.d [CK.str, CK.int IntKind.i64])).fst) && ((a.getD i.toNat (CL.d [CK.str, CK.int IntKind.i64])).snd.fst == (b.getD i.toNat (CL.d [CK.str, CK.int IntKind.i64])).snd.fst && true))) (Tree.ret [] (AV.s (SV.blit false))) (Tree.need (inI64 (i + (1 : Int))) (Tree.at (Cfg.mk (sl (26 : Nat) [((0 : Nat), AV.s (SV.ro (Con.typ [CK.str, CK.int IntKind.i64] a))), ((1 : Nat), AV.s (SV.ro (Con.typ [CK.str, CK.int IntKind.i64] b))), ((12 : Nat), AV.s (SV.int IntKind.i64 (↑a.length : Int))), ((13 : Nat), AV.s (SV.int IntKind.i64 (i + (1 : Int))))]) [] (hd Try.f97 (4 : Nat)))))))))) (Tree.ret [] (AV.s (SV.blit true))) := by kernel_rfl
def eqEs (a b : List En) : Bool := decide (a = b)
def eqBs (a b : List Br) : Bool := decide (a = b)
abbrev sEqE := sumOf [tEs, tEs] [tBool] (fun _ => []) (fun (a, b, ()) => (eqEs a b, ()))
abbrev sEqB := sumOf [tBs, tBs] [tBool] (fun _ => []) (fun (a, b, ()) => (eqBs a b, ()))
def tabSame : Tab := [(96, sEqE), (97, sEqB)]
theorem treeSame (l l' : Bool) (a b : List En) (c d : List Br) : run P tabSame.sum Try.f33 [] (start Try.f33 [avN l a c, avN l' b d] []) =
  Tree.ite (l == l') (Tree.ite (eqEs a b) (Tree.ret [AObj.own [AV.s (SV.bool l), AV.s (SV.ro (Con.typ [CK.str, CK.str] a)), AV.s (SV.ro (Con.typ [CK.str, CK.int IntKind.i64] c))] (31 : Nat), AObj.own [AV.s (SV.bool l'), AV.s (SV.ro (Con.typ [CK.str, CK.str] b)), AV.s (SV.ro (Con.typ [CK.str, CK.int IntKind.i64] d))] (31 : Nat)] (AV.s (SV.bool (eqBs c d)))) (Tree.ret [AObj.own [AV.s (SV.bool l), AV.s (SV.ro (Con.typ [CK.str, CK.str] a)), AV.s (SV.ro (Con.typ [CK.str, CK.int IntKind.i64] c))] (31 : Nat), AObj.own [AV.s (SV.bool l'), AV.s (SV.ro (Con.typ [CK.str, CK.str] b)), AV.s (SV.ro (Con.typ [CK.str, CK.int IntKind.i64] d))] (31 : Nat)] (AV.s (SV.blit false)))) (Tree.ret [AObj.own [AV.s (SV.bool l), AV.s (SV.ro (Con.typ [CK.str, CK.str] a)), AV.s (SV.ro (Con.typ [CK.str, CK.int IntKind.i64] c))] (31 : Nat), AObj.own [AV.s (SV.bool l'), AV.s (SV.ro (Con.typ [CK.str, CK.str] b)), AV.s (SV.ro (Con.typ [CK.str, CK.int IntKind.i64] d))] (31 : Nat)] (AV.s (SV.blit false))) := by kernel_rfl

/-! ### Decode's closures -/
def tkT (k : Int) (s : ByteArray) : ByteArray := if k > (s.size : Int) then ByteArray.empty else s.extract 0 k.toNat
def tkB (k : Int) (s : ByteArray) : Bool := !decide (k > (s.size : Int))
def tkR (k : Int) (s : ByteArray) : ByteArray := if k > (s.size : Int) then s else s.extract k.toNat s.size
def specTake : Spec (Int × ByteArray) := ⟨fun x => [.s (.int .i64 x.1), .ptr 0 0], fun x => [.own [.s (.str x.2)] 9], fun x => [0 ≤ x.1], fun x => [.own [.s (.str (tkR x.1 x.2))] 9], fun x => .tup [.s (.str (tkT x.1 x.2)), .s (.bool (tkB x.1 x.2))]⟩
def mTake : List AV → RM ((Int × ByteArray) × List Nat)
  | [.s (.int .i64 k), .ptr id 0] => .look id fun
    | some (.own [.s (.str s)] _) => .ret ((k, s), [id])
    | _ => .fail "take: no text"
  | [.s (.ilit .i64 k), .ptr id 0] => .look id fun
    | some (.own [.s (.str s)] _) => .ret ((k, s), [id])
    | _ => .fail "take: no text"
  | _ => .fail "take"
theorem treeTake (k : Int) (s : ByteArray) : run P tab0.sum Try.f94 [] (start Try.f94 [.s (.int .i64 k), .ptr 0 0] [.own [.s (.str s)] 9]) =
  Tree.ite (decide (k > (↑s.size : Int))) (Tree.ret [AObj.own [AV.s (SV.str s)] (9 : Nat)] (AV.tup [AV.s (SV.str ByteArray.empty), AV.s (SV.blit false)])) (Tree.need ((0 : Int) ≤ (0 : Int)) (Tree.need ((0 : Int) ≤ k) (Tree.need (k ≤ (↑s.size : Int)) (Tree.need ((0 : Int) ≤ k) (Tree.need (k ≤ (↑s.size : Int)) (Tree.need ((↑s.size : Int) ≤ (↑s.size : Int)) (Tree.ret [AObj.own [AV.s (SV.str (s.extract k.toNat (↑s.size : Int).toNat))] (9 : Nat)] (AV.tup [AV.s (SV.str (s.extract (Int.toNat (0 : Int)) k.toNat)), AV.s (SV.blit true)])))))))) := by kernel_rfl
def rdK (s : ByteArray) : Int := byteAt (tkT 1 s) 0
def rdT (s : ByteArray) : ByteArray := if tkB 1 s = true then tkT (rdK s) (tkR 1 s) else ByteArray.empty
def rdB (s : ByteArray) : Bool := tkB 1 s && tkB (rdK s) (tkR 1 s)
def rdR (s : ByteArray) : ByteArray := if tkB 1 s = true then tkR (rdK s) (tkR 1 s) else tkR 1 s
def specText : Spec ByteArray := ⟨fun _ => [.ptr 0 0], fun s => [.own [.fn 94 [.ptr 1 0]] 150, .own [.s (.str s)] 9], fun _ => [], fun s => [.own [.fn 94 [.ptr 1 0]] 150, .own [.s (.str (rdR s))] 9], fun s => .tup [.s (.str (rdT s)), .s (.bool (rdB s))]⟩
def mText : List AV → RM (ByteArray × List Nat)
  | [.ptr id 0] => .look id fun
    | some (.own [.fn _ [.ptr j 0]] _) => .look j fun
      | some (.own [.s (.str s)] _) => .ret (s, [id, j])
      | _ => .fail "text: no text"
    | _ => .fail "text: no take"
  | _ => .fail "text"
def tabText : Tab := [(94, sumS specTake mTake)]
theorem treeText (s : ByteArray) : run P tabText.sum Try.f95 [] (start Try.f95 [.ptr 0 0] [.own [.fn 94 [.ptr 1 0]] 150, .own [.s (.str s)] 9]) =
  Tree.need (some [AV.s (SV.int IntKind.i64 (1 : Int)), AV.ptr (0 : Nat) (0 : Nat)] = some [AV.s (SV.int IntKind.i64 (1 : Int)), AV.ptr (0 : Nat) (0 : Nat)]) (Tree.need (some [AObj.own [AV.s (SV.str s)] (9 : Nat)] = some [AObj.own [AV.s (SV.str s)] (9 : Nat)]) (Tree.need ((0 : Int) ≤ (1 : Int)) (Tree.ite (!tkB (1 : Int) s) (Tree.ret [AObj.own [AV.fn (94 : Nat) [AV.ptr (1 : Nat) (0 : Nat)]] (150 : Nat), AObj.own [AV.s (SV.str (tkR (1 : Int) s))] (9 : Nat)] (AV.tup [AV.s (SV.str ByteArray.empty), AV.s (SV.blit false)])) (Tree.need ((0 : Int) ≤ (0 : Int)) (Tree.need ((0 : Int) < (↑(tkT (1 : Int) s).size : Int)) (Tree.need (inI64 (byteAt (tkT (1 : Int) s) (Int.toNat (0 : Int)))) (Tree.need (some [AV.s (SV.int IntKind.i64 (byteAt (tkT (1 : Int) s) (Int.toNat (0 : Int)))), AV.ptr (0 : Nat) (0 : Nat)] = some [AV.s (SV.int IntKind.i64 (byteAt (tkT (1 : Int) s) (Int.toNat (0 : Int)))), AV.ptr (0 : Nat) (0 : Nat)]) (Tree.need (some [AObj.own [AV.s (SV.str (tkR (1 : Int) s))] (9 : Nat)] = some [AObj.own [AV.s (SV.str (tkR (1 : Int) s))] (9 : Nat)]) (Tree.need ((0 : Int) ≤ byteAt (tkT (1 : Int) s) (Int.toNat (0 : Int))) (Tree.ret [AObj.own [AV.fn (94 : Nat) [AV.ptr (1 : Nat) (0 : Nat)]] (150 : Nat), AObj.own [AV.s (SV.str (tkR (byteAt (tkT (1 : Int) s) (Int.toNat (0 : Int))) (tkR (1 : Int) s)))] (9 : Nat)] (AV.tup [AV.s (SV.str (tkT (byteAt (tkT (1 : Int) s) (Int.toNat (0 : Int))) (tkR (1 : Int) s))), AV.s (SV.bool (tkB (byteAt (tkT (1 : Int) s) (Int.toNat (0 : Int))) (tkR (1 : Int) s)))]))))))))))) := by kernel_rfl
def tabDec : Tab := [(94, sumS specTake mTake), (95, sumS specText mText), (25, sMay)]
def nsDec : List (Nat × Norm) := [(7, ⟨[], [1, 2], 0, []⟩), (11, ⟨[], [1, 2, 4, 5, 6], 0, [(2, 1, false, .typ cE [], eE), (2, 2, false, .typ cB [], eB)]⟩), (22, ⟨[], [1, 2, 4, 5, 6, 8], 0, []⟩)]
def obZ : AObj := .own [.s (.bool false), .emp, .emp] 31
noncomputable def cDec0 (s : ByteArray) : Cfg := ⟨sl 93 [(1, .ptr 0 0), (2, .ptr 1 0)], [.own [.s (.str s)] 9, obZ], hr Try.f32 7⟩
noncomputable def cDec (s : ByteArray) (l : Bool) (es : List En) (bs : List Br) : Cfg := ⟨sl 93 [(1, .ptr 0 0), (2, .ptr 1 0), (4, .ptr 2 0), (5, .ptr 3 0), (6, .fn 95 [.ptr 3 0])], [.own [.s (.str s)] 9, obZ, .own [.s (.bool l), .vec 4, .vec 5] 31, .own [.fn 94 [.ptr 0 0]] 150, .vec (.typ cE es) eE, .vec (.typ cB bs) eB], hd Try.f32 11⟩
noncomputable def cDec1 (s : ByteArray) (l : Bool) (es : List En) (bs : List Br) (is : Bool) : Cfg := ⟨sl 93 [(1, .ptr 0 0), (2, .ptr 1 0), (4, .ptr 2 0), (5, .ptr 3 0), (6, .fn 95 [.ptr 3 0]), (8, .s (.bool is))], [.own [.s (.str s)] 9, obZ, .own [.s (.bool l), .vec 4, .vec 5] 31, .own [.fn 94 [.ptr 0 0]] 150, .vec (.typ cE es) eE, .vec (.typ cB bs) eB], hr Try.f32 22⟩
theorem treeDec (s : ByteArray) : run P tabDec.sum Try.f32 nsDec (start Try.f32 [.s (.str s)] []) =
  Tree.ite (decide ((↑s.size : Int) > (254 : Int))) (Tree.ret [AObj.own [AV.s (SV.str s)] (9 : Nat), AObj.own [AV.s (SV.blit false), AV.emp, AV.emp] (31 : Nat)] (AV.tup [AV.agg [AV.s (SV.blit false), AV.emp, AV.emp], AV.s (SV.ilit IntKind.i64 (40 : Int))])) (Tree.ite (decide (s = ByteArray.empty)) (Tree.ret [AObj.own [AV.s (SV.str s)] (9 : Nat), AObj.own [AV.s (SV.blit false), AV.emp, AV.emp] (31 : Nat)] (AV.tup [AV.agg [AV.s (SV.blit false), AV.emp, AV.emp], AV.s (SV.ilit IntKind.i64 (8 : Int))])) (Tree.need ((0 : Int) ≤ (0 : Int)) (Tree.need ((0 : Int) < (↑s.size : Int)) (Tree.ite (byteAt s (Int.toNat (0 : Int)) != (1 : Int)) (Tree.need ((0 : Int) ≤ (0 : Int)) (Tree.need ((0 : Int) < (↑s.size : Int)) (Tree.ite (byteAt s (Int.toNat (0 : Int)) != (2 : Int)) (Tree.ret [AObj.own [AV.s (SV.str s)] (9 : Nat), AObj.own [AV.s (SV.blit false), AV.emp, AV.emp] (31 : Nat)] (AV.tup [AV.agg [AV.s (SV.blit false), AV.emp, AV.emp], AV.s (SV.ilit IntKind.i64 (4 : Int))])) (Tree.at (Cfg.mk (sl (93 : Nat) [((1 : Nat), AV.ptr (0 : Nat) (0 : Nat)), ((2 : Nat), AV.ptr (1 : Nat) (0 : Nat))]) [AObj.own [AV.s (SV.str s)] (9 : Nat), AObj.own [AV.s (SV.bool false), AV.emp, AV.emp] (31 : Nat)] (hr Try.f32 (7 : Nat))))))) (Tree.at (Cfg.mk (sl (93 : Nat) [((1 : Nat), AV.ptr (0 : Nat) (0 : Nat)), ((2 : Nat), AV.ptr (1 : Nat) (0 : Nat))]) [AObj.own [AV.s (SV.str s)] (9 : Nat), AObj.own [AV.s (SV.bool false), AV.emp, AV.emp] (31 : Nat)] (hr Try.f32 (7 : Nat)))))))) := by kernel_rfl
theorem stopDec0 (s : ByteArray) : run P tabDec.sum Try.f32 nsDec (cDec0 s) =
  Tree.need ((0 : Int) ≤ (0 : Int)) (Tree.need ((0 : Int) < (↑s.size : Int)) (Tree.need ((0 : Int) ≤ (1 : Int)) (Tree.need ((1 : Int) ≤ (↑s.size : Int)) (Tree.need ((↑s.size : Int) ≤ (↑s.size : Int)) (Tree.at (Cfg.mk (sl (93 : Nat) [((1 : Nat), AV.ptr (0 : Nat) (0 : Nat)), ((2 : Nat), AV.ptr (1 : Nat) (0 : Nat)), ((4 : Nat), AV.ptr (2 : Nat) (0 : Nat)), ((5 : Nat), AV.ptr (3 : Nat) (0 : Nat)), ((6 : Nat), AV.fn (95 : Nat) [AV.ptr (3 : Nat) (0 : Nat)])]) [AObj.own [AV.s (SV.str (s.extract (Int.toNat (1 : Int)) (↑s.size : Int).toNat))] (9 : Nat), AObj.own [AV.s (SV.bool false), AV.emp, AV.emp] (31 : Nat), AObj.own [AV.s (SV.bool (byteAt s (Int.toNat (0 : Int)) == (1 : Int))), AV.vec (4 : Nat), AV.vec (5 : Nat)] (31 : Nat), AObj.own [AV.fn (94 : Nat) [AV.ptr (0 : Nat) (0 : Nat)]] (150 : Nat), AObj.vec (Con.typ [CK.str, CK.str] []) (59 : Nat), AObj.vec (Con.typ [CK.str, CK.int IntKind.i64] []) (36 : Nat)] (hd Try.f32 (11 : Nat)))))))) := by kernel_rfl
theorem loopDec (s : ByteArray) (l : Bool) (es : List En) (bs : List Br) : run P tabDec.sum Try.f32 nsDec (cDec s l es bs) =
  Tree.ite (!decide (s = ByteArray.empty))
  (Tree.need (some [AV.ptr (0 : Nat) (0 : Nat)] = some [AV.ptr (0 : Nat) (0 : Nat)])
    (Tree.need (some [AObj.own [AV.fn (94 : Nat) [AV.ptr (1 : Nat) (0 : Nat)]] (150 : Nat), AObj.own [AV.s (SV.str s)] (9 : Nat)] = some [AObj.own [AV.fn (94 : Nat) [AV.ptr (1 : Nat) (0 : Nat)]] (150 : Nat), AObj.own [AV.s (SV.str s)] (9 : Nat)])
      (Tree.ite l
        (Tree.ite (rdB s) (Tree.need (some [AV.ptr (0 : Nat) (0 : Nat)] = some [AV.ptr (0 : Nat) (0 : Nat)]) (Tree.need (some [AObj.own [AV.fn (94 : Nat) [AV.ptr (1 : Nat) (0 : Nat)]] (150 : Nat), AObj.own [AV.s (SV.str (rdR s))] (9 : Nat)] = some [AObj.own [AV.fn (94 : Nat) [AV.ptr (1 : Nat) (0 : Nat)]] (150 : Nat), AObj.own [AV.s (SV.str (rdR s))] (9 : Nat)]) (Tree.need (es.length + (1 : Nat) ≤ (4294967296 : Nat)) (Tree.at (Cfg.mk (sl (93 : Nat) [((1 : Nat), AV.ptr (0 : Nat) (0 : Nat)), ((2 : Nat), AV.ptr (1 : Nat) (0 : Nat)), ((4 : Nat), AV.ptr (2 : Nat) (0 : Nat)), ((5 : Nat), AV.ptr (3 : Nat) (0 : Nat)), ((6 : Nat), AV.fn (95 : Nat) [AV.ptr (3 : Nat) (0 : Nat)]), ((8 : Nat), AV.s (SV.bool (rdB (rdR s))))]) [AObj.own [AV.s (SV.str (rdR (rdR s)))] (9 : Nat), AObj.own [AV.s (SV.bool false), AV.emp, AV.emp] (31 : Nat), AObj.own [AV.s (SV.bool l), AV.vec (4 : Nat), AV.vec (5 : Nat)] (31 : Nat), AObj.own [AV.fn (94 : Nat) [AV.ptr (0 : Nat) (0 : Nat)]] (150 : Nat), AObj.vec (Con.typ [CK.str, CK.str] (es ++ [(rdT s, rdT (rdR s), ())])) (59 : Nat), AObj.vec (Con.typ [CK.str, CK.int IntKind.i64] bs) (36 : Nat)] (hr Try.f32 (22 : Nat)))))))
          (Tree.ite (rdB s) (Tree.need (some [AV.s (SV.int IntKind.i64 (2 : Int)), AV.ptr (0 : Nat) (0 : Nat)] = some [AV.s (SV.int IntKind.i64 (2 : Int)), AV.ptr (0 : Nat) (0 : Nat)]) (Tree.need (some [AObj.own [AV.s (SV.str (rdR s))] (9 : Nat)] = some [AObj.own [AV.s (SV.str (rdR s))] (9 : Nat)]) (Tree.need ((0 : Int) ≤ (2 : Int)) (Tree.ite (tkB (2 : Int) (rdR s)) (Tree.need ((0 : Int) ≤ (0 : Int)) (Tree.need ((0 : Int) < (↑(tkT (2 : Int) (rdR s)).size : Int)) (Tree.need (inI64 (byteAt (tkT (2 : Int) (rdR s)) (Int.toNat (0 : Int)))) (Tree.need ((0 : Int) ≤ (8 : Int)) (Tree.need ((0 : Int) ≤ (1 : Int)) (Tree.need ((1 : Int) < (↑(tkT (2 : Int) (rdR s)).size : Int)) (Tree.need (inI64 (byteAt (tkT (2 : Int) (rdR s)) (Int.toNat (1 : Int)))) (Tree.need (bs.length + (1 : Nat) ≤ (4294967296 : Nat)) (Tree.at (Cfg.mk (sl (93 : Nat) [((1 : Nat), AV.ptr (0 : Nat) (0 : Nat)), ((2 : Nat), AV.ptr (1 : Nat) (0 : Nat)), ((4 : Nat), AV.ptr (2 : Nat) (0 : Nat)), ((5 : Nat), AV.ptr (3 : Nat) (0 : Nat)), ((6 : Nat), AV.fn (95 : Nat) [AV.ptr (3 : Nat) (0 : Nat)]), ((8 : Nat), AV.s (SV.bool (tkB (2 : Int) (rdR s))))]) [AObj.own [AV.s (SV.str (tkR (2 : Int) (rdR s)))] (9 : Nat), AObj.own [AV.s (SV.bool false), AV.emp, AV.emp] (31 : Nat), AObj.own [AV.s (SV.bool l), AV.vec (4 : Nat), AV.vec (5 : Nat)] (31 : Nat), AObj.own [AV.fn (94 : Nat) [AV.ptr (0 : Nat) (0 : Nat)]] (150 : Nat), AObj.vec (Con.typ [CK.str, CK.str] es) (59 : Nat), AObj.vec (Con.typ [CK.str, CK.int IntKind.i64] (bs ++ [(rdT s, bitop BinOp.or IntKind.i64 (IntKind.i64.wrap (byteAt (tkT (2 : Int) (rdR s)) (Int.toNat (0 : Int)) * (2 : Int) ^ min (Int.toNat (8 : Int)) IntKind.i64.bits)) (byteAt (tkT (2 : Int) (rdR s)) (Int.toNat (1 : Int))), ())])) (36 : Nat)] (hr Try.f32 (22 : Nat)))))))))))) (Tree.at (Cfg.mk (sl (93 : Nat) [((1 : Nat), AV.ptr (0 : Nat) (0 : Nat)), ((2 : Nat), AV.ptr (1 : Nat) (0 : Nat)), ((4 : Nat), AV.ptr (2 : Nat) (0 : Nat)), ((5 : Nat), AV.ptr (3 : Nat) (0 : Nat)), ((6 : Nat), AV.fn (95 : Nat) [AV.ptr (3 : Nat) (0 : Nat)]), ((8 : Nat), AV.s (SV.bool (tkB (2 : Int) (rdR s))))]) [AObj.own [AV.s (SV.str (tkR (2 : Int) (rdR s)))] (9 : Nat), AObj.own [AV.s (SV.bool false), AV.emp, AV.emp] (31 : Nat), AObj.own [AV.s (SV.bool l), AV.vec (4 : Nat), AV.vec (5 : Nat)] (31 : Nat), AObj.own [AV.fn (94 : Nat) [AV.ptr (0 : Nat) (0 : Nat)]] (150 : Nat), AObj.vec (Con.typ [CK.str, CK.str] es) (59 : Nat), AObj.vec (Con.typ [CK.str, CK.int IntKind.i64] bs) (36 : Nat)] (hr Try.f32 (22 : Nat)))))))) (Tree.at (Cfg.mk (sl (93 : Nat) [((1 : Nat), AV.ptr (0 : Nat) (0 : Nat)), ((2 : Nat), AV.ptr (1 : Nat) (0 : Nat)), ((4 : Nat), AV.ptr (2 : Nat) (0 : Nat)), ((5 : Nat), AV.ptr (3 : Nat) (0 : Nat)), ((6 : Nat), AV.fn (95 : Nat) [AV.ptr (3 : Nat) (0 : Nat)]), ((8 : Nat), AV.s (SV.bool (rdB s)))]) [AObj.own [AV.s (SV.str (rdR s))] (9 : Nat), AObj.own [AV.s (SV.bool false), AV.emp, AV.emp] (31 : Nat), AObj.own [AV.s (SV.bool l), AV.vec (4 : Nat), AV.vec (5 : Nat)] (31 : Nat), AObj.own [AV.fn (94 : Nat) [AV.ptr (0 : Nat) (0 : Nat)]] (150 : Nat), AObj.vec (Con.typ [CK.str, CK.str] es) (59 : Nat), AObj.vec (Con.typ [CK.str, CK.int IntKind.i64] bs) (36 : Nat)] (hr Try.f32 (22 : Nat))))))
        (Tree.ite (rdB s) (Tree.need (some [AV.s (SV.int IntKind.i64 (2 : Int)), AV.ptr (0 : Nat) (0 : Nat)] = some [AV.s (SV.int IntKind.i64 (2 : Int)), AV.ptr (0 : Nat) (0 : Nat)]) (Tree.need (some [AObj.own [AV.s (SV.str (rdR s))] (9 : Nat)] = some [AObj.own [AV.s (SV.str (rdR s))] (9 : Nat)]) (Tree.need ((0 : Int) ≤ (2 : Int)) (Tree.ite (tkB (2 : Int) (rdR s)) (Tree.need ((0 : Int) ≤ (0 : Int)) (Tree.need ((0 : Int) < (↑(tkT (2 : Int) (rdR s)).size : Int)) (Tree.need (inI64 (byteAt (tkT (2 : Int) (rdR s)) (Int.toNat (0 : Int)))) (Tree.need ((0 : Int) ≤ (8 : Int)) (Tree.need ((0 : Int) ≤ (1 : Int)) (Tree.need ((1 : Int) < (↑(tkT (2 : Int) (rdR s)).size : Int)) (Tree.need (inI64 (byteAt (tkT (2 : Int) (rdR s)) (Int.toNat (1 : Int)))) (Tree.need (bs.length + (1 : Nat) ≤ (4294967296 : Nat)) (Tree.at (Cfg.mk (sl (93 : Nat) [((1 : Nat), AV.ptr (0 : Nat) (0 : Nat)), ((2 : Nat), AV.ptr (1 : Nat) (0 : Nat)), ((4 : Nat), AV.ptr (2 : Nat) (0 : Nat)), ((5 : Nat), AV.ptr (3 : Nat) (0 : Nat)), ((6 : Nat), AV.fn (95 : Nat) [AV.ptr (3 : Nat) (0 : Nat)]), ((8 : Nat), AV.s (SV.bool (tkB (2 : Int) (rdR s))))]) [AObj.own [AV.s (SV.str (tkR (2 : Int) (rdR s)))] (9 : Nat), AObj.own [AV.s (SV.bool false), AV.emp, AV.emp] (31 : Nat), AObj.own [AV.s (SV.bool l), AV.vec (4 : Nat), AV.vec (5 : Nat)] (31 : Nat), AObj.own [AV.fn (94 : Nat) [AV.ptr (0 : Nat) (0 : Nat)]] (150 : Nat), AObj.vec (Con.typ [CK.str, CK.str] es) (59 : Nat), AObj.vec (Con.typ [CK.str, CK.int IntKind.i64] (bs ++ [(rdT s, bitop BinOp.or IntKind.i64 (IntKind.i64.wrap (byteAt (tkT (2 : Int) (rdR s)) (Int.toNat (0 : Int)) * (2 : Int) ^ min (Int.toNat (8 : Int)) IntKind.i64.bits)) (byteAt (tkT (2 : Int) (rdR s)) (Int.toNat (1 : Int))), ())])) (36 : Nat)] (hr Try.f32 (22 : Nat)))))))))))) (Tree.at (Cfg.mk (sl (93 : Nat) [((1 : Nat), AV.ptr (0 : Nat) (0 : Nat)), ((2 : Nat), AV.ptr (1 : Nat) (0 : Nat)), ((4 : Nat), AV.ptr (2 : Nat) (0 : Nat)), ((5 : Nat), AV.ptr (3 : Nat) (0 : Nat)), ((6 : Nat), AV.fn (95 : Nat) [AV.ptr (3 : Nat) (0 : Nat)]), ((8 : Nat), AV.s (SV.bool (tkB (2 : Int) (rdR s))))]) [AObj.own [AV.s (SV.str (tkR (2 : Int) (rdR s)))] (9 : Nat), AObj.own [AV.s (SV.bool false), AV.emp, AV.emp] (31 : Nat), AObj.own [AV.s (SV.bool l), AV.vec (4 : Nat), AV.vec (5 : Nat)] (31 : Nat), AObj.own [AV.fn (94 : Nat) [AV.ptr (0 : Nat) (0 : Nat)]] (150 : Nat), AObj.vec (Con.typ [CK.str, CK.str] es) (59 : Nat), AObj.vec (Con.typ [CK.str, CK.int IntKind.i64] bs) (36 : Nat)] (hr Try.f32 (22 : Nat)))))))) (Tree.at (Cfg.mk (sl (93 : Nat) [((1 : Nat), AV.ptr (0 : Nat) (0 : Nat)), ((2 : Nat), AV.ptr (1 : Nat) (0 : Nat)), ((4 : Nat), AV.ptr (2 : Nat) (0 : Nat)), ((5 : Nat), AV.ptr (3 : Nat) (0 : Nat)), ((6 : Nat), AV.fn (95 : Nat) [AV.ptr (3 : Nat) (0 : Nat)]), ((8 : Nat), AV.s (SV.bool (rdB s)))]) [AObj.own [AV.s (SV.str (rdR s))] (9 : Nat), AObj.own [AV.s (SV.bool false), AV.emp, AV.emp] (31 : Nat), AObj.own [AV.s (SV.bool l), AV.vec (4 : Nat), AV.vec (5 : Nat)] (31 : Nat), AObj.own [AV.fn (94 : Nat) [AV.ptr (0 : Nat) (0 : Nat)]] (150 : Nat), AObj.vec (Con.typ [CK.str, CK.str] es) (59 : Nat), AObj.vec (Con.typ [CK.str, CK.int IntKind.i64] bs) (36 : Nat)] (hr Try.f32 (22 : Nat))))))))
  (Tree.ite (!mayN l es bs) (Tree.ret [AObj.own [AV.s (SV.str s)] (9 : Nat), AObj.own [AV.s (SV.blit false), AV.emp, AV.emp] (31 : Nat), AObj.own [AV.s (SV.bool l), AV.vec (4 : Nat), AV.vec (5 : Nat)] (31 : Nat), AObj.own [AV.fn (94 : Nat) [AV.ptr (0 : Nat) (0 : Nat)]] (150 : Nat), AObj.vec (Con.typ [CK.str, CK.str] es) (59 : Nat), AObj.vec (Con.typ [CK.str, CK.int IntKind.i64] bs) (36 : Nat)] (AV.tup [AV.agg [AV.s (SV.blit false), AV.emp, AV.emp], AV.s (SV.ilit IntKind.i64 (4 : Int))])) (Tree.ret [AObj.own [AV.s (SV.str s)] (9 : Nat), AObj.own [AV.s (SV.bool l), AV.vec (4 : Nat), AV.vec (5 : Nat)] (31 : Nat), AObj.own [AV.s (SV.bool l), AV.vec (4 : Nat), AV.vec (5 : Nat)] (31 : Nat), AObj.own [AV.fn (94 : Nat) [AV.ptr (0 : Nat) (0 : Nat)]] (150 : Nat), AObj.vec (Con.typ [CK.str, CK.str] es) (59 : Nat), AObj.vec (Con.typ [CK.str, CK.int IntKind.i64] bs) (36 : Nat)] (AV.tup [AV.agg [AV.s (SV.bool l), AV.vec (4 : Nat), AV.vec (5 : Nat)], AV.s (SV.ilit IntKind.i64 (0 : Int))]))) := by kernel_rfl
theorem stopDec1 (s : ByteArray) (l : Bool) (es : List En) (bs : List Br) (is : Bool) : run P tabDec.sum Try.f32 nsDec (cDec1 s l es bs is) =
  Tree.ite (!is) (Tree.ret [AObj.own [AV.s (SV.str s)] (9 : Nat), AObj.own [AV.s (SV.blit false), AV.emp, AV.emp] (31 : Nat), AObj.own [AV.s (SV.bool l), AV.vec (4 : Nat), AV.vec (5 : Nat)] (31 : Nat), AObj.own [AV.fn (94 : Nat) [AV.ptr (0 : Nat) (0 : Nat)]] (150 : Nat), AObj.vec (Con.typ [CK.str, CK.str] es) (59 : Nat), AObj.vec (Con.typ [CK.str, CK.int IntKind.i64] bs) (36 : Nat)] (AV.tup [AV.agg [AV.s (SV.blit false), AV.emp, AV.emp], AV.s (SV.ilit IntKind.i64 (8 : Int))])) (Tree.at (Cfg.mk (sl (93 : Nat) [((1 : Nat), AV.ptr (0 : Nat) (0 : Nat)), ((2 : Nat), AV.ptr (1 : Nat) (0 : Nat)), ((4 : Nat), AV.ptr (2 : Nat) (0 : Nat)), ((5 : Nat), AV.ptr (3 : Nat) (0 : Nat)), ((6 : Nat), AV.fn (95 : Nat) [AV.ptr (3 : Nat) (0 : Nat)])]) [AObj.own [AV.s (SV.str s)] (9 : Nat), AObj.own [AV.s (SV.bool false), AV.emp, AV.emp] (31 : Nat), AObj.own [AV.s (SV.bool l), AV.vec (4 : Nat), AV.vec (5 : Nat)] (31 : Nat), AObj.own [AV.fn (94 : Nat) [AV.ptr (0 : Nat) (0 : Nat)]] (150 : Nat), AObj.vec (Con.typ [CK.str, CK.str] es) (59 : Nat), AObj.vec (Con.typ [CK.str, CK.int IntKind.i64] bs) (36 : Nat)] (hd Try.f32 (11 : Nat)))) := by kernel_rfl
theorem en_eq (x y : En) : (decide (x.1 = y.1) && (decide (x.2.1 = y.2.1) && true)) = decide (x = y) := by
  obtain ⟨a, b, ⟨⟩⟩ := x
  obtain ⟨c, d, ⟨⟩⟩ := y
  by_cases h1 : a = c <;> by_cases h2 : b = d <;> simp [h1, h2]
theorem br_eq (x y : Br) : (decide (x.1 = y.1) && ((x.2.1 == y.2.1) && true)) = decide (x = y) := by
  obtain ⟨a, b, ⟨⟩⟩ := x
  obtain ⟨c, d, ⟨⟩⟩ := y
  by_cases h1 : a = c <;> by_cases h2 : b = d <;> simp [h1, h2]

theorem eqE_ok {Z : Glob} : FnOk P Z 96 [tEs, tEs] [tBool] (fun _ => []) (fun (a, b, ()) => (eqEs a b, ())) := by
  refine fnOk_of_safe Try.func96 (by kernel_rfl) (by kernel_rfl) ?_
  rintro ⟨(a : List En), (b : List En), ⟨⟩⟩ ⟨hla, hlb, _⟩ _ X hX hz
  have hla : a.length ≤ 9223372036854775807 := hla
  show Safe P 96 X (Ends [tBool] (eqEs a b, ())) _
  refine go hz hX Tab.Ok.nil Try.func96 (treeEqE a b) ⟨fun h => ends_isl ?_, fun h => ?_⟩
  · exact decide_eq_false (fun e => by subst e; simp at h)
  · have hl : a.length = b.length := Int.ofNat_inj.1 (by simpa using h)
    have loop : ∀ (n k : Nat), k + n = a.length → (∀ j, j < k → a.getD j dE = b.getD j dE) → Safe P 96 X (Ends [tBool] (eqEs a b, ())) (cEqE a b (k : Int)) := by
      intro n
      induction n with
      | zero =>
        intro k hk hp
        refine go hz hX Tab.Ok.nil Try.func96 (loopEqE a b k) ⟨fun h => absurd (of_decide_eq_true h) (by omega), fun h => ends_isl (decide_eq_true ?_)⟩
        refine List.ext_getElem hl fun j h1 h2 => ?_
        have := hp j (by omega)
        rwa [getD_lt h1, getD_lt h2] at this
      | succ n ih =>
        intro k hk hp
        refine go hz hX Tab.Ok.nil Try.func96 (loopEqE a b k) ⟨fun h => ⟨by omega, by omega, by omega, by omega, ?_⟩, fun h => absurd (of_decide_eq_false h) (by omega)⟩
        simp only [Int.toNat_natCast]
        have e := en_eq (a.getD k dE) (b.getD k dE)
        refine ⟨fun h1 => ends_isl ?_, fun h1 => ⟨⟨by omega, by omega⟩, ih (k + 1) (by omega) (fun j hj => ?_)⟩⟩
        · have h1 : (!decide (a.getD k dE = b.getD k dE)) = true := by rw [← e]; exact h1
          refine decide_eq_false (fun e => ?_)
          subst e; simp at h1
        · by_cases hj2 : j = k
          · subst hj2
            have h1 : (!decide (a.getD j dE = b.getD j dE)) = false := by rw [← e]; exact h1
            simpa using h1
          · exact hp j (by omega)
    exact loop a.length 0 (by omega) (fun j hj => by omega)

theorem eqB_ok {Z : Glob} : FnOk P Z 97 [tBs, tBs] [tBool] (fun _ => []) (fun (a, b, ()) => (eqBs a b, ())) := by
  refine fnOk_of_safe Try.func97 (by kernel_rfl) (by kernel_rfl) ?_
  rintro ⟨(a : List Br), (b : List Br), ⟨⟩⟩ ⟨hla, hlb, _⟩ _ X hX hz
  have hla : a.length ≤ 9223372036854775807 := hla
  show Safe P 97 X (Ends [tBool] (eqBs a b, ())) _
  refine go hz hX Tab.Ok.nil Try.func97 (treeEqB a b) ⟨fun h => ends_isl ?_, fun h => ?_⟩
  · exact decide_eq_false (fun e => by subst e; simp at h)
  · have hl : a.length = b.length := Int.ofNat_inj.1 (by simpa using h)
    have loop : ∀ (n k : Nat), k + n = a.length → (∀ j, j < k → a.getD j dB = b.getD j dB) → Safe P 97 X (Ends [tBool] (eqBs a b, ())) (cEqB a b (k : Int)) := by
      intro n
      induction n with
      | zero =>
        intro k hk hp
        refine go hz hX Tab.Ok.nil Try.func97 (loopEqB a b k) ⟨fun h => absurd (of_decide_eq_true h) (by omega), fun h => ends_isl (decide_eq_true ?_)⟩
        refine List.ext_getElem hl fun j h1 h2 => ?_
        have := hp j (by omega)
        rwa [getD_lt h1, getD_lt h2] at this
      | succ n ih =>
        intro k hk hp
        refine go hz hX Tab.Ok.nil Try.func97 (loopEqB a b k) ⟨fun h => ⟨by omega, by omega, by omega, by omega, ?_⟩, fun h => absurd (of_decide_eq_false h) (by omega)⟩
        simp only [Int.toNat_natCast]
        have e := br_eq (a.getD k dB) (b.getD k dB)
        refine ⟨fun h1 => ends_isl ?_, fun h1 => ⟨⟨by omega, by omega⟩, ih (k + 1) (by omega) (fun j hj => ?_)⟩⟩
        · have h1 : (!decide (a.getD k dB = b.getD k dB)) = true := by rw [← e]; exact h1
          refine decide_eq_false (fun e => ?_)
          subst e; simp at h1
        · by_cases hj2 : j = k
          · subst hj2
            have h1 : (!decide (a.getD j dB = b.getD j dB)) = false := by rw [← e]; exact h1
            simpa using h1
          · exact hp j (by omega)
    exact loop a.length 0 (by omega) (fun j hj => by omega)

def sameN (l : Bool) (es : List En) (bs : List Br) (l' : Bool) (es' : List En) (bs' : List Br) : Bool := (l == l') && (eqEs es es' && eqBs bs bs')
theorem same_ok {Z : Glob} : FnOk P Z 33 [tNode, tNode] [tBool] (fun _ => []) (fun ((l, es, bs, ()), (l', es', bs', ()), ()) => (sameN l es bs l' es' bs', ())) := by
  refine fnOk_of_safe Try.func33 (by kernel_rfl) (by kernel_rfl) ?_
  rintro ⟨⟨(l : Bool), (es : List En), (bs : List Br), ⟨⟩⟩, ⟨(l' : Bool), (es' : List En), (bs' : List Br), ⟨⟩⟩, ⟨⟩⟩ _ _ X hX hz
  refine go hz hX (Tab.Ok.cons eqE_ok.sum (Tab.Ok.cons eqB_ok.sum Tab.Ok.nil)) Try.func33 (treeSame l l' es es' bs bs') ⟨fun h1 => ⟨fun h2 => ends_is ?_, fun h2 => ends_isl ?_⟩, fun h1 => ends_isl ?_⟩
  · show ((l == l') && (eqEs es es' && eqBs bs bs')) = _
    rw [h1, h2]; rfl
  · show ((l == l') && (eqEs es es' && eqBs bs bs')) = _
    rw [h1, h2]; rfl
  · show ((l == l') && (eqEs es es' && eqBs bs bs')) = _
    rw [h1]; rfl

/-! ### bytes taken off -/
theorem size_extract' (s : ByteArray) (i j : Nat) : (s.extract i j).size = min j s.size - i := by simp
theorem byteAt_range (s : ByteArray) (i : Nat) : 0 ≤ byteAt s i ∧ byteAt s i ≤ 255 := by
  have := (s.data.toList.getD i 0).toNat_lt
  unfold byteAt
  omega
theorem tkB_iff {k : Int} {s : ByteArray} : tkB k s = true ↔ k ≤ (s.size : Int) := by simp [tkB]
theorem tkT_size {k : Int} {s : ByteArray} (h0 : 0 ≤ k) (h : tkB k s = true) : ((tkT k s).size : Int) = k := by
  have h := tkB_iff.1 h
  rw [tkT, if_neg (by omega), size_extract']
  omega
theorem tkR_size {k : Int} {s : ByteArray} (h0 : 0 ≤ k) (h : tkB k s = true) : ((tkR k s).size : Int) = s.size - k := by
  have h := tkB_iff.1 h
  rw [tkR, if_neg (by omega), size_extract']
  omega
theorem tkR_le (k : Int) (s : ByteArray) : (tkR k s).size ≤ s.size := by
  unfold tkR
  split
  · exact Nat.le_refl _
  · rw [size_extract']; omega
theorem take_ok {Z : Glob} : FnS P Z 94 specTake := by
  refine fnS_of_safe Try.func94 (by kernel_rfl) (fun x => Nat.le_of_ble_eq_true (by kernel_rfl)) ?_
  rintro ⟨(k : Int), (s : ByteArray)⟩ ⟨(h1 : 0 ≤ k), _⟩ X hX hz
  refine goS hz hX (by simp) Tab.Ok.nil Try.func94 (treeTake k s) ⟨fun h => ⟨⟨[], [0], 1, []⟩, Nat.le_refl _, ?_⟩, fun h => ?_⟩
  · show Norm.run _ _ = some ⟨[.tup [.s (.str (tkT k s)), .s (.bool (tkB k s))]], [.own [.s (.str (tkR k s))] 9], []⟩
    rw [tkT, tkR, tkB, if_pos (of_decide_eq_true h), if_pos (of_decide_eq_true h), h]
    kernel_rfl
  · have h2 := of_decide_eq_false h
    refine ⟨by omega, h1, by omega, h1, by omega, by omega, ⟨[], [0], 1, []⟩, Nat.le_refl _, ?_⟩
    show Norm.run _ _ = some ⟨[.tup [.s (.str (tkT k s)), .s (.bool (tkB k s))]], [.own [.s (.str (tkR k s))] 9], []⟩
    rw [tkT, tkR, tkB, if_neg h2, if_neg h2, h]
    kernel_rfl
theorem tabText_ok {Z : Glob} : tabText.Ok P Z := Tab.Ok.cons (take_ok.sum mTake) Tab.Ok.nil
theorem text_ok {Z : Glob} : FnS P Z 95 specText := by
  refine fnS_of_safe Try.func95 (by kernel_rfl) (fun x => Nat.le_of_ble_eq_true (by kernel_rfl)) ?_
  rintro (s : ByteArray) _ X hX hz
  refine goS hz hX (by simp) tabText_ok Try.func95 (treeText s) ⟨rfl, rfl, by decide, fun h => ⟨⟨[], [0], 2, []⟩, Nat.le_refl _, ?_⟩, fun h => ?_⟩
  · have h : tkB 1 s = false := by simpa using h
    show Norm.run _ _ = some ⟨[.tup [.s (.str (rdT s)), .s (.bool (rdB s))]], [.own [.fn 94 [.ptr 1 0]] 150, .own [.s (.str (rdR s))] 9], []⟩
    rw [rdT, rdR, rdB, h]
    kernel_rfl
  · have h : tkB 1 s = true := by simpa using h
    have h1 := tkT_size (by omega) h
    have h2 := byteAt_range (tkT 1 s) 0
    refine ⟨by decide, by omega, ⟨by show _ ≤ byteAt (tkT 1 s) 0; omega, by show byteAt (tkT 1 s) 0 ≤ _; omega⟩, rfl, rfl, h2.1, ⟨[], [0], 2, []⟩, Nat.le_refl _, ?_⟩
    show Norm.run _ _ = some ⟨[.tup [.s (.str (rdT s)), .s (.bool (rdB s))]], [.own [.fn 94 [.ptr 1 0]] 150, .own [.s (.str (rdR s))] 9], []⟩
    rw [rdT, rdR, rdB, h]
    kernel_rfl
theorem tabDec_ok {Z : Glob} : tabDec.Ok P Z := Tab.Ok.cons (take_ok.sum mTake) (Tab.Ok.cons (text_ok.sum mText) (Tab.Ok.cons may_ok.sum Tab.Ok.nil))

theorem rdR_size {s : ByteArray} (h : rdB s = true) : (rdR s).size + 1 ≤ s.size := by
  simp only [rdB, Bool.and_eq_true] at h
  have h1 := tkR_size (by omega) h.1
  have h2 := tkR_le (rdK s) (tkR 1 s)
  rw [rdR, if_pos h.1]
  omega

/-! ### Decode -/
def pgOf (t : ByteArray) : Int := bitop BinOp.or IntKind.i64 (IntKind.i64.wrap (byteAt t (Int.toNat 0) * 2 ^ min (Int.toNat 8) IntKind.i64.bits)) (byteAt t (Int.toNat 1))
def decL (l : Bool) : Nat → ByteArray → List En → List Br → Int × List En × List Br
  | 0, _, es, bs => if mayN l es bs = true then (0, es, bs) else (4, [], [])
  | n + 1, s, es, bs =>
    if s = ByteArray.empty then (if mayN l es bs = true then (0, es, bs) else (4, [], []))
    else if rdB s = false then (8, [], [])
    else if l = true then (if rdB (rdR s) = true then decL l n (rdR (rdR s)) (es ++ [(rdT s, rdT (rdR s), ())]) bs else (8, [], []))
    else (if tkB 2 (rdR s) = true then decL l n (tkR 2 (rdR s)) es (bs ++ [(rdT s, pgOf (tkT 2 (rdR s)), ())]) else (8, [], []))
def decA (s : ByteArray) : Int × List En × List Br :=
  if (s.size : Int) > 254 then (40, [], []) else if s = ByteArray.empty then (8, [], []) else if byteAt s 0 ≠ 1 ∧ byteAt s 0 ≠ 2 then (4, [], [])
  else decL (byteAt s 0 == 1) s.size (s.extract 1 s.size) [] []
def decC (s : ByteArray) : Int := (decA s).1
def decE (s : ByteArray) : List En := (decA s).2.1
def decB (s : ByteArray) : List Br := (decA s).2.2
def decLf (s : ByteArray) : Bool := decide (decC s = 0) && (byteAt s 0 == 1)
abbrev decR (l : Bool) (r : Int × List En × List Br) : AL [tNode, tInt] := ((decide (r.1 = 0) && l, r.2.1, r.2.2, ()), r.1, ())
abbrev decY (s : ByteArray) : AL [tNode, tInt] := ((decLf s, decE s, decB s, ()), decC s, ())

theorem dec_ok {Z : Glob} : FnOk P Z 32 [tStr] [tNode, tInt] (fun _ => []) (fun (s, ()) => ((decLf s, decE s, decB s, ()), decC s, ())) := by
  refine fnOk_of_safe Try.func32 (by kernel_rfl) (by kernel_rfl) ?_
  rintro ⟨(s0 : ByteArray), ⟨⟩⟩ _ _ X hX hz
  show Safe P 32 X (Ends [tNode, tInt] (decY s0)) _
  have loop : ∀ (l : Bool) (n : Nat) (s : ByteArray) (es : List En) (bs : List Br), s.size ≤ n → es.length + bs.length + s.size ≤ 254 → decR l (decL l n s es bs) = decY s0 →
      Safe P 32 X (Ends [tNode, tInt] (decY s0)) (cDec s l es bs) := by
    intro l n
    induction n with
    | zero =>
      intro s es bs hn hb hy
      obtain rfl := size_zero (Nat.le_zero.1 hn)
      refine go hz hX tabDec_ok Try.func32 (loopDec ByteArray.empty l es bs) ⟨fun h => absurd h (by simp), fun _ => ⟨fun h => ?_, fun h => ?_⟩⟩
      · refine ends_eq ((false, [], [], ()), 4, ()) ?_ (by kernel_rfl)
        rw [← hy, decL, if_neg (by simpa using h)]; rfl
      · refine ends_eq ((l, es, bs, ()), 0, ()) ?_ (by kernel_rfl)
        rw [← hy, decL, if_pos (by simpa using h)]; rfl
    | succ n ih =>
      intro s es bs hn hb hy
      refine go hz hX tabDec_ok Try.func32 (loopDec s l es bs) ⟨fun h => ?_, fun h => ?_⟩
      · have h : s ≠ ByteArray.empty := by simpa using h
        have bad : decL l (n + 1) s es bs = (8, [], []) → ∀ (s' : ByteArray) (es' : List En) (bs' : List Br), Safe P 32 X (Ends [tNode, tInt] (decY s0)) (cDec1 s' l es' bs' false) := fun e s' es' bs' => by
          refine go hz hX tabDec_ok Try.func32 (stopDec1 s' l es' bs' false) ⟨fun _ => ?_, fun h => by cases h⟩
          refine ends_eq ((false, [], [], ()), 8, ()) ?_ (by kernel_rfl)
          rw [← hy, e]; rfl
        have cont : ∀ (s' : ByteArray) (es' : List En) (bs' : List Br), s'.size ≤ n → es'.length + bs'.length + s'.size ≤ 254 → decR l (decL l n s' es' bs') = decY s0 → Safe P 32 X (Ends [tNode, tInt] (decY s0)) (cDec1 s' l es' bs' true) := fun s' es' bs' h1 h2 h3 => by
          refine go hz hX tabDec_ok Try.func32 (stopDec1 s' l es' bs' true) ⟨fun h => (by cases h), fun _ => ih s' es' bs' h1 h2 h3⟩
        have hr := fun hB => rdR_size (s := s) hB
        refine ⟨rfl, rfl, fun hl => ⟨fun hB => ⟨rfl, rfl, by omega, ?_⟩, fun hB => ?_⟩, fun hl => ⟨fun hB => ⟨rfl, rfl, by decide, fun h2 => ?_, fun h2 => ?_⟩, fun hB => ?_⟩⟩
        · subst hl
          have hr := hr hB
          cases h2 : rdB (rdR s)
          · exact bad (by rw [decL, if_neg h, if_neg (by simp [hB]), if_pos rfl, if_neg (by simp [h2])]) _ _ _
          · have := rdR_size h2
            exact cont _ _ _ (by omega) (by simp only [List.length_append, List.length_cons, List.length_nil]; omega) (by rw [← hy, decL, if_neg h, if_neg (by simp [hB]), if_pos rfl, if_pos h2])
        · exact ⟨fun h => (by rw [hB] at h; cases h), fun _ => by rw [hB]; exact bad (by rw [decL, if_neg h, if_pos hB]) _ _ _⟩
        · subst hl
          have hr := hr hB
          have e1 := tkT_size (by decide) h2
          have e2 := tkR_size (by decide) h2
          have b0 := byteAt_range (tkT 2 (rdR s)) 0
          have b1 := byteAt_range (tkT 2 (rdR s)) 1
          refine ⟨by decide, by omega, ⟨by show _ ≤ byteAt _ 0; omega, by show byteAt _ 0 ≤ _; omega⟩, by decide, by decide, by omega, ⟨by show _ ≤ byteAt _ 1; omega, by show byteAt _ 1 ≤ _; omega⟩, by omega, ?_⟩
          rw [h2]
          exact cont _ _ _ (by omega) (by simp only [List.length_append, List.length_cons, List.length_nil]; omega) (by rw [← hy, decL, if_neg h, if_neg (by simp [hB]), if_neg (by simp), if_pos h2]; rfl)
        · subst hl
          rw [h2]
          exact bad (by rw [decL, if_neg h, if_neg (by simp [hB]), if_neg (by simp), if_neg (by simp [h2])]) _ _ _
        · rw [hB]
          exact bad (by rw [decL, if_neg h, if_pos hB]) _ _ _
      · have h : s = ByteArray.empty := by simpa using h
        refine ⟨fun h2 => ?_, fun h2 => ?_⟩
        · refine ends_eq ((false, [], [], ()), 4, ()) ?_ (by kernel_rfl)
          rw [← hy, decL, if_pos h, if_neg (by simpa using h2)]; rfl
        · refine ends_eq ((l, es, bs, ()), 0, ()) ?_ (by kernel_rfl)
          rw [← hy, decL, if_pos h, if_pos (by simpa using h2)]; rfl
  have first : (s0.size : Int) ≤ 254 → s0 ≠ ByteArray.empty → ¬ (byteAt s0 0 ≠ 1 ∧ byteAt s0 0 ≠ 2) → Safe P 32 X (Ends [tNode, tInt] (decY s0)) (cDec0 s0) := fun h1 h2 h3 => by
    have hp : 0 < s0.size := Nat.pos_of_ne_zero fun e => h2 (size_zero e)
    refine go hz hX tabDec_ok Try.func32 (stopDec0 s0) ⟨by omega, by omega, by omega, by omega, by omega, ?_⟩
    have e : decA s0 = decL (byteAt s0 0 == 1) s0.size (s0.extract 1 s0.size) [] [] := by rw [decA, if_neg (by omega), if_neg h2, if_neg h3]
    refine loop (byteAt s0 0 == 1) s0.size (s0.extract 1 s0.size) [] [] (by rw [size_extract']; omega) (by rw [size_extract']; simp only [List.length_nil]; omega) ?_
    rw [← e]; rfl
  have err : ∀ (c : Int) (hc : decide (c = 0) = false), decA s0 = (c, [], []) → decY s0 = ((false, [], [], ()), c, ()) := fun c hc e => by
    show ((decide ((decA s0).1 = 0) && (byteAt s0 0 == 1), (decA s0).2.1, (decA s0).2.2, ()), (decA s0).1, ()) = _
    rw [e, hc]; rfl
  refine go hz hX tabDec_ok Try.func32 (treeDec s0) ⟨fun h => ends_eq ((false, [], [], ()), 40, ()) (err 40 rfl ?_) (by kernel_rfl), fun h => ⟨fun h2 => ends_eq ((false, [], [], ()), 8, ()) (err 8 rfl ?_) (by kernel_rfl), fun h2 => ?_⟩⟩
  · rw [decA, if_pos (of_decide_eq_true h)]
  · rw [decA, if_neg (of_decide_eq_false h), if_pos (of_decide_eq_true h2)]
  · have h := of_decide_eq_false h
    have h2 := of_decide_eq_false h2
    have hp : 0 < s0.size := Nat.pos_of_ne_zero fun e => h2 (size_zero e)
    refine ⟨by omega, by omega, fun h3 => ⟨by omega, by omega, fun h4 => ends_eq ((false, [], [], ()), 4, ()) (err 4 rfl ?_) (by kernel_rfl), fun h4 => first (by omega) h2 ?_⟩, fun h3 => first (by omega) h2 ?_⟩
    · have h3 : byteAt s0 0 ≠ 1 := by simpa using h3
      have h4 : byteAt s0 0 ≠ 2 := by simpa using h4
      rw [decA, if_neg h, if_neg h2, if_pos ⟨h3, h4⟩]
    · have h4 : byteAt s0 0 = 2 := by simpa using h4
      exact fun e => e.2 h4
    · have h3 : byteAt s0 0 = 1 := by simpa using h3
      exact fun e => e.1 h3
end Lf
