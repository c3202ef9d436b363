import Derived.Test.YtjmdfmafnenjnaaR1
namespace Lf
open Go Go.Sx Go.Proofs
abbrev sRMay := sumOf [tRN] [tBool] (fun _ => []) (fun ((l, es, bs, ()), ()) => (mayN l es bs, ()))
abbrev sRFits := sumOf [tRN] [tBool] (fun ((_, es, bs, ()), ()) => [smallE es, smallB bs]) (fun ((_, es, bs, ()), ()) => (decide (sizeN es bs ≤ 254), ()))
def tabREnc : Tab := [(40, sRMay), (42, sRFits)]
def nsREnc : List (Nat × Norm) := [(9, ⟨[], [1, 4, 5], 0, []⟩), (14, ⟨[], [1, 4, 7], 0, []⟩)]
noncomputable def cREnc1 (l : Bool) (es : List En) (bs : List Br) (s : ByteArray) (i : Int) : Cfg := ⟨sl 85 [(1, .ptr 0 0), (4, .s (.str s)), (5, .s (.int .i64 i))], [obN l es bs eRN], hd Try.f44 9⟩
noncomputable def cREnc2 (l : Bool) (es : List En) (bs : List Br) (s : ByteArray) (i : Int) : Cfg := ⟨sl 85 [(1, .ptr 0 0), (4, .s (.str s)), (7, .s (.int .i64 i))], [obN l es bs eRN], hd Try.f44 14⟩
theorem treeREnc (l : Bool) (es : List En) (bs : List Br) : run P tabREnc.sum Try.f44 nsREnc (start Try.f44 [avN l es bs] []) =
  Tree.ite (!mayN l es bs) (Tree.ret [AObj.own [AV.s (SV.bool l), AV.s (SV.ro (Con.typ [CK.str, CK.str] es)), AV.s (SV.ro (Con.typ [CK.str, CK.int IntKind.i64] bs))] (25 : Nat)] (AV.tup [AV.s (SV.str ByteArray.empty), AV.s (SV.ilit IntKind.i64 (4 : Int))])) (Tree.need (smallE es) (Tree.need (smallB bs) (Tree.ite (!decide (sizeN es bs ≤ (254 : Int))) (Tree.ret [AObj.own [AV.s (SV.bool l), AV.s (SV.ro (Con.typ [CK.str, CK.str] es)), AV.s (SV.ro (Con.typ [CK.str, CK.int IntKind.i64] bs))] (25 : Nat)] (AV.tup [AV.s (SV.str ByteArray.empty), AV.s (SV.ilit IntKind.i64 (40 : Int))])) (Tree.ite l (Tree.at (Cfg.mk (sl (85 : Nat) [((1 : Nat), AV.ptr (0 : Nat) (0 : Nat)), ((4 : Nat), AV.s (SV.str (ByteArray.mk #[(1 : UInt8)]))), ((5 : Nat), AV.s (SV.int IntKind.i64 (0 : Int)))]) [AObj.own [AV.s (SV.bool l), AV.s (SV.ro (Con.typ [CK.str, CK.str] es)), AV.s (SV.ro (Con.typ [CK.str, CK.int IntKind.i64] bs))] (25 : Nat)] (hd Try.f44 (9 : Nat)))) (Tree.at (Cfg.mk (sl (85 : Nat) [((1 : Nat), AV.ptr (0 : Nat) (0 : Nat)), ((4 : Nat), AV.s (SV.str (ByteArray.mk #[(2 : UInt8)]))), ((5 : Nat), AV.s (SV.int IntKind.i64 (0 : Int)))]) [AObj.own [AV.s (SV.bool l), AV.s (SV.ro (Con.typ [CK.str, CK.str] es)), AV.s (SV.ro (Con.typ [CK.str, CK.int IntKind.i64] bs))] (25 : Nat)] (hd Try.f44 (9 : Nat)))))))) := by kernel_rfl
theorem loopREnc1 (l : Bool) (es : List En) (bs : List Br) (s : ByteArray) (i : Int) : run P tabREnc.sum Try.f44 nsREnc (cREnc1 l es bs s i) =
  Tree.ite (decide (i < (↑es.length : Int))) (Tree.need ((0 : Int) ≤ i) (Tree.need (i < (↑es.length : Int)) (Tree.need (s.size + (bytesStr [IntKind.u8.wrap (↑(ByteArray.size (es.getD i.toNat (CL.d [CK.str, CK.str])).fst) : Int)]).size ≤ (4611686018427387904 : Nat)) (Tree.need ((s ++ bytesStr [IntKind.u8.wrap (↑(ByteArray.size (es.getD i.toNat (CL.d [CK.str, CK.str])).fst) : Int)]).size + ByteArray.size (es.getD i.toNat (CL.d [CK.str, CK.str])).fst ≤ (4611686018427387904 : Nat)) (Tree.need ((s ++ bytesStr [IntKind.u8.wrap (↑(ByteArray.size (es.getD i.toNat (CL.d [CK.str, CK.str])).fst) : Int)] ++ (es.getD i.toNat (CL.d [CK.str, CK.str])).fst).size + (bytesStr [IntKind.u8.wrap (↑(ByteArray.size (es.getD i.toNat (CL.d [CK.str, CK.str])).snd.fst) : Int)]).size ≤ (4611686018427387904 : Nat)) (Tree.need ((s ++ bytesStr [IntKind.u8.wrap (↑(ByteArray.size (es.getD i.toNat (CL.d [CK.str, CK.str])).fst) : Int)] ++ (es.getD i.toNat (CL.d [CK.str, CK.str])).fst ++ bytesStr [IntKind.u8.wrap (↑(ByteArray.size (es.getD i.toNat (CL.d [CK.str, CK.str])).snd.fst) : Int)]).size + ByteArray.size (es.getD i.toNat (CL.d [CK.str, CK.str])).snd.fst ≤ (4611686018427387904 : Nat)) (Tree.need (inI64 (i + (1 : Int))) (Tree.at (Cfg.mk (sl (85 : Nat) [((1 : Nat), AV.ptr (0 : Nat) (0 : Nat)), ((4 : Nat), AV.s (SV.str (s ++ bytesStr [IntKind.u8.wrap (↑(ByteArray.size (es.getD i.toNat (CL.d [CK.str, CK.str])).fst) : Int)] ++ (es.getD i.toNat (CL.d [CK.str, CK.str])).fst ++ bytesStr [IntKind.u8.wrap (↑(ByteArray.size (es.getD i.toNat (CL.d [CK.str, CK.str])).snd.fst) : Int)] ++ (es.getD i.toNat (CL.d [CK.str, CK.str])).snd.fst))), ((5 : Nat), AV.s (SV.int IntKind.i64 (i + (1 : Int))))]) [AObj.own [AV.s (SV.bool l), AV.s (SV.ro (Con.typ [CK.str, CK.str] es)), AV.s (SV.ro (Con.typ [CK.str, CK.int IntKind.i64] bs))] (25 : Nat)] (hd Try.f44 (9 : Nat))))))))))) (Tree.at (Cfg.mk (sl (85 : Nat) [((1 : Nat), AV.ptr (0 : Nat) (0 : Nat)), ((4 : Nat), AV.s (SV.str s)), ((7 : Nat), AV.s (SV.int IntKind.i64 (0 : Int)))]) [AObj.own [AV.s (SV.bool l), AV.s (SV.ro (Con.typ [CK.str, CK.str] es)), AV.s (SV.ro (Con.typ [CK.str, CK.int IntKind.i64] bs))] (25 : Nat)] (hd Try.f44 (14 : Nat)))) := by kernel_rfl
theorem loopREnc2 (l : Bool) (es : List En) (bs : List Br) (s : ByteArray) (i : Int) : run P tabREnc.sum Try.f44 nsREnc (cREnc2 l es bs s i) =
  Tree.ite (decide (i < (↑bs.length : Int))) (Tree.need ((0 : Int) ≤ i) (Tree.need (i < (↑bs.length : Int)) (Tree.need (s.size + (bytesStr [IntKind.u8.wrap (↑(ByteArray.size (bs.getD i.toNat (CL.d [CK.str, CK.int IntKind.i64])).fst) : Int)]).size ≤ (4611686018427387904 : Nat)) (Tree.need ((s ++ bytesStr [IntKind.u8.wrap (↑(ByteArray.size (bs.getD i.toNat (CL.d [CK.str, CK.int IntKind.i64])).fst) : Int)]).size + ByteArray.size (bs.getD i.toNat (CL.d [CK.str, CK.int IntKind.i64])).fst ≤ (4611686018427387904 : Nat)) (Tree.need ((256 : Int) ≠ (0 : Int)) (Tree.need (inI64 (Int.tdiv (bs.getD i.toNat (CL.d [CK.str, CK.int IntKind.i64])).snd.fst (256 : Int))) (Tree.need ((256 : Int) ≠ (0 : Int)) (Tree.need ((s ++ bytesStr [IntKind.u8.wrap (↑(ByteArray.size (bs.getD i.toNat (CL.d [CK.str, CK.int IntKind.i64])).fst) : Int)] ++ (bs.getD i.toNat (CL.d [CK.str, CK.int IntKind.i64])).fst).size + (bytesStr [IntKind.u8.wrap (Int.tdiv (bs.getD i.toNat (CL.d [CK.str, CK.int IntKind.i64])).snd.fst (256 : Int)), IntKind.u8.wrap (Int.tmod (bs.getD i.toNat (CL.d [CK.str, CK.int IntKind.i64])).snd.fst (256 : Int))]).size ≤ (4611686018427387904 : Nat)) (Tree.need (inI64 (i + (1 : Int))) (Tree.at (Cfg.mk (sl (85 : Nat) [((1 : Nat), AV.ptr (0 : Nat) (0 : Nat)), ((4 : Nat), AV.s (SV.str (s ++ bytesStr [IntKind.u8.wrap (↑(ByteArray.size (bs.getD i.toNat (CL.d [CK.str, CK.int IntKind.i64])).fst) : Int)] ++ (bs.getD i.toNat (CL.d [CK.str, CK.int IntKind.i64])).fst ++ bytesStr [IntKind.u8.wrap (Int.tdiv (bs.getD i.toNat (CL.d [CK.str, CK.int IntKind.i64])).snd.fst (256 : Int)), IntKind.u8.wrap (Int.tmod (bs.getD i.toNat (CL.d [CK.str, CK.int IntKind.i64])).snd.fst (256 : Int))]))), ((7 : Nat), AV.s (SV.int IntKind.i64 (i + (1 : Int))))]) [AObj.own [AV.s (SV.bool l), AV.s (SV.ro (Con.typ [CK.str, CK.str] es)), AV.s (SV.ro (Con.typ [CK.str, CK.int IntKind.i64] bs))] (25 : Nat)] (hd Try.f44 (14 : Nat))))))))))))) (Tree.ret [AObj.own [AV.s (SV.bool l), AV.s (SV.ro (Con.typ [CK.str, CK.str] es)), AV.s (SV.ro (Con.typ [CK.str, CK.int IntKind.i64] bs))] (25 : Nat)] (AV.tup [AV.s (SV.str s), AV.s (SV.ilit IntKind.i64 (0 : Int))])) := by kernel_rfl
def nsTold : List (Nat × Norm) := [(3, ⟨[], [1, 2, 3, 4], 0, [(2, 1, false, .typ cE [], eRE), (2, 2, false, .typ cB [], eRB)]⟩), (7, ⟨[], [1, 2, 3, 5], 0, []⟩)]
def obRZ : AObj := .own [.s (.bool false), .emp, .emp] eRN
noncomputable def cTold1 (l : Bool) (es : List En) (bs : List Br) (xs : List En) (ys : List Br) (i : Int) : Cfg := ⟨sl 44 [(1, .ptr 0 0), (2, .ptr 1 0), (3, .ptr 2 0), (4, .s (.int .i64 i))], [obN l es bs 31, obRZ, .own [.s (.bool l), .vec 3, .vec 4] eRN, .vec (.typ cE xs) eRE, .vec (.typ cB ys) eRB], hd Try.f47 3⟩
noncomputable def cTold2 (l : Bool) (es : List En) (bs : List Br) (xs : List En) (ys : List Br) (i : Int) : Cfg := ⟨sl 44 [(1, .ptr 0 0), (2, .ptr 1 0), (3, .ptr 2 0), (5, .s (.int .i64 i))], [obN l es bs 31, obRZ, .own [.s (.bool l), .vec 3, .vec 4] eRN, .vec (.typ cE xs) eRE, .vec (.typ cB ys) eRB], hd Try.f47 7⟩
theorem treeTold (l : Bool) (es : List En) (bs : List Br) : run P tab0.sum Try.f47 nsTold (start Try.f47 [avN l es bs] []) =
  Tree.at (Cfg.mk (sl (44 : Nat) [((1 : Nat), AV.ptr (0 : Nat) (0 : Nat)), ((2 : Nat), AV.ptr (1 : Nat) (0 : Nat)), ((3 : Nat), AV.ptr (2 : Nat) (0 : Nat)), ((4 : Nat), AV.s (SV.int IntKind.i64 (0 : Int)))]) [AObj.own [AV.s (SV.bool l), AV.s (SV.ro (Con.typ [CK.str, CK.str] es)), AV.s (SV.ro (Con.typ [CK.str, CK.int IntKind.i64] bs))] (31 : Nat), AObj.own [AV.s (SV.bool false), AV.emp, AV.emp] (25 : Nat), AObj.own [AV.s (SV.bool l), AV.vec (3 : Nat), AV.vec (4 : Nat)] (25 : Nat), AObj.vec (Con.typ [CK.str, CK.str] []) (134 : Nat), AObj.vec (Con.typ [CK.str, CK.int IntKind.i64] []) (135 : Nat)] (hd Try.f47 (3 : Nat))) := by kernel_rfl
theorem loopTold1 (l : Bool) (es : List En) (bs : List Br) (xs : List En) (ys : List Br) (i : Int) : run P tab0.sum Try.f47 nsTold (cTold1 l es bs xs ys i) =
  Tree.ite (decide (i < (↑es.length : Int))) (Tree.need ((0 : Int) ≤ i) (Tree.need (i < (↑es.length : Int)) (Tree.need (xs.length + (1 : Nat) ≤ (4294967296 : Nat)) (Tree.need (inI64 (i + (1 : Int))) (Tree.at (Cfg.mk (sl (44 : Nat) [((1 : Nat), AV.ptr (0 : Nat) (0 : Nat)), ((2 : Nat), AV.ptr (1 : Nat) (0 : Nat)), ((3 : Nat), AV.ptr (2 : Nat) (0 : Nat)), ((4 : Nat), AV.s (SV.int IntKind.i64 (i + (1 : Int))))]) [AObj.own [AV.s (SV.bool l), AV.s (SV.ro (Con.typ [CK.str, CK.str] es)), AV.s (SV.ro (Con.typ [CK.str, CK.int IntKind.i64] bs))] (31 : Nat), AObj.own [AV.s (SV.bool false), AV.emp, AV.emp] (25 : Nat), AObj.own [AV.s (SV.bool l), AV.vec (3 : Nat), AV.vec (4 : Nat)] (25 : Nat), AObj.vec (Con.typ [CK.str, CK.str] (xs ++ [((es.getD i.toNat (CL.d [CK.str, CK.str])).fst, (es.getD i.toNat (CL.d [CK.str, CK.str])).snd.fst, ())])) (134 : Nat), AObj.vec (Con.typ [CK.str, CK.int IntKind.i64] ys) (135 : Nat)] (hd Try.f47 (3 : Nat)))))))) (Tree.at (Cfg.mk (sl (44 : Nat) [((1 : Nat), AV.ptr (0 : Nat) (0 : Nat)), ((2 : Nat), AV.ptr (1 : Nat) (0 : Nat)), ((3 : Nat), AV.ptr (2 : Nat) (0 : Nat)), ((5 : Nat), AV.s (SV.int IntKind.i64 (0 : Int)))]) [AObj.own [AV.s (SV.bool l), AV.s (SV.ro (Con.typ [CK.str, CK.str] es)), AV.s (SV.ro (Con.typ [CK.str, CK.int IntKind.i64] bs))] (31 : Nat), AObj.own [AV.s (SV.bool false), AV.emp, AV.emp] (25 : Nat), AObj.own [AV.s (SV.bool l), AV.vec (3 : Nat), AV.vec (4 : Nat)] (25 : Nat), AObj.vec (Con.typ [CK.str, CK.str] xs) (134 : Nat), AObj.vec (Con.typ [CK.str, CK.int IntKind.i64] ys) (135 : Nat)] (hd Try.f47 (7 : Nat)))) := by kernel_rfl
theorem loopTold2 (l : Bool) (es : List En) (bs : List Br) (xs : List En) (ys : List Br) (i : Int) : run P tab0.sum Try.f47 nsTold (cTold2 l es bs xs ys i) =
  Tree.ite (decide (i < (↑bs.length : Int))) (Tree.need ((0 : Int) ≤ i) (Tree.need (i < (↑bs.length : Int)) (Tree.need (ys.length + (1 : Nat) ≤ (4294967296 : Nat)) (Tree.need (inI64 (i + (1 : Int))) (Tree.at (Cfg.mk (sl (44 : Nat) [((1 : Nat), AV.ptr (0 : Nat) (0 : Nat)), ((2 : Nat), AV.ptr (1 : Nat) (0 : Nat)), ((3 : Nat), AV.ptr (2 : Nat) (0 : Nat)), ((5 : Nat), AV.s (SV.int IntKind.i64 (i + (1 : Int))))]) [AObj.own [AV.s (SV.bool l), AV.s (SV.ro (Con.typ [CK.str, CK.str] es)), AV.s (SV.ro (Con.typ [CK.str, CK.int IntKind.i64] bs))] (31 : Nat), AObj.own [AV.s (SV.bool false), AV.emp, AV.emp] (25 : Nat), AObj.own [AV.s (SV.bool l), AV.vec (3 : Nat), AV.vec (4 : Nat)] (25 : Nat), AObj.vec (Con.typ [CK.str, CK.str] xs) (134 : Nat), AObj.vec (Con.typ [CK.str, CK.int IntKind.i64] (ys ++ [((bs.getD i.toNat (CL.d [CK.str, CK.int IntKind.i64])).fst, (bs.getD i.toNat (CL.d [CK.str, CK.int IntKind.i64])).snd.fst, ())])) (135 : Nat)] (hd Try.f47 (7 : Nat)))))))) (Tree.ret [AObj.own [AV.s (SV.bool l), AV.s (SV.ro (Con.typ [CK.str, CK.str] es)), AV.s (SV.ro (Con.typ [CK.str, CK.int IntKind.i64] bs))] (31 : Nat), AObj.own [AV.s (SV.bool l), AV.vec (3 : Nat), AV.vec (4 : Nat)] (25 : Nat), AObj.own [AV.s (SV.bool l), AV.vec (3 : Nat), AV.vec (4 : Nat)] (25 : Nat), AObj.vec (Con.typ [CK.str, CK.str] xs) (134 : Nat), AObj.vec (Con.typ [CK.str, CK.int IntKind.i64] ys) (135 : Nat)] (AV.agg [AV.s (SV.bool l), AV.vec (3 : Nat), AV.vec (4 : Nat)])) := by kernel_rfl
theorem U_app (a b : ByteArray) : U (a ++ b) = U a ++ U b := by simp [U, ByteArray.data_append]
theorem size_app (a b : ByteArray) : (a ++ b).size = a.size + b.size := ByteArray.size_append
theorem bytes_size (zs : List Int) : (bytesStr zs).size = zs.length := by rw [← U_len, U_bytes, List.length_map]
theorem U_one {n : Nat} (h : n ≤ 255) : U (bytesStr [IntKind.u8.wrap (n : Int)]) = [UInt8.ofNat n] := by
  rw [U_bytes]
  simp only [List.map_cons, List.map_nil, u8_in (n := (n : Int)) (by omega) (by omega), Int.toNat_natCast]
theorem take_flat {α β : Type} {l : List α} {k : Nat} {d : α} (f : α → List β) (h : k < l.length) : (l.take (k + 1)).flatMap f = (l.take k).flatMap f ++ f (l.getD k d) := (flat_snoc f h).symm

theorem stepE (s : ByteArray) (x : En) (h1 : x.1.size ≤ 255) (h2 : x.2.1.size ≤ 255) : U (s ++ bytesStr [IntKind.u8.wrap (x.1.size : Int)] ++ x.1 ++ bytesStr [IntKind.u8.wrap (x.2.1.size : Int)] ++ x.2.1) = U s ++ encEU x := by
  rw [U_app, U_app, U_app, U_app, U_one h1, U_one h2]
  simp [encEU, txtU]
theorem stepB (s : ByteArray) (x : Br) (h1 : x.1.size ≤ 255) (h2 : 0 ≤ x.2.1) (h3 : x.2.1 < 65536) : U (s ++ bytesStr [IntKind.u8.wrap (x.1.size : Int)] ++ x.1 ++ bytesStr [IntKind.u8.wrap (Int.tdiv x.2.1 256), IntKind.u8.wrap (Int.tmod x.2.1 256)]) = U s ++ encBU x := by
  obtain ⟨k, p, ⟨⟩⟩ := x
  have h2 : 0 ≤ p := h2
  have h3 : p < 65536 := h3
  show U (s ++ _ ++ _ ++ bytesStr [IntKind.u8.wrap (Int.tdiv p 256), IntKind.u8.wrap (Int.tmod p 256)]) = _
  rw [Int.tdiv_eq_ediv_of_nonneg h2, Int.tmod_eq_emod_of_nonneg h2, U_app, U_app, U_app, U_one h1, U_bytes]
  simp only [List.map_cons, List.map_nil, u8_in (n := p / 256) (by omega) (by omega), u8_in (n := p % 256) (by omega) (by omega), encBU, txtU]
  simp

theorem renc_ok {Z : Glob} : FnOk P Z 44 [tRN] [tStr, tInt] (fun ((_, es, bs, ()), ()) => [smallE es, smallB bs]) (fun ((l, es, bs, ()), ()) => (encS l es bs, encN l es bs, ())) := by
  refine fnOk_of_safe Try.func44 (by kernel_rfl) (by kernel_rfl) ?_
  rintro ⟨⟨(l : Bool), (es : List En), (bs : List Br), ⟨⟩⟩, ⟨⟩⟩ _ ⟨(he : smallE es), (hb : smallB bs), _⟩ X hX hz
  have hT : tabREnc.Ok P Z := Tab.Ok.cons rmay_ok.sum (Tab.Ok.cons rfits_ok.sum Tab.Ok.nil)
  have hle := he.1
  have hlb := hb.1
  show Safe P 44 X (Ends [tStr, tInt] (encS l es bs, encN l es bs, ())) _
  have second : encN l es bs = 0 → ∀ (n k : Nat) (s : ByteArray), k + n = bs.length → s.size ≤ 2100000 + 2002 * k → U s = (if l = true then 1 else 2) :: (es.flatMap encEU ++ (bs.take k).flatMap encBU) →
      Safe P 44 X (Ends [tStr, tInt] (encS l es bs, encN l es bs, ())) (cREnc2 l es bs s (k : Int)) := by
    intro h0 n
    obtain ⟨hm, hsz⟩ := encN_zero.1 h0
    obtain ⟨m1, m2, m3, m4⟩ := mayN_iff hm
    induction n with
    | zero =>
      intro k s hk hs hu
      refine go hz hX hT Try.func44 (loopREnc2 l es bs s k) ⟨fun h => absurd (of_decide_eq_true h) (by omega), fun h => ?_⟩
      have e : encS l es bs = s := by
        rw [encS_eq h0]
        apply ba_ext
        show U _ = U _
        rw [U_enc m3 m4, hu, List.take_of_length_le (by omega)]
      rw [e, h0]
      exact ends_si
    | succ n ih =>
      intro k s hk hs hu
      have hkl : k < bs.length := by omega
      obtain ⟨q1, q2, q3⟩ := memB m4 (x := bs.getD k dB) (by rw [getD_lt hkl]; exact List.getElem_mem _)
      refine go hz hX hT Try.func44 (loopREnc2 l es bs s k) ?_
      simp only [Int.toNat_natCast, size_app, bytes_size, List.length_cons, List.length_nil]
      have d1 : Int.tdiv (bs.getD k dB).2.1 256 = (bs.getD k dB).2.1 / 256 := Int.tdiv_eq_ediv_of_nonneg (by omega)
      have d2 : Int.tmod (bs.getD k dB).2.1 256 = (bs.getD k dB).2.1 % 256 := Int.tmod_eq_emod_of_nonneg (by omega)
      refine ⟨fun h => ⟨by omega, by omega, by omega, ?_, by decide, ?_, by decide, ?_, ⟨by omega, by omega⟩, ?_⟩, fun h => absurd (of_decide_eq_false h) (by omega)⟩
      · show s.size + 1 + (bs.getD k dB).1.size ≤ _; omega
      · show inI64 (Int.tdiv (bs.getD k dB).2.1 256); rw [d1]; exact ⟨by omega, by omega⟩
      · show s.size + 1 + (bs.getD k dB).1.size + 2 ≤ _; omega
      · refine ih (k + 1) _ (by omega) ?_ ?_
        · simp only [size_app, bytes_size, List.length_cons, List.length_nil]
          show s.size + 1 + (bs.getD k dB).1.size + 2 ≤ _; omega
        · refine (stepB s (bs.getD k dB) (by omega) (by omega) (by omega)).trans ?_
          rw [hu, take_flat (d := dB) encBU hkl]
          simp only [List.cons_append, List.append_assoc]
  have first : encN l es bs = 0 → ∀ (n k : Nat) (s : ByteArray), k + n = es.length → s.size ≤ 10 + 2002 * k → U s = (if l = true then 1 else 2) :: (es.take k).flatMap encEU →
      Safe P 44 X (Ends [tStr, tInt] (encS l es bs, encN l es bs, ())) (cREnc1 l es bs s (k : Int)) := by
    intro h0 n
    obtain ⟨hm, hsz⟩ := encN_zero.1 h0
    obtain ⟨m1, m2, m3, m4⟩ := mayN_iff hm
    induction n with
    | zero =>
      intro k s hk hs hu
      refine go hz hX hT Try.func44 (loopREnc1 l es bs s k) ⟨fun h => absurd (of_decide_eq_true h) (by omega), fun h => ?_⟩
      exact second h0 bs.length 0 s (by omega) (by omega) (by rw [hu, List.take_of_length_le (by omega)]; simp)
    | succ n ih =>
      intro k s hk hs hu
      have hkl : k < es.length := by omega
      obtain ⟨q1, q2⟩ := memE m3 (x := es.getD k dE) (by rw [getD_lt hkl]; exact List.getElem_mem _)
      refine go hz hX hT Try.func44 (loopREnc1 l es bs s k) ?_
      simp only [Int.toNat_natCast, size_app, bytes_size, List.length_cons, List.length_nil]
      refine ⟨fun h => ⟨by omega, by omega, by omega, ?_, ?_, ?_, ⟨by omega, by omega⟩, ?_⟩, fun h => absurd (of_decide_eq_false h) (by omega)⟩
      · show s.size + 1 + (es.getD k dE).1.size ≤ _; omega
      · show s.size + 1 + (es.getD k dE).1.size + 1 ≤ _; omega
      · show s.size + 1 + (es.getD k dE).1.size + 1 + (es.getD k dE).2.1.size ≤ _; omega
      · refine ih (k + 1) _ (by omega) ?_ ?_
        · simp only [size_app, bytes_size, List.length_cons, List.length_nil]
          show s.size + 1 + (es.getD k dE).1.size + 1 + (es.getD k dE).2.1.size ≤ _; omega
        · refine (stepE s (es.getD k dE) (by omega) (by omega)).trans ?_
          rw [hu, take_flat (d := dE) encEU hkl]
          simp only [List.cons_append]
  refine go hz hX hT Try.func44 (treeREnc l es bs) ⟨fun h => ?_, fun h => ⟨he, hb, fun h2 => ?_, fun h2 => ?_⟩⟩
  · have h : mayN l es bs = false := by simpa using h
    have e1 : encS l es bs = ByteArray.empty := by simp [encS, encOk, h]
    have e2 : encN l es bs = 4 := by simp [encN, h]
    rw [e1, e2]; exact ends_si
  · have h : mayN l es bs = true := by simpa using h
    have h2 : ¬ sizeN es bs ≤ 254 := by simpa using h2
    have e1 : encS l es bs = ByteArray.empty := by simp [encS, encOk, h, h2]
    have e2 : encN l es bs = 40 := by simp [encN, h, h2]
    rw [e1, e2]; exact ends_si
  · have h : mayN l es bs = true := by simpa using h
    have h2 : sizeN es bs ≤ 254 := by simpa using h2
    have h0 := encN_zero.2 ⟨h, h2⟩
    refine ⟨fun hl => ?_, fun hl => ?_⟩
    · exact first h0 es.length 0 _ (by omega) (by decide) (by rw [hl]; rfl)
    · exact first h0 es.length 0 _ (by omega) (by decide) (by rw [hl]; rfl)

theorem told_ok {Z : Glob} : FnOk P Z 47 [tNode] [tRN] (fun ((_, es, bs, ()), ()) => [(es : List En).length ≤ 100000, (bs : List Br).length ≤ 100000]) (fun (n, ()) => (n, ())) := by
  refine fnOk_of_safe Try.func47 (by kernel_rfl) (by kernel_rfl) ?_
  rintro ⟨⟨(l : Bool), (es : List En), (bs : List Br), ⟨⟩⟩, ⟨⟩⟩ _ ⟨(he : es.length ≤ 100000), (hb : bs.length ≤ 100000), _⟩ X hX hz
  show Safe P 47 X (Ends [tRN] ((l, es, bs, ()), ())) _
  have second : ∀ (n k : Nat), k + n = bs.length → Safe P 47 X (Ends [tRN] ((l, es, bs, ()), ())) (cTold2 l es bs es (bs.take k) (k : Int)) := by
    intro n
    induction n with
    | zero =>
      intro k hk
      refine go hz hX Tab.Ok.nil Try.func47 (loopTold2 l es bs es (bs.take k) k) ⟨fun h => absurd (of_decide_eq_true h) (by omega), fun h => ?_⟩
      rw [List.take_of_length_le (by omega)]
      exact ends_eq ((l, es, bs, ()), ()) rfl (by kernel_rfl)
    | succ n ih =>
      intro k hk
      have hl : (bs.take k).length ≤ 100000 := by rw [List.length_take]; omega
      refine go hz hX Tab.Ok.nil Try.func47 (loopTold2 l es bs es (bs.take k) k) ⟨fun h => ⟨by omega, by omega, by omega, ⟨by omega, by omega⟩, ?_⟩, fun h => absurd (of_decide_eq_false h) (by omega)⟩
      have := ih (k + 1) (by omega)
      rw [← take_snoc (d := dB) (by omega)] at this
      exact this
  have first : ∀ (n k : Nat), k + n = es.length → Safe P 47 X (Ends [tRN] ((l, es, bs, ()), ())) (cTold1 l es bs (es.take k) [] (k : Int)) := by
    intro n
    induction n with
    | zero =>
      intro k hk
      refine go hz hX Tab.Ok.nil Try.func47 (loopTold1 l es bs (es.take k) [] k) ⟨fun h => absurd (of_decide_eq_true h) (by omega), fun h => ?_⟩
      rw [List.take_of_length_le (by omega)]
      exact second bs.length 0 (by omega)
    | succ n ih =>
      intro k hk
      have hl : (es.take k).length ≤ 100000 := by rw [List.length_take]; omega
      refine go hz hX Tab.Ok.nil Try.func47 (loopTold1 l es bs (es.take k) [] k) ⟨fun h => ⟨by omega, by omega, by omega, ⟨by omega, by omega⟩, ?_⟩, fun h => absurd (of_decide_eq_false h) (by omega)⟩
      have := ih (k + 1) (by omega)
      rw [← take_snoc (d := dE) (by omega)] at this
      exact this
  exact go hz hX Tab.Ok.nil Try.func47 (treeTold l es bs) (first es.length 0 (by omega))
end Lf
