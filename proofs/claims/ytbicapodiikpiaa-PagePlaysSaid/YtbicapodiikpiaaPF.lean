/- Lemmas: K1, K2, K3, SxLit, K4, K5. -/
import Derived.Test.YtbicapodiikpiaaPE

namespace Ds
open Go Go.Sx Go.Proofs Lf
/-! The document's pages: trees -/
abbrev sumRR := sumS sRR mRR
abbrev sumRW := sumS sRW mWi
abbrev sumRF := sumS sRF mR
abbrev sumRFu := sumS sRFu mRR
abbrev sumRC := sumFrz 1 (.bools []) (sumS sRC mRC)
def tabRP : Tab := [(42, sumRR), (34, sumRW)]
abbrev inRP : List FuncId := [57, 39, 61]
def nsQr : List (Nat × Norm) := [(unrollKey + 5, ⟨[], [], 1, []⟩)]
theorem trQr (t : List ByteArray) (a : Kp) (f n : Int) : run P tabRP.sum Try.f30 nsQr (start Try.f30 [.ptr 0 0, avI n] [obR t a f]) inRP =
  Tree.ite (decide (n ≥ (0 : Int)))
  (Tree.need ((4 : Int) ≠ (0 : Int))
    (Tree.need (inI64 ((↑t.length : Int).tdiv (4 : Int)))
      (Tree.ite (!decide (n < (↑t.length : Int).tdiv (4 : Int))) (Tree.ret [AObj.own [AV.s (SV.ro (Con.strs t)), AV.s (SV.ro (Con.typ cK a)), AV.s (SV.int IntKind.i64 f)] (115 : Nat)] (AV.tup [AV.s (SV.str ByteArray.empty), AV.s (SV.ilit IntKind.i64 (5 : Int))]))
        (Tree.need (inI64 ((4 : Int) * n))
          (Tree.need (inI64 ((4 : Int) * n + (0 : Int)))
            (Tree.need (Slf (some [AV.ptr (0 : Nat) (0 : Nat), AV.s (SV.int IntKind.i64 ((4 : Int) * n + (0 : Int)))]))
              (Tree.need (Slf (some [AObj.own [AV.s (SV.ro (Con.strs t)), AV.s (SV.ro (Con.typ cK a)), AV.s (SV.int IntKind.i64 f)] (115 : Nat)]))
                (Tree.need (okR t a f)
                  (Tree.need (ByteArray.empty.size + (rrT t a ((4 : Int) * n + (0 : Int))).size ≤ (4611686018427387904 : Nat))
                    (Tree.need (inI64 ((4 : Int) * n))
                      (Tree.need (inI64 ((4 : Int) * n + (1 : Int)))
                        (Tree.need (Slf (some [AV.ptr (0 : Nat) (0 : Nat), AV.s (SV.int IntKind.i64 ((4 : Int) * n + (1 : Int)))]))
                          (Tree.need (Slf (some [AObj.own [AV.s (SV.ro (Con.strs t)), AV.s (SV.ro (Con.typ cK a)), AV.s (SV.int IntKind.i64 f)] (115 : Nat)]))
                            (Tree.need (okR t a f)
                              (Tree.need ((ByteArray.empty ++ rrT t a ((4 : Int) * n + (0 : Int))).size + (rrT t a ((4 : Int) * n + (1 : Int))).size ≤ (4611686018427387904 : Nat))
                                (Tree.need (inI64 ((4 : Int) * n))
                                  (Tree.need (inI64 ((4 : Int) * n + (2 : Int)))
                                    (Tree.need (Slf (some [AV.ptr (0 : Nat) (0 : Nat), AV.s (SV.int IntKind.i64 ((4 : Int) * n + (2 : Int)))]))
                                      (Tree.need (Slf (some [AObj.own [AV.s (SV.ro (Con.strs t)), AV.s (SV.ro (Con.typ cK a)), AV.s (SV.int IntKind.i64 f)] (115 : Nat)]))
                                        (Tree.need (okR t a f)
                                          (Tree.need ((ByteArray.empty ++ rrT t a ((4 : Int) * n + (0 : Int)) ++ rrT t a ((4 : Int) * n + (1 : Int))).size + (rrT t a ((4 : Int) * n + (2 : Int))).size ≤ (4611686018427387904 : Nat))
                                            (Tree.need (inI64 ((4 : Int) * n))
                                              (Tree.need (inI64 ((4 : Int) * n + (3 : Int)))
                                                (Tree.need (Slf (some [AV.ptr (0 : Nat) (0 : Nat), AV.s (SV.int IntKind.i64 ((4 : Int) * n + (3 : Int)))]))
                                                  (Tree.need (Slf (some [AObj.own [AV.s (SV.ro (Con.strs t)), AV.s (SV.ro (Con.typ cK a)), AV.s (SV.int IntKind.i64 f)] (115 : Nat)]))
                                                    (Tree.need (okR t a f)
                                                      (Tree.need ((ByteArray.empty ++ rrT t a ((4 : Int) * n + (0 : Int)) ++ rrT t a ((4 : Int) * n + (1 : Int)) ++ rrT t a ((4 : Int) * n + (2 : Int))).size + (rrT t a ((4 : Int) * n + (3 : Int))).size ≤ (4611686018427387904 : Nat))
                                                        (Tree.need ((0 : Int) ≤ (0 : Int))
                                                          (Tree.need ((0 : Int) < (↑(ByteArray.empty ++ rrT t a ((4 : Int) * n + (0 : Int)) ++ rrT t a ((4 : Int) * n + (1 : Int)) ++ rrT t a ((4 : Int) * n + (2 : Int)) ++ rrT t a ((4 : Int) * n + (3 : Int))).size : Int))
                                                            (Tree.need (inI64 (byteAt (ByteArray.empty ++ rrT t a ((4 : Int) * n + (0 : Int)) ++ rrT t a ((4 : Int) * n + (1 : Int)) ++ rrT t a ((4 : Int) * n + (2 : Int)) ++ rrT t a ((4 : Int) * n + (3 : Int))) (Int.toNat (0 : Int))))
                                                              (Tree.need (inI64 (byteAt (ByteArray.empty ++ rrT t a ((4 : Int) * n + (0 : Int)) ++ rrT t a ((4 : Int) * n + (1 : Int)) ++ rrT t a ((4 : Int) * n + (2 : Int)) ++ rrT t a ((4 : Int) * n + (3 : Int))) (Int.toNat (0 : Int)) * (256 : Int)))
                                                                (Tree.need ((0 : Int) ≤ (1 : Int))
                                                                  (Tree.need ((1 : Int) < (↑(ByteArray.empty ++ rrT t a ((4 : Int) * n + (0 : Int)) ++ rrT t a ((4 : Int) * n + (1 : Int)) ++ rrT t a ((4 : Int) * n + (2 : Int)) ++ rrT t a ((4 : Int) * n + (3 : Int))).size : Int))
                                                                    (Tree.need (inI64 (byteAt (ByteArray.empty ++ rrT t a ((4 : Int) * n + (0 : Int)) ++ rrT t a ((4 : Int) * n + (1 : Int)) ++ rrT t a ((4 : Int) * n + (2 : Int)) ++ rrT t a ((4 : Int) * n + (3 : Int))) (Int.toNat (1 : Int)))) (Tree.need (inI64 (byteAt (ByteArray.empty ++ rrT t a ((4 : Int) * n + (0 : Int)) ++ rrT t a ((4 : Int) * n + (1 : Int)) ++ rrT t a ((4 : Int) * n + (2 : Int)) ++ rrT t a ((4 : Int) * n + (3 : Int))) (Int.toNat (0 : Int)) * (256 : Int) + byteAt (ByteArray.empty ++ rrT t a ((4 : Int) * n + (0 : Int)) ++ rrT t a ((4 : Int) * n + (1 : Int)) ++ rrT t a ((4 : Int) * n + (2 : Int)) ++ rrT t a ((4 : Int) * n + (3 : Int))) (Int.toNat (1 : Int)))) (Tree.ite (decide (byteAt (ByteArray.empty ++ rrT t a ((4 : Int) * n + (0 : Int)) ++ rrT t a ((4 : Int) * n + (1 : Int)) ++ rrT t a ((4 : Int) * n + (2 : Int)) ++ rrT t a ((4 : Int) * n + (3 : Int))) (Int.toNat (0 : Int)) * (256 : Int) + byteAt (ByteArray.empty ++ rrT t a ((4 : Int) * n + (0 : Int)) ++ rrT t a ((4 : Int) * n + (1 : Int)) ++ rrT t a ((4 : Int) * n + (2 : Int)) ++ rrT t a ((4 : Int) * n + (3 : Int))) (Int.toNat (1 : Int)) > (254 : Int))) (Tree.ret [AObj.own [AV.s (SV.ro (Con.strs t)), AV.s (SV.ro (Con.typ cK a)), AV.s (SV.int IntKind.i64 f)] (115 : Nat)] (AV.tup [AV.s (SV.str ByteArray.empty), AV.s (SV.ilit IntKind.i64 (4 : Int))])) (Tree.need (inI64 ((2 : Int) + (byteAt (ByteArray.empty ++ rrT t a ((4 : Int) * n + (0 : Int)) ++ rrT t a ((4 : Int) * n + (1 : Int)) ++ rrT t a ((4 : Int) * n + (2 : Int)) ++ rrT t a ((4 : Int) * n + (3 : Int))) (Int.toNat (0 : Int)) * (256 : Int) + byteAt (ByteArray.empty ++ rrT t a ((4 : Int) * n + (0 : Int)) ++ rrT t a ((4 : Int) * n + (1 : Int)) ++ rrT t a ((4 : Int) * n + (2 : Int)) ++ rrT t a ((4 : Int) * n + (3 : Int))) (Int.toNat (1 : Int))))) (Tree.need ((0 : Int) ≤ (2 : Int)) (Tree.need ((2 : Int) ≤ (2 : Int) + (byteAt (ByteArray.empty ++ rrT t a ((4 : Int) * n + (0 : Int)) ++ rrT t a ((4 : Int) * n + (1 : Int)) ++ rrT t a ((4 : Int) * n + (2 : Int)) ++ rrT t a ((4 : Int) * n + (3 : Int))) (Int.toNat (0 : Int)) * (256 : Int) + byteAt (ByteArray.empty ++ rrT t a ((4 : Int) * n + (0 : Int)) ++ rrT t a ((4 : Int) * n + (1 : Int)) ++ rrT t a ((4 : Int) * n + (2 : Int)) ++ rrT t a ((4 : Int) * n + (3 : Int))) (Int.toNat (1 : Int)))) (Tree.need ((2 : Int) + (byteAt (ByteArray.empty ++ rrT t a ((4 : Int) * n + (0 : Int)) ++ rrT t a ((4 : Int) * n + (1 : Int)) ++ rrT t a ((4 : Int) * n + (2 : Int)) ++ rrT t a ((4 : Int) * n + (3 : Int))) (Int.toNat (0 : Int)) * (256 : Int) + byteAt (ByteArray.empty ++ rrT t a ((4 : Int) * n + (0 : Int)) ++ rrT t a ((4 : Int) * n + (1 : Int)) ++ rrT t a ((4 : Int) * n + (2 : Int)) ++ rrT t a ((4 : Int) * n + (3 : Int))) (Int.toNat (1 : Int))) ≤ (↑(ByteArray.empty ++ rrT t a ((4 : Int) * n + (0 : Int)) ++ rrT t a ((4 : Int) * n + (1 : Int)) ++ rrT t a ((4 : Int) * n + (2 : Int)) ++ rrT t a ((4 : Int) * n + (3 : Int))).size : Int)) (Tree.ret [AObj.own [AV.s (SV.ro (Con.strs t)), AV.s (SV.ro (Con.typ cK a)), AV.s (SV.int IntKind.i64 f)] (115 : Nat)] (AV.tup [AV.s (SV.str ((ByteArray.empty ++ rrT t a ((4 : Int) * n + (0 : Int)) ++ rrT t a ((4 : Int) * n + (1 : Int)) ++ rrT t a ((4 : Int) * n + (2 : Int)) ++ rrT t a ((4 : Int) * n + (3 : Int))).extract (Int.toNat (2 : Int)) ((2 : Int) + (byteAt (ByteArray.empty ++ rrT t a ((4 : Int) * n + (0 : Int)) ++ rrT t a ((4 : Int) * n + (1 : Int)) ++ rrT t a ((4 : Int) * n + (2 : Int)) ++ rrT t a ((4 : Int) * n + (3 : Int))) (Int.toNat (0 : Int)) * (256 : Int) + byteAt (ByteArray.empty ++ rrT t a ((4 : Int) * n + (0 : Int)) ++ rrT t a ((4 : Int) * n + (1 : Int)) ++ rrT t a ((4 : Int) * n + (2 : Int)) ++ rrT t a ((4 : Int) * n + (3 : Int))) (Int.toNat (1 : Int)))).toNat)), AV.s (SV.ilit IntKind.i64 (0 : Int))]))))))))))))))))))))))))))))))))))))))))))
  (Tree.ret [AObj.own [AV.s (SV.ro (Con.strs t)), AV.s (SV.ro (Con.typ cK a)), AV.s (SV.int IntKind.i64 f)] (115 : Nat)] (AV.tup [AV.s (SV.str ByteArray.empty), AV.s (SV.ilit IntKind.i64 (5 : Int))])) := by kernel_rfl
def nsQw : List (Nat × Norm) := [(6, ⟨[], [0, 1, 7], 1, roL⟩), (unrollKey + 9, ⟨[], [], 1, []⟩)]
theorem trQw (t : List ByteArray) (a : Kp) (f n : Int) (s : ByteArray) : run P tabRP.sum Try.f29 nsQw (start Try.f29 [.ptr 0 0, avI n, .s (.str s)] [obR t a f]) inRP =
  Tree.ite (decide (n ≥ (0 : Int))) (Tree.need ((4 : Int) ≠ (0 : Int)) (Tree.need (inI64 ((↑t.length : Int).tdiv (4 : Int))) (Tree.ite (!decide (n < (↑t.length : Int).tdiv (4 : Int))) (Tree.ret [AObj.own [AV.s (SV.ro (Con.strs t)), AV.s (SV.ro (Con.typ cK a)), AV.s (SV.int IntKind.i64 f)] (115 : Nat)] (AV.s (SV.ilit IntKind.i64 (5 : Int)))) (Tree.ite (decide ((↑s.size : Int) > (254 : Int))) (Tree.ret [AObj.own [AV.s (SV.ro (Con.strs t)), AV.s (SV.ro (Con.typ cK a)), AV.s (SV.int IntKind.i64 f)] (115 : Nat)] (AV.s (SV.ilit IntKind.i64 (40 : Int)))) (Tree.need ((256 : Int) ≠ (0 : Int)) (Tree.need (inI64 ((↑s.size : Int).tdiv (256 : Int))) (Tree.need ((256 : Int) ≠ (0 : Int)) (Tree.need ((bytesStr [IntKind.u8.wrap ((↑s.size : Int).tdiv (256 : Int)), IntKind.u8.wrap ((↑s.size : Int).tmod (256 : Int))]).size + s.size ≤ (4611686018427387904 : Nat)) (Tree.at (Cfg.mk (sl (54 : Nat) [((0 : Nat), AV.ptr (0 : Nat) (0 : Nat)), ((1 : Nat), AV.s (SV.int IntKind.i64 n)), ((7 : Nat), AV.s (SV.str (bytesStr [IntKind.u8.wrap ((↑s.size : Int).tdiv (256 : Int)), IntKind.u8.wrap ((↑s.size : Int).tmod (256 : Int))] ++ s)))]) [AObj.own [AV.s (SV.ro (Con.strs t)), AV.s (SV.ro (Con.typ cK a)), AV.s (SV.int IntKind.i64 f)] (115 : Nat)] (hd Try.f29 (6 : Nat)) (Stk.mk none false (0 : Nat) [] (0 : Nat)))))))))))) (Tree.ret [AObj.own [AV.s (SV.ro (Con.strs t)), AV.s (SV.ro (Con.typ cK a)), AV.s (SV.int IntKind.i64 f)] (115 : Nat)] (AV.s (SV.ilit IntKind.i64 (5 : Int)))) := by kernel_rfl
noncomputable def cQw (t : List ByteArray) (a : Kp) (f n : Int) (w : ByteArray) : Cfg := ⟨sl 54 [(0, .ptr 0 0), (1, avI n), (7, .s (.str w))], [obR t a f], hd Try.f29 6, {}⟩
theorem loopQw (t : List ByteArray) (a : Kp) (f n : Int) (w : ByteArray) : run P tabRP.sum Try.f29 nsQw (cQw t a f n w) inRP =
  Tree.ite (decide ((↑w.size : Int) < (256 : Int))) (Tree.need (w.size + (ByteArray.mk #[(0 : UInt8)]).size ≤ (4611686018427387904 : Nat)) (Tree.at (Cfg.mk (sl (54 : Nat) [((0 : Nat), AV.ptr (0 : Nat) (0 : Nat)), ((1 : Nat), AV.s (SV.int IntKind.i64 n)), ((7 : Nat), AV.s (SV.str (w ++ ByteArray.mk #[(0 : UInt8)])))]) [AObj.own [AV.s (SV.ro (Con.strs t)), AV.s (SV.ro (Con.typ cK a)), AV.s (SV.int IntKind.i64 f)] (115 : Nat)] (hd Try.f29 (6 : Nat)) (Stk.mk none false (0 : Nat) [] (0 : Nat)))))
  (Tree.need (inI64 ((4 : Int) * n))
    (Tree.need (inI64 ((4 : Int) * n + (0 : Int)))
      (Tree.need ((0 : Int) ≤ (0 : Int))
        (Tree.need ((0 : Int) ≤ (64 : Int))
          (Tree.need ((64 : Int) ≤ (↑w.size : Int))
            (Tree.need (Slf (some [AV.ptr (0 : Nat) (0 : Nat), AV.s (SV.int IntKind.i64 ((4 : Int) * n + (0 : Int))), AV.s (SV.str (w.extract (Int.toNat (0 : Int)) (Int.toNat (64 : Int))))]))
              (Tree.need (Slf (some [AObj.own [AV.s (SV.ro (Con.strs t)), AV.s (SV.ro (Con.typ cK a)), AV.s (SV.int IntKind.i64 f)] (115 : Nat)]))
                (Tree.need (okR t a f)
                  (Tree.ite (rwE t f ((4 : Int) * n + (0 : Int)) (w.extract (Int.toNat (0 : Int)) (Int.toNat (64 : Int))) != (0 : Int)) (Tree.ret [AObj.own [AV.s (SV.ro (Con.strs t)), AV.s (SV.ro (Con.typ cK (rwA t a f ((4 : Int) * n + (0 : Int)) (w.extract (Int.toNat (0 : Int)) (Int.toNat (64 : Int)))))), AV.s (SV.int IntKind.i64 (rwF t f ((4 : Int) * n + (0 : Int)) (w.extract (Int.toNat (0 : Int)) (Int.toNat (64 : Int)))))] (115 : Nat)] (AV.s (SV.int IntKind.i64 (rwE t f ((4 : Int) * n + (0 : Int)) (w.extract (Int.toNat (0 : Int)) (Int.toNat (64 : Int)))))))
                    (Tree.need (inI64 ((4 : Int) * n))
                      (Tree.need (inI64 ((4 : Int) * n + (1 : Int)))
                        (Tree.need ((0 : Int) ≤ (64 : Int))
                          (Tree.need ((64 : Int) ≤ (128 : Int))
                            (Tree.need ((128 : Int) ≤ (↑w.size : Int))
                              (Tree.need (Slf (some [AV.ptr (0 : Nat) (0 : Nat), AV.s (SV.int IntKind.i64 ((4 : Int) * n + (1 : Int))), AV.s (SV.str (w.extract (Int.toNat (64 : Int)) (Int.toNat (128 : Int))))]))
                                (Tree.need (Slf (some [AObj.own [AV.s (SV.ro (Con.strs t)), AV.s (SV.ro (Con.typ cK (rwA t a f ((4 : Int) * n + (0 : Int)) (w.extract (Int.toNat (0 : Int)) (Int.toNat (64 : Int)))))), AV.s (SV.int IntKind.i64 (rwF t f ((4 : Int) * n + (0 : Int)) (w.extract (Int.toNat (0 : Int)) (Int.toNat (64 : Int)))))] (115 : Nat)]))
                                  (Tree.need (okR t (rwA t a f ((4 : Int) * n + (0 : Int)) (w.extract (Int.toNat (0 : Int)) (Int.toNat (64 : Int)))) (rwF t f ((4 : Int) * n + (0 : Int)) (w.extract (Int.toNat (0 : Int)) (Int.toNat (64 : Int)))))
                                    (Tree.ite (rwE t (rwF t f ((4 : Int) * n + (0 : Int)) (w.extract (Int.toNat (0 : Int)) (Int.toNat (64 : Int)))) ((4 : Int) * n + (1 : Int)) (w.extract (Int.toNat (64 : Int)) (Int.toNat (128 : Int))) != (0 : Int)) (Tree.ret [AObj.own [AV.s (SV.ro (Con.strs t)), AV.s (SV.ro (Con.typ cK (rwA t (rwA t a f ((4 : Int) * n + (0 : Int)) (w.extract (Int.toNat (0 : Int)) (Int.toNat (64 : Int)))) (rwF t f ((4 : Int) * n + (0 : Int)) (w.extract (Int.toNat (0 : Int)) (Int.toNat (64 : Int)))) ((4 : Int) * n + (1 : Int)) (w.extract (Int.toNat (64 : Int)) (Int.toNat (128 : Int)))))), AV.s (SV.int IntKind.i64 (rwF t (rwF t f ((4 : Int) * n + (0 : Int)) (w.extract (Int.toNat (0 : Int)) (Int.toNat (64 : Int)))) ((4 : Int) * n + (1 : Int)) (w.extract (Int.toNat (64 : Int)) (Int.toNat (128 : Int)))))] (115 : Nat)] (AV.s (SV.int IntKind.i64 (rwE t (rwF t f ((4 : Int) * n + (0 : Int)) (w.extract (Int.toNat (0 : Int)) (Int.toNat (64 : Int)))) ((4 : Int) * n + (1 : Int)) (w.extract (Int.toNat (64 : Int)) (Int.toNat (128 : Int)))))))
                                      (Tree.need (inI64 ((4 : Int) * n))
                                        (Tree.need (inI64 ((4 : Int) * n + (2 : Int)))
                                          (Tree.need ((0 : Int) ≤ (128 : Int))
                                            (Tree.need ((128 : Int) ≤ (192 : Int))
                                              (Tree.need ((192 : Int) ≤ (↑w.size : Int))
                                                (Tree.need (Slf (some [AV.ptr (0 : Nat) (0 : Nat), AV.s (SV.int IntKind.i64 ((4 : Int) * n + (2 : Int))), AV.s (SV.str (w.extract (Int.toNat (128 : Int)) (Int.toNat (192 : Int))))]))
                                                  (Tree.need (Slf (some [AObj.own [AV.s (SV.ro (Con.strs t)), AV.s (SV.ro (Con.typ cK (rwA t (rwA t a f ((4 : Int) * n + (0 : Int)) (w.extract (Int.toNat (0 : Int)) (Int.toNat (64 : Int)))) (rwF t f ((4 : Int) * n + (0 : Int)) (w.extract (Int.toNat (0 : Int)) (Int.toNat (64 : Int)))) ((4 : Int) * n + (1 : Int)) (w.extract (Int.toNat (64 : Int)) (Int.toNat (128 : Int)))))), AV.s (SV.int IntKind.i64 (rwF t (rwF t f ((4 : Int) * n + (0 : Int)) (w.extract (Int.toNat (0 : Int)) (Int.toNat (64 : Int)))) ((4 : Int) * n + (1 : Int)) (w.extract (Int.toNat (64 : Int)) (Int.toNat (128 : Int)))))] (115 : Nat)]))
                                                    (Tree.need (okR t (rwA t (rwA t a f ((4 : Int) * n + (0 : Int)) (w.extract (Int.toNat (0 : Int)) (Int.toNat (64 : Int)))) (rwF t f ((4 : Int) * n + (0 : Int)) (w.extract (Int.toNat (0 : Int)) (Int.toNat (64 : Int)))) ((4 : Int) * n + (1 : Int)) (w.extract (Int.toNat (64 : Int)) (Int.toNat (128 : Int)))) (rwF t (rwF t f ((4 : Int) * n + (0 : Int)) (w.extract (Int.toNat (0 : Int)) (Int.toNat (64 : Int)))) ((4 : Int) * n + (1 : Int)) (w.extract (Int.toNat (64 : Int)) (Int.toNat (128 : Int)))))
                                                      (Tree.ite (rwE t (rwF t (rwF t f ((4 : Int) * n + (0 : Int)) (w.extract (Int.toNat (0 : Int)) (Int.toNat (64 : Int)))) ((4 : Int) * n + (1 : Int)) (w.extract (Int.toNat (64 : Int)) (Int.toNat (128 : Int)))) ((4 : Int) * n + (2 : Int)) (w.extract (Int.toNat (128 : Int)) (Int.toNat (192 : Int))) != (0 : Int)) (Tree.ret [AObj.own [AV.s (SV.ro (Con.strs t)), AV.s (SV.ro (Con.typ cK (rwA t (rwA t (rwA t a f ((4 : Int) * n + (0 : Int)) (w.extract (Int.toNat (0 : Int)) (Int.toNat (64 : Int)))) (rwF t f ((4 : Int) * n + (0 : Int)) (w.extract (Int.toNat (0 : Int)) (Int.toNat (64 : Int)))) ((4 : Int) * n + (1 : Int)) (w.extract (Int.toNat (64 : Int)) (Int.toNat (128 : Int)))) (rwF t (rwF t f ((4 : Int) * n + (0 : Int)) (w.extract (Int.toNat (0 : Int)) (Int.toNat (64 : Int)))) ((4 : Int) * n + (1 : Int)) (w.extract (Int.toNat (64 : Int)) (Int.toNat (128 : Int)))) ((4 : Int) * n + (2 : Int)) (w.extract (Int.toNat (128 : Int)) (Int.toNat (192 : Int)))))), AV.s (SV.int IntKind.i64 (rwF t (rwF t (rwF t f ((4 : Int) * n + (0 : Int)) (w.extract (Int.toNat (0 : Int)) (Int.toNat (64 : Int)))) ((4 : Int) * n + (1 : Int)) (w.extract (Int.toNat (64 : Int)) (Int.toNat (128 : Int)))) ((4 : Int) * n + (2 : Int)) (w.extract (Int.toNat (128 : Int)) (Int.toNat (192 : Int)))))] (115 : Nat)] (AV.s (SV.int IntKind.i64 (rwE t (rwF t (rwF t f ((4 : Int) * n + (0 : Int)) (w.extract (Int.toNat (0 : Int)) (Int.toNat (64 : Int)))) ((4 : Int) * n + (1 : Int)) (w.extract (Int.toNat (64 : Int)) (Int.toNat (128 : Int)))) ((4 : Int) * n + (2 : Int)) (w.extract (Int.toNat (128 : Int)) (Int.toNat (192 : Int)))))))
                                                        (Tree.need (inI64 ((4 : Int) * n))
                                                          (Tree.need (inI64 ((4 : Int) * n + (3 : Int)))
                                                            (Tree.need ((0 : Int) ≤ (192 : Int))
                                                              (Tree.need ((192 : Int) ≤ (256 : Int))
                                                                (Tree.need ((256 : Int) ≤ (↑w.size : Int))
                                                                  (Tree.need (Slf (some [AV.ptr (0 : Nat) (0 : Nat), AV.s (SV.int IntKind.i64 ((4 : Int) * n + (3 : Int))), AV.s (SV.str (w.extract (Int.toNat (192 : Int)) (Int.toNat (256 : Int))))]))
                                                                    (Tree.need (Slf (some [AObj.own [AV.s (SV.ro (Con.strs t)), AV.s (SV.ro (Con.typ cK (rwA t (rwA t (rwA t a f ((4 : Int) * n + (0 : Int)) (w.extract (Int.toNat (0 : Int)) (Int.toNat (64 : Int)))) (rwF t f ((4 : Int) * n + (0 : Int)) (w.extract (Int.toNat (0 : Int)) (Int.toNat (64 : Int)))) ((4 : Int) * n + (1 : Int)) (w.extract (Int.toNat (64 : Int)) (Int.toNat (128 : Int)))) (rwF t (rwF t f ((4 : Int) * n + (0 : Int)) (w.extract (Int.toNat (0 : Int)) (Int.toNat (64 : Int)))) ((4 : Int) * n + (1 : Int)) (w.extract (Int.toNat (64 : Int)) (Int.toNat (128 : Int)))) ((4 : Int) * n + (2 : Int)) (w.extract (Int.toNat (128 : Int)) (Int.toNat (192 : Int)))))), AV.s (SV.int IntKind.i64 (rwF t (rwF t (rwF t f ((4 : Int) * n + (0 : Int)) (w.extract (Int.toNat (0 : Int)) (Int.toNat (64 : Int)))) ((4 : Int) * n + (1 : Int)) (w.extract (Int.toNat (64 : Int)) (Int.toNat (128 : Int)))) ((4 : Int) * n + (2 : Int)) (w.extract (Int.toNat (128 : Int)) (Int.toNat (192 : Int)))))] (115 : Nat)]))
                                                                      (Tree.need (okR t (rwA t (rwA t (rwA t a f ((4 : Int) * n + (0 : Int)) (w.extract (Int.toNat (0 : Int)) (Int.toNat (64 : Int)))) (rwF t f ((4 : Int) * n + (0 : Int)) (w.extract (Int.toNat (0 : Int)) (Int.toNat (64 : Int)))) ((4 : Int) * n + (1 : Int)) (w.extract (Int.toNat (64 : Int)) (Int.toNat (128 : Int)))) (rwF t (rwF t f ((4 : Int) * n + (0 : Int)) (w.extract (Int.toNat (0 : Int)) (Int.toNat (64 : Int)))) ((4 : Int) * n + (1 : Int)) (w.extract (Int.toNat (64 : Int)) (Int.toNat (128 : Int)))) ((4 : Int) * n + (2 : Int)) (w.extract (Int.toNat (128 : Int)) (Int.toNat (192 : Int)))) (rwF t (rwF t (rwF t f ((4 : Int) * n + (0 : Int)) (w.extract (Int.toNat (0 : Int)) (Int.toNat (64 : Int)))) ((4 : Int) * n + (1 : Int)) (w.extract (Int.toNat (64 : Int)) (Int.toNat (128 : Int)))) ((4 : Int) * n + (2 : Int)) (w.extract (Int.toNat (128 : Int)) (Int.toNat (192 : Int)))))
                                                                        (Tree.ite (rwE t (rwF t (rwF t (rwF t f ((4 : Int) * n + (0 : Int)) (w.extract (Int.toNat (0 : Int)) (Int.toNat (64 : Int)))) ((4 : Int) * n + (1 : Int)) (w.extract (Int.toNat (64 : Int)) (Int.toNat (128 : Int)))) ((4 : Int) * n + (2 : Int)) (w.extract (Int.toNat (128 : Int)) (Int.toNat (192 : Int)))) ((4 : Int) * n + (3 : Int)) (w.extract (Int.toNat (192 : Int)) (Int.toNat (256 : Int))) != (0 : Int)) (Tree.ret [AObj.own [AV.s (SV.ro (Con.strs t)), AV.s (SV.ro (Con.typ cK (rwA t (rwA t (rwA t (rwA t a f ((4 : Int) * n + (0 : Int)) (w.extract (Int.toNat (0 : Int)) (Int.toNat (64 : Int)))) (rwF t f ((4 : Int) * n + (0 : Int)) (w.extract (Int.toNat (0 : Int)) (Int.toNat (64 : Int)))) ((4 : Int) * n + (1 : Int)) (w.extract (Int.toNat (64 : Int)) (Int.toNat (128 : Int)))) (rwF t (rwF t f ((4 : Int) * n + (0 : Int)) (w.extract (Int.toNat (0 : Int)) (Int.toNat (64 : Int)))) ((4 : Int) * n + (1 : Int)) (w.extract (Int.toNat (64 : Int)) (Int.toNat (128 : Int)))) ((4 : Int) * n + (2 : Int)) (w.extract (Int.toNat (128 : Int)) (Int.toNat (192 : Int)))) (rwF t (rwF t (rwF t f ((4 : Int) * n + (0 : Int)) (w.extract (Int.toNat (0 : Int)) (Int.toNat (64 : Int)))) ((4 : Int) * n + (1 : Int)) (w.extract (Int.toNat (64 : Int)) (Int.toNat (128 : Int)))) ((4 : Int) * n + (2 : Int)) (w.extract (Int.toNat (128 : Int)) (Int.toNat (192 : Int)))) ((4 : Int) * n + (3 : Int)) (w.extract (Int.toNat (192 : Int)) (Int.toNat (256 : Int)))))), AV.s (SV.int IntKind.i64 (rwF t (rwF t (rwF t (rwF t f ((4 : Int) * n + (0 : Int)) (w.extract (Int.toNat (0 : Int)) (Int.toNat (64 : Int)))) ((4 : Int) * n + (1 : Int)) (w.extract (Int.toNat (64 : Int)) (Int.toNat (128 : Int)))) ((4 : Int) * n + (2 : Int)) (w.extract (Int.toNat (128 : Int)) (Int.toNat (192 : Int)))) ((4 : Int) * n + (3 : Int)) (w.extract (Int.toNat (192 : Int)) (Int.toNat (256 : Int)))))] (115 : Nat)] (AV.s (SV.int IntKind.i64 (rwE t (rwF t (rwF t (rwF t f ((4 : Int) * n + (0 : Int)) (w.extract (Int.toNat (0 : Int)) (Int.toNat (64 : Int)))) ((4 : Int) * n + (1 : Int)) (w.extract (Int.toNat (64 : Int)) (Int.toNat (128 : Int)))) ((4 : Int) * n + (2 : Int)) (w.extract (Int.toNat (128 : Int)) (Int.toNat (192 : Int)))) ((4 : Int) * n + (3 : Int)) (w.extract (Int.toNat (192 : Int)) (Int.toNat (256 : Int))))))) (Tree.ret [AObj.own [AV.s (SV.ro (Con.strs t)), AV.s (SV.ro (Con.typ cK (rwA t (rwA t (rwA t (rwA t a f ((4 : Int) * n + (0 : Int)) (w.extract (Int.toNat (0 : Int)) (Int.toNat (64 : Int)))) (rwF t f ((4 : Int) * n + (0 : Int)) (w.extract (Int.toNat (0 : Int)) (Int.toNat (64 : Int)))) ((4 : Int) * n + (1 : Int)) (w.extract (Int.toNat (64 : Int)) (Int.toNat (128 : Int)))) (rwF t (rwF t f ((4 : Int) * n + (0 : Int)) (w.extract (Int.toNat (0 : Int)) (Int.toNat (64 : Int)))) ((4 : Int) * n + (1 : Int)) (w.extract (Int.toNat (64 : Int)) (Int.toNat (128 : Int)))) ((4 : Int) * n + (2 : Int)) (w.extract (Int.toNat (128 : Int)) (Int.toNat (192 : Int)))) (rwF t (rwF t (rwF t f ((4 : Int) * n + (0 : Int)) (w.extract (Int.toNat (0 : Int)) (Int.toNat (64 : Int)))) ((4 : Int) * n + (1 : Int)) (w.extract (Int.toNat (64 : Int)) (Int.toNat (128 : Int)))) ((4 : Int) * n + (2 : Int)) (w.extract (Int.toNat (128 : Int)) (Int.toNat (192 : Int)))) ((4 : Int) * n + (3 : Int)) (w.extract (Int.toNat (192 : Int)) (Int.toNat (256 : Int)))))), AV.s (SV.int IntKind.i64 (rwF t (rwF t (rwF t (rwF t f ((4 : Int) * n + (0 : Int)) (w.extract (Int.toNat (0 : Int)) (Int.toNat (64 : Int)))) ((4 : Int) * n + (1 : Int)) (w.extract (Int.toNat (64 : Int)) (Int.toNat (128 : Int)))) ((4 : Int) * n + (2 : Int)) (w.extract (Int.toNat (128 : Int)) (Int.toNat (192 : Int)))) ((4 : Int) * n + (3 : Int)) (w.extract (Int.toNat (192 : Int)) (Int.toNat (256 : Int)))))] (115 : Nat)] (AV.s (SV.ilit IntKind.i64 (0 : Int)))))))))))))))))))))))))))))))))))))))) := by kernel_rfl
abbrev eQ : TypeId := 77
def nsQo : List (Nat × Norm) := [(unrollKey + 6, ⟨[], [], 1, []⟩), (10, ⟨[], [4, 6, 8], 1, roL⟩)]
theorem trQo (t : List ByteArray) (a : Kp) (f n : Int) : run P tabRP.sum Try.f31 nsQo (start Try.f31 [.ptr 0 0, avI n] [obR t a f]) inRP =
  Tree.ite (decide (n < (0 : Int))) (Tree.ret [AObj.own [AV.s (SV.ro (Con.strs t)), AV.s (SV.ro (Con.typ cK a)), AV.s (SV.int IntKind.i64 f)] (115 : Nat), AObj.own [AV.s (SV.blit false), AV.s (SV.ilit IntKind.i64 (0 : Int)), AV.s (SV.ilit IntKind.i64 (0 : Int))] (77 : Nat)] (AV.tup [AV.agg [AV.s (SV.blit false), AV.s (SV.ilit IntKind.i64 (0 : Int)), AV.s (SV.ilit IntKind.i64 (0 : Int))], AV.s (SV.ilit IntKind.i64 (5 : Int))]))
  (Tree.ite (decide (n > (1 : Int))) (Tree.ret [AObj.own [AV.s (SV.ro (Con.strs t)), AV.s (SV.ro (Con.typ cK a)), AV.s (SV.int IntKind.i64 f)] (115 : Nat), AObj.own [AV.s (SV.blit false), AV.s (SV.ilit IntKind.i64 (0 : Int)), AV.s (SV.ilit IntKind.i64 (0 : Int))] (77 : Nat)] (AV.tup [AV.agg [AV.s (SV.blit false), AV.s (SV.ilit IntKind.i64 (0 : Int)), AV.s (SV.ilit IntKind.i64 (0 : Int))], AV.s (SV.ilit IntKind.i64 (5 : Int))]))
    (Tree.ite (decide (n ≥ (0 : Int)))
      (Tree.need ((4 : Int) ≠ (0 : Int))
        (Tree.need (inI64 ((↑t.length : Int).tdiv (4 : Int)))
          (Tree.ite (!decide (n < (↑t.length : Int).tdiv (4 : Int))) (Tree.ret [AObj.own [AV.s (SV.ro (Con.strs t)), AV.s (SV.ro (Con.typ cK a)), AV.s (SV.int IntKind.i64 f)] (115 : Nat), AObj.own [AV.s (SV.blit false), AV.s (SV.ilit IntKind.i64 (0 : Int)), AV.s (SV.ilit IntKind.i64 (0 : Int))] (77 : Nat)] (AV.tup [AV.agg [AV.s (SV.blit false), AV.s (SV.ilit IntKind.i64 (0 : Int)), AV.s (SV.ilit IntKind.i64 (0 : Int))], AV.s (SV.ilit IntKind.i64 (5 : Int))]))
            (Tree.need (inI64 ((4 : Int) * n))
              (Tree.need (Slf (some [AV.ptr (0 : Nat) (0 : Nat), AV.s (SV.int IntKind.i64 ((4 : Int) * n))]))
                (Tree.need (Slf (some [AObj.own [AV.s (SV.ro (Con.strs t)), AV.s (SV.ro (Con.typ cK a)), AV.s (SV.int IntKind.i64 f)] (115 : Nat)]))
                  (Tree.need (okR t a f)
                    (Tree.need ((0 : Int) ≤ (0 : Int))
                      (Tree.need ((0 : Int) < (↑(rrT t a ((4 : Int) * n)).size : Int))
                        (Tree.need ((0 : Int) ≤ (1 : Int))
                          (Tree.need ((1 : Int) < (↑(rrT t a ((4 : Int) * n)).size : Int))
                            (Tree.need (inI64 (byteAt (rrT t a ((4 : Int) * n)) (Int.toNat (1 : Int))))
                              (Tree.need (inI64 ((0 : Int) + byteAt (rrT t a ((4 : Int) * n)) (Int.toNat (1 : Int))))
                                (Tree.ite (decide ((0 : Int) + byteAt (rrT t a ((4 : Int) * n)) (Int.toNat (1 : Int)) > (1099511627776 : Int))) (Tree.at (Cfg.mk (sl (68 : Nat) [((4 : Nat), AV.ptr (1 : Nat) (0 : Nat)), ((6 : Nat), AV.s (SV.str (rrT t a ((4 : Int) * n)))), ((8 : Nat), AV.ptr (2 : Nat) (0 : Nat))]) [AObj.own [AV.s (SV.ro (Con.strs t)), AV.s (SV.ro (Con.typ cK a)), AV.s (SV.int IntKind.i64 f)] (115 : Nat), AObj.own [AV.s (SV.bool false), AV.s (SV.int IntKind.i64 (0 : Int)), AV.s (SV.int IntKind.i64 (0 : Int))] (77 : Nat), AObj.own [AV.s (SV.bool (byteAt (rrT t a ((4 : Int) * n)) (Int.toNat (0 : Int)) == (1 : Int))), AV.s (SV.int IntKind.i64 ((0 : Int) + byteAt (rrT t a ((4 : Int) * n)) (Int.toNat (1 : Int)))), AV.s (SV.int IntKind.i64 (0 : Int))] (77 : Nat)] (hr Try.f31 (10 : Nat)) (Stk.mk none false (0 : Nat) [] (0 : Nat))))
                                  (Tree.need (inI64 (((0 : Int) + byteAt (rrT t a ((4 : Int) * n)) (Int.toNat (1 : Int))) * (256 : Int)))
                                    (Tree.need ((0 : Int) ≤ (2 : Int))
                                      (Tree.need ((2 : Int) < (↑(rrT t a ((4 : Int) * n)).size : Int))
                                        (Tree.need (inI64 (byteAt (rrT t a ((4 : Int) * n)) (Int.toNat (2 : Int))))
                                          (Tree.need (inI64 (((0 : Int) + byteAt (rrT t a ((4 : Int) * n)) (Int.toNat (1 : Int))) * (256 : Int) + byteAt (rrT t a ((4 : Int) * n)) (Int.toNat (2 : Int))))
                                            (Tree.ite (decide (((0 : Int) + byteAt (rrT t a ((4 : Int) * n)) (Int.toNat (1 : Int))) * (256 : Int) + byteAt (rrT t a ((4 : Int) * n)) (Int.toNat (2 : Int)) > (1099511627776 : Int))) (Tree.at (Cfg.mk (sl (68 : Nat) [((4 : Nat), AV.ptr (1 : Nat) (0 : Nat)), ((6 : Nat), AV.s (SV.str (rrT t a ((4 : Int) * n)))), ((8 : Nat), AV.ptr (2 : Nat) (0 : Nat))]) [AObj.own [AV.s (SV.ro (Con.strs t)), AV.s (SV.ro (Con.typ cK a)), AV.s (SV.int IntKind.i64 f)] (115 : Nat), AObj.own [AV.s (SV.bool false), AV.s (SV.int IntKind.i64 (0 : Int)), AV.s (SV.int IntKind.i64 (0 : Int))] (77 : Nat), AObj.own [AV.s (SV.bool (byteAt (rrT t a ((4 : Int) * n)) (Int.toNat (0 : Int)) == (1 : Int))), AV.s (SV.int IntKind.i64 (((0 : Int) + byteAt (rrT t a ((4 : Int) * n)) (Int.toNat (1 : Int))) * (256 : Int) + byteAt (rrT t a ((4 : Int) * n)) (Int.toNat (2 : Int)))), AV.s (SV.int IntKind.i64 (0 : Int))] (77 : Nat)] (hr Try.f31 (10 : Nat)) (Stk.mk none false (0 : Nat) [] (0 : Nat))))
                                              (Tree.need (inI64 ((((0 : Int) + byteAt (rrT t a ((4 : Int) * n)) (Int.toNat (1 : Int))) * (256 : Int) + byteAt (rrT t a ((4 : Int) * n)) (Int.toNat (2 : Int))) * (256 : Int)))
                                                (Tree.need ((0 : Int) ≤ (3 : Int))
                                                  (Tree.need ((3 : Int) < (↑(rrT t a ((4 : Int) * n)).size : Int))
                                                    (Tree.need (inI64 (byteAt (rrT t a ((4 : Int) * n)) (Int.toNat (3 : Int))))
                                                      (Tree.need (inI64 ((((0 : Int) + byteAt (rrT t a ((4 : Int) * n)) (Int.toNat (1 : Int))) * (256 : Int) + byteAt (rrT t a ((4 : Int) * n)) (Int.toNat (2 : Int))) * (256 : Int) + byteAt (rrT t a ((4 : Int) * n)) (Int.toNat (3 : Int))))
                                                        (Tree.ite (decide ((((0 : Int) + byteAt (rrT t a ((4 : Int) * n)) (Int.toNat (1 : Int))) * (256 : Int) + byteAt (rrT t a ((4 : Int) * n)) (Int.toNat (2 : Int))) * (256 : Int) + byteAt (rrT t a ((4 : Int) * n)) (Int.toNat (3 : Int)) > (1099511627776 : Int))) (Tree.at (Cfg.mk (sl (68 : Nat) [((4 : Nat), AV.ptr (1 : Nat) (0 : Nat)), ((6 : Nat), AV.s (SV.str (rrT t a ((4 : Int) * n)))), ((8 : Nat), AV.ptr (2 : Nat) (0 : Nat))]) [AObj.own [AV.s (SV.ro (Con.strs t)), AV.s (SV.ro (Con.typ cK a)), AV.s (SV.int IntKind.i64 f)] (115 : Nat), AObj.own [AV.s (SV.bool false), AV.s (SV.int IntKind.i64 (0 : Int)), AV.s (SV.int IntKind.i64 (0 : Int))] (77 : Nat), AObj.own [AV.s (SV.bool (byteAt (rrT t a ((4 : Int) * n)) (Int.toNat (0 : Int)) == (1 : Int))), AV.s (SV.int IntKind.i64 ((((0 : Int) + byteAt (rrT t a ((4 : Int) * n)) (Int.toNat (1 : Int))) * (256 : Int) + byteAt (rrT t a ((4 : Int) * n)) (Int.toNat (2 : Int))) * (256 : Int) + byteAt (rrT t a ((4 : Int) * n)) (Int.toNat (3 : Int)))), AV.s (SV.int IntKind.i64 (0 : Int))] (77 : Nat)] (hr Try.f31 (10 : Nat)) (Stk.mk none false (0 : Nat) [] (0 : Nat))))
                                                          (Tree.need (inI64 (((((0 : Int) + byteAt (rrT t a ((4 : Int) * n)) (Int.toNat (1 : Int))) * (256 : Int) + byteAt (rrT t a ((4 : Int) * n)) (Int.toNat (2 : Int))) * (256 : Int) + byteAt (rrT t a ((4 : Int) * n)) (Int.toNat (3 : Int))) * (256 : Int)))
                                                            (Tree.need ((0 : Int) ≤ (4 : Int))
                                                              (Tree.need ((4 : Int) < (↑(rrT t a ((4 : Int) * n)).size : Int))
                                                                (Tree.need (inI64 (byteAt (rrT t a ((4 : Int) * n)) (Int.toNat (4 : Int))))
                                                                  (Tree.need (inI64 (((((0 : Int) + byteAt (rrT t a ((4 : Int) * n)) (Int.toNat (1 : Int))) * (256 : Int) + byteAt (rrT t a ((4 : Int) * n)) (Int.toNat (2 : Int))) * (256 : Int) + byteAt (rrT t a ((4 : Int) * n)) (Int.toNat (3 : Int))) * (256 : Int) + byteAt (rrT t a ((4 : Int) * n)) (Int.toNat (4 : Int))))
                                                                    (Tree.ite (decide (((((0 : Int) + byteAt (rrT t a ((4 : Int) * n)) (Int.toNat (1 : Int))) * (256 : Int) + byteAt (rrT t a ((4 : Int) * n)) (Int.toNat (2 : Int))) * (256 : Int) + byteAt (rrT t a ((4 : Int) * n)) (Int.toNat (3 : Int))) * (256 : Int) + byteAt (rrT t a ((4 : Int) * n)) (Int.toNat (4 : Int)) > (1099511627776 : Int))) (Tree.at (Cfg.mk (sl (68 : Nat) [((4 : Nat), AV.ptr (1 : Nat) (0 : Nat)), ((6 : Nat), AV.s (SV.str (rrT t a ((4 : Int) * n)))), ((8 : Nat), AV.ptr (2 : Nat) (0 : Nat))]) [AObj.own [AV.s (SV.ro (Con.strs t)), AV.s (SV.ro (Con.typ cK a)), AV.s (SV.int IntKind.i64 f)] (115 : Nat), AObj.own [AV.s (SV.bool false), AV.s (SV.int IntKind.i64 (0 : Int)), AV.s (SV.int IntKind.i64 (0 : Int))] (77 : Nat), AObj.own [AV.s (SV.bool (byteAt (rrT t a ((4 : Int) * n)) (Int.toNat (0 : Int)) == (1 : Int))), AV.s (SV.int IntKind.i64 (((((0 : Int) + byteAt (rrT t a ((4 : Int) * n)) (Int.toNat (1 : Int))) * (256 : Int) + byteAt (rrT t a ((4 : Int) * n)) (Int.toNat (2 : Int))) * (256 : Int) + byteAt (rrT t a ((4 : Int) * n)) (Int.toNat (3 : Int))) * (256 : Int) + byteAt (rrT t a ((4 : Int) * n)) (Int.toNat (4 : Int)))), AV.s (SV.int IntKind.i64 (0 : Int))] (77 : Nat)] (hr Try.f31 (10 : Nat)) (Stk.mk none false (0 : Nat) [] (0 : Nat))))
                                                                      (Tree.need (inI64 ((((((0 : Int) + byteAt (rrT t a ((4 : Int) * n)) (Int.toNat (1 : Int))) * (256 : Int) + byteAt (rrT t a ((4 : Int) * n)) (Int.toNat (2 : Int))) * (256 : Int) + byteAt (rrT t a ((4 : Int) * n)) (Int.toNat (3 : Int))) * (256 : Int) + byteAt (rrT t a ((4 : Int) * n)) (Int.toNat (4 : Int))) * (256 : Int)))
                                                                        (Tree.need ((0 : Int) ≤ (5 : Int))
                                                                          (Tree.need ((5 : Int) < (↑(rrT t a ((4 : Int) * n)).size : Int))
                                                                            (Tree.need (inI64 (byteAt (rrT t a ((4 : Int) * n)) (Int.toNat (5 : Int))))
                                                                              (Tree.need (inI64 ((((((0 : Int) + byteAt (rrT t a ((4 : Int) * n)) (Int.toNat (1 : Int))) * (256 : Int) + byteAt (rrT t a ((4 : Int) * n)) (Int.toNat (2 : Int))) * (256 : Int) + byteAt (rrT t a ((4 : Int) * n)) (Int.toNat (3 : Int))) * (256 : Int) + byteAt (rrT t a ((4 : Int) * n)) (Int.toNat (4 : Int))) * (256 : Int) + byteAt (rrT t a ((4 : Int) * n)) (Int.toNat (5 : Int))))
                                                                                (Tree.ite (decide ((((((0 : Int) + byteAt (rrT t a ((4 : Int) * n)) (Int.toNat (1 : Int))) * (256 : Int) + byteAt (rrT t a ((4 : Int) * n)) (Int.toNat (2 : Int))) * (256 : Int) + byteAt (rrT t a ((4 : Int) * n)) (Int.toNat (3 : Int))) * (256 : Int) + byteAt (rrT t a ((4 : Int) * n)) (Int.toNat (4 : Int))) * (256 : Int) + byteAt (rrT t a ((4 : Int) * n)) (Int.toNat (5 : Int)) > (1099511627776 : Int))) (Tree.at (Cfg.mk (sl (68 : Nat) [((4 : Nat), AV.ptr (1 : Nat) (0 : Nat)), ((6 : Nat), AV.s (SV.str (rrT t a ((4 : Int) * n)))), ((8 : Nat), AV.ptr (2 : Nat) (0 : Nat))]) [AObj.own [AV.s (SV.ro (Con.strs t)), AV.s (SV.ro (Con.typ cK a)), AV.s (SV.int IntKind.i64 f)] (115 : Nat), AObj.own [AV.s (SV.bool false), AV.s (SV.int IntKind.i64 (0 : Int)), AV.s (SV.int IntKind.i64 (0 : Int))] (77 : Nat), AObj.own [AV.s (SV.bool (byteAt (rrT t a ((4 : Int) * n)) (Int.toNat (0 : Int)) == (1 : Int))), AV.s (SV.int IntKind.i64 ((((((0 : Int) + byteAt (rrT t a ((4 : Int) * n)) (Int.toNat (1 : Int))) * (256 : Int) + byteAt (rrT t a ((4 : Int) * n)) (Int.toNat (2 : Int))) * (256 : Int) + byteAt (rrT t a ((4 : Int) * n)) (Int.toNat (3 : Int))) * (256 : Int) + byteAt (rrT t a ((4 : Int) * n)) (Int.toNat (4 : Int))) * (256 : Int) + byteAt (rrT t a ((4 : Int) * n)) (Int.toNat (5 : Int)))), AV.s (SV.int IntKind.i64 (0 : Int))] (77 : Nat)] (hr Try.f31 (10 : Nat)) (Stk.mk none false (0 : Nat) [] (0 : Nat))))
                                                                                  (Tree.need (inI64 (((((((0 : Int) + byteAt (rrT t a ((4 : Int) * n)) (Int.toNat (1 : Int))) * (256 : Int) + byteAt (rrT t a ((4 : Int) * n)) (Int.toNat (2 : Int))) * (256 : Int) + byteAt (rrT t a ((4 : Int) * n)) (Int.toNat (3 : Int))) * (256 : Int) + byteAt (rrT t a ((4 : Int) * n)) (Int.toNat (4 : Int))) * (256 : Int) + byteAt (rrT t a ((4 : Int) * n)) (Int.toNat (5 : Int))) * (256 : Int)))
                                                                                    (Tree.need ((0 : Int) ≤ (6 : Int))
                                                                                      (Tree.need ((6 : Int) < (↑(rrT t a ((4 : Int) * n)).size : Int))
                                                                                        (Tree.need (inI64 (byteAt (rrT t a ((4 : Int) * n)) (Int.toNat (6 : Int))))
                                                                                          (Tree.need (inI64 (((((((0 : Int) + byteAt (rrT t a ((4 : Int) * n)) (Int.toNat (1 : Int))) * (256 : Int) + byteAt (rrT t a ((4 : Int) * n)) (Int.toNat (2 : Int))) * (256 : Int) + byteAt (rrT t a ((4 : Int) * n)) (Int.toNat (3 : Int))) * (256 : Int) + byteAt (rrT t a ((4 : Int) * n)) (Int.toNat (4 : Int))) * (256 : Int) + byteAt (rrT t a ((4 : Int) * n)) (Int.toNat (5 : Int))) * (256 : Int) + byteAt (rrT t a ((4 : Int) * n)) (Int.toNat (6 : Int))))
                                                                                            (Tree.ite (decide (((((((0 : Int) + byteAt (rrT t a ((4 : Int) * n)) (Int.toNat (1 : Int))) * (256 : Int) + byteAt (rrT t a ((4 : Int) * n)) (Int.toNat (2 : Int))) * (256 : Int) + byteAt (rrT t a ((4 : Int) * n)) (Int.toNat (3 : Int))) * (256 : Int) + byteAt (rrT t a ((4 : Int) * n)) (Int.toNat (4 : Int))) * (256 : Int) + byteAt (rrT t a ((4 : Int) * n)) (Int.toNat (5 : Int))) * (256 : Int) + byteAt (rrT t a ((4 : Int) * n)) (Int.toNat (6 : Int)) > (1099511627776 : Int))) (Tree.at (Cfg.mk (sl (68 : Nat) [((4 : Nat), AV.ptr (1 : Nat) (0 : Nat)), ((6 : Nat), AV.s (SV.str (rrT t a ((4 : Int) * n)))), ((8 : Nat), AV.ptr (2 : Nat) (0 : Nat))]) [AObj.own [AV.s (SV.ro (Con.strs t)), AV.s (SV.ro (Con.typ cK a)), AV.s (SV.int IntKind.i64 f)] (115 : Nat), AObj.own [AV.s (SV.bool false), AV.s (SV.int IntKind.i64 (0 : Int)), AV.s (SV.int IntKind.i64 (0 : Int))] (77 : Nat), AObj.own [AV.s (SV.bool (byteAt (rrT t a ((4 : Int) * n)) (Int.toNat (0 : Int)) == (1 : Int))), AV.s (SV.int IntKind.i64 (((((((0 : Int) + byteAt (rrT t a ((4 : Int) * n)) (Int.toNat (1 : Int))) * (256 : Int) + byteAt (rrT t a ((4 : Int) * n)) (Int.toNat (2 : Int))) * (256 : Int) + byteAt (rrT t a ((4 : Int) * n)) (Int.toNat (3 : Int))) * (256 : Int) + byteAt (rrT t a ((4 : Int) * n)) (Int.toNat (4 : Int))) * (256 : Int) + byteAt (rrT t a ((4 : Int) * n)) (Int.toNat (5 : Int))) * (256 : Int) + byteAt (rrT t a ((4 : Int) * n)) (Int.toNat (6 : Int)))), AV.s (SV.int IntKind.i64 (0 : Int))] (77 : Nat)] (hr Try.f31 (10 : Nat)) (Stk.mk none false (0 : Nat) [] (0 : Nat))))
                                                                                              (Tree.need (inI64 ((((((((0 : Int) + byteAt (rrT t a ((4 : Int) * n)) (Int.toNat (1 : Int))) * (256 : Int) + byteAt (rrT t a ((4 : Int) * n)) (Int.toNat (2 : Int))) * (256 : Int) + byteAt (rrT t a ((4 : Int) * n)) (Int.toNat (3 : Int))) * (256 : Int) + byteAt (rrT t a ((4 : Int) * n)) (Int.toNat (4 : Int))) * (256 : Int) + byteAt (rrT t a ((4 : Int) * n)) (Int.toNat (5 : Int))) * (256 : Int) + byteAt (rrT t a ((4 : Int) * n)) (Int.toNat (6 : Int))) * (256 : Int)))
                                                                                                (Tree.need ((0 : Int) ≤ (7 : Int))
                                                                                                  (Tree.need ((7 : Int) < (↑(rrT t a ((4 : Int) * n)).size : Int))
                                                                                                    (Tree.need (inI64 (byteAt (rrT t a ((4 : Int) * n)) (Int.toNat (7 : Int))))
                                                                                                      (Tree.need (inI64 ((((((((0 : Int) + byteAt (rrT t a ((4 : Int) * n)) (Int.toNat (1 : Int))) * (256 : Int) + byteAt (rrT t a ((4 : Int) * n)) (Int.toNat (2 : Int))) * (256 : Int) + byteAt (rrT t a ((4 : Int) * n)) (Int.toNat (3 : Int))) * (256 : Int) + byteAt (rrT t a ((4 : Int) * n)) (Int.toNat (4 : Int))) * (256 : Int) + byteAt (rrT t a ((4 : Int) * n)) (Int.toNat (5 : Int))) * (256 : Int) + byteAt (rrT t a ((4 : Int) * n)) (Int.toNat (6 : Int))) * (256 : Int) + byteAt (rrT t a ((4 : Int) * n)) (Int.toNat (7 : Int))))
                                                                                                        (Tree.ite (decide ((((((((0 : Int) + byteAt (rrT t a ((4 : Int) * n)) (Int.toNat (1 : Int))) * (256 : Int) + byteAt (rrT t a ((4 : Int) * n)) (Int.toNat (2 : Int))) * (256 : Int) + byteAt (rrT t a ((4 : Int) * n)) (Int.toNat (3 : Int))) * (256 : Int) + byteAt (rrT t a ((4 : Int) * n)) (Int.toNat (4 : Int))) * (256 : Int) + byteAt (rrT t a ((4 : Int) * n)) (Int.toNat (5 : Int))) * (256 : Int) + byteAt (rrT t a ((4 : Int) * n)) (Int.toNat (6 : Int))) * (256 : Int) + byteAt (rrT t a ((4 : Int) * n)) (Int.toNat (7 : Int)) > (1099511627776 : Int))) (Tree.at (Cfg.mk (sl (68 : Nat) [((4 : Nat), AV.ptr (1 : Nat) (0 : Nat)), ((6 : Nat), AV.s (SV.str (rrT t a ((4 : Int) * n)))), ((8 : Nat), AV.ptr (2 : Nat) (0 : Nat))]) [AObj.own [AV.s (SV.ro (Con.strs t)), AV.s (SV.ro (Con.typ cK a)), AV.s (SV.int IntKind.i64 f)] (115 : Nat), AObj.own [AV.s (SV.bool false), AV.s (SV.int IntKind.i64 (0 : Int)), AV.s (SV.int IntKind.i64 (0 : Int))] (77 : Nat), AObj.own [AV.s (SV.bool (byteAt (rrT t a ((4 : Int) * n)) (Int.toNat (0 : Int)) == (1 : Int))), AV.s (SV.int IntKind.i64 ((((((((0 : Int) + byteAt (rrT t a ((4 : Int) * n)) (Int.toNat (1 : Int))) * (256 : Int) + byteAt (rrT t a ((4 : Int) * n)) (Int.toNat (2 : Int))) * (256 : Int) + byteAt (rrT t a ((4 : Int) * n)) (Int.toNat (3 : Int))) * (256 : Int) + byteAt (rrT t a ((4 : Int) * n)) (Int.toNat (4 : Int))) * (256 : Int) + byteAt (rrT t a ((4 : Int) * n)) (Int.toNat (5 : Int))) * (256 : Int) + byteAt (rrT t a ((4 : Int) * n)) (Int.toNat (6 : Int))) * (256 : Int) + byteAt (rrT t a ((4 : Int) * n)) (Int.toNat (7 : Int)))), AV.s (SV.int IntKind.i64 (0 : Int))] (77 : Nat)] (hr Try.f31 (10 : Nat)) (Stk.mk none false (0 : Nat) [] (0 : Nat))))
                                                                                                          (Tree.need (inI64 (((((((((0 : Int) + byteAt (rrT t a ((4 : Int) * n)) (Int.toNat (1 : Int))) * (256 : Int) + byteAt (rrT t a ((4 : Int) * n)) (Int.toNat (2 : Int))) * (256 : Int) + byteAt (rrT t a ((4 : Int) * n)) (Int.toNat (3 : Int))) * (256 : Int) + byteAt (rrT t a ((4 : Int) * n)) (Int.toNat (4 : Int))) * (256 : Int) + byteAt (rrT t a ((4 : Int) * n)) (Int.toNat (5 : Int))) * (256 : Int) + byteAt (rrT t a ((4 : Int) * n)) (Int.toNat (6 : Int))) * (256 : Int) + byteAt (rrT t a ((4 : Int) * n)) (Int.toNat (7 : Int))) * (256 : Int))) (Tree.need ((0 : Int) ≤ (8 : Int)) (Tree.need ((8 : Int) < (↑(rrT t a ((4 : Int) * n)).size : Int)) (Tree.need (inI64 (byteAt (rrT t a ((4 : Int) * n)) (Int.toNat (8 : Int)))) (Tree.need (inI64 (((((((((0 : Int) + byteAt (rrT t a ((4 : Int) * n)) (Int.toNat (1 : Int))) * (256 : Int) + byteAt (rrT t a ((4 : Int) * n)) (Int.toNat (2 : Int))) * (256 : Int) + byteAt (rrT t a ((4 : Int) * n)) (Int.toNat (3 : Int))) * (256 : Int) + byteAt (rrT t a ((4 : Int) * n)) (Int.toNat (4 : Int))) * (256 : Int) + byteAt (rrT t a ((4 : Int) * n)) (Int.toNat (5 : Int))) * (256 : Int) + byteAt (rrT t a ((4 : Int) * n)) (Int.toNat (6 : Int))) * (256 : Int) + byteAt (rrT t a ((4 : Int) * n)) (Int.toNat (7 : Int))) * (256 : Int) + byteAt (rrT t a ((4 : Int) * n)) (Int.toNat (8 : Int)))) (Tree.at (Cfg.mk (sl (68 : Nat) [((4 : Nat), AV.ptr (1 : Nat) (0 : Nat)), ((6 : Nat), AV.s (SV.str (rrT t a ((4 : Int) * n)))), ((8 : Nat), AV.ptr (2 : Nat) (0 : Nat))]) [AObj.own [AV.s (SV.ro (Con.strs t)), AV.s (SV.ro (Con.typ cK a)), AV.s (SV.int IntKind.i64 f)] (115 : Nat), AObj.own [AV.s (SV.bool false), AV.s (SV.int IntKind.i64 (0 : Int)), AV.s (SV.int IntKind.i64 (0 : Int))] (77 : Nat), AObj.own [AV.s (SV.bool (byteAt (rrT t a ((4 : Int) * n)) (Int.toNat (0 : Int)) == (1 : Int))), AV.s (SV.int IntKind.i64 (((((((((0 : Int) + byteAt (rrT t a ((4 : Int) * n)) (Int.toNat (1 : Int))) * (256 : Int) + byteAt (rrT t a ((4 : Int) * n)) (Int.toNat (2 : Int))) * (256 : Int) + byteAt (rrT t a ((4 : Int) * n)) (Int.toNat (3 : Int))) * (256 : Int) + byteAt (rrT t a ((4 : Int) * n)) (Int.toNat (4 : Int))) * (256 : Int) + byteAt (rrT t a ((4 : Int) * n)) (Int.toNat (5 : Int))) * (256 : Int) + byteAt (rrT t a ((4 : Int) * n)) (Int.toNat (6 : Int))) * (256 : Int) + byteAt (rrT t a ((4 : Int) * n)) (Int.toNat (7 : Int))) * (256 : Int) + byteAt (rrT t a ((4 : Int) * n)) (Int.toNat (8 : Int)))), AV.s (SV.int IntKind.i64 (0 : Int))] (77 : Nat)] (hr Try.f31 (10 : Nat)) (Stk.mk none false (0 : Nat) [] (0 : Nat)))))))))))))))))))))))))))))))))))))))))))))))))))))))))))
      (Tree.ret [AObj.own [AV.s (SV.ro (Con.strs t)), AV.s (SV.ro (Con.typ cK a)), AV.s (SV.int IntKind.i64 f)] (115 : Nat), AObj.own [AV.s (SV.blit false), AV.s (SV.ilit IntKind.i64 (0 : Int)), AV.s (SV.ilit IntKind.i64 (0 : Int))] (77 : Nat)] (AV.tup [AV.agg [AV.s (SV.blit false), AV.s (SV.ilit IntKind.i64 (0 : Int)), AV.s (SV.ilit IntKind.i64 (0 : Int))], AV.s (SV.ilit IntKind.i64 (5 : Int))])))) := by kernel_rfl
noncomputable def cQo (t : List ByteArray) (a : Kp) (f : Int) (s : ByteArray) (on : Bool) (E : Int) : Cfg := ⟨sl 68 [(4, .ptr 1 0), (6, .s (.str s)), (8, .ptr 2 0)], [obR t a f, .own [.s (.bool false), avI 0, avI 0] eQ, .own [.s (.bool on), avI E, avI 0] eQ], hr Try.f31 10, {}⟩
theorem loopQo (t : List ByteArray) (a : Kp) (f : Int) (s : ByteArray) (on : Bool) (E : Int) : run P tabRP.sum Try.f31 nsQo (cQo t a f s on E) inRP =
  Tree.need ((0 : Int) ≤ (9 : Int)) (Tree.need ((9 : Int) < (↑s.size : Int)) (Tree.need (inI64 (byteAt s (Int.toNat (9 : Int)))) (Tree.need (inI64 (byteAt s (Int.toNat (9 : Int)) * (256 : Int))) (Tree.need ((0 : Int) ≤ (10 : Int)) (Tree.need ((10 : Int) < (↑s.size : Int)) (Tree.need (inI64 (byteAt s (Int.toNat (10 : Int)))) (Tree.need (inI64 (byteAt s (Int.toNat (9 : Int)) * (256 : Int) + byteAt s (Int.toNat (10 : Int)))) (Tree.ite (decide (E > (1099511627776 : Int))) (Tree.ite (decide (byteAt s (Int.toNat (9 : Int)) * (256 : Int) + byteAt s (Int.toNat (10 : Int)) > (1023 : Int))) (Tree.ret [AObj.own [AV.s (SV.ro (Con.strs t)), AV.s (SV.ro (Con.typ cK a)), AV.s (SV.int IntKind.i64 f)] (115 : Nat), AObj.own [AV.s (SV.bool on), AV.s (SV.ilit IntKind.i64 (0 : Int)), AV.s (SV.ilit IntKind.i64 (0 : Int))] (77 : Nat), AObj.own [AV.s (SV.bool on), AV.s (SV.ilit IntKind.i64 (0 : Int)), AV.s (SV.ilit IntKind.i64 (0 : Int))] (77 : Nat)] (AV.tup [AV.agg [AV.s (SV.bool on), AV.s (SV.ilit IntKind.i64 (0 : Int)), AV.s (SV.ilit IntKind.i64 (0 : Int))], AV.s (SV.ilit IntKind.i64 (0 : Int))])) (Tree.ret [AObj.own [AV.s (SV.ro (Con.strs t)), AV.s (SV.ro (Con.typ cK a)), AV.s (SV.int IntKind.i64 f)] (115 : Nat), AObj.own [AV.s (SV.bool on), AV.s (SV.ilit IntKind.i64 (0 : Int)), AV.s (SV.int IntKind.i64 (byteAt s (Int.toNat (9 : Int)) * (256 : Int) + byteAt s (Int.toNat (10 : Int))))] (77 : Nat), AObj.own [AV.s (SV.bool on), AV.s (SV.ilit IntKind.i64 (0 : Int)), AV.s (SV.int IntKind.i64 (byteAt s (Int.toNat (9 : Int)) * (256 : Int) + byteAt s (Int.toNat (10 : Int))))] (77 : Nat)] (AV.tup [AV.agg [AV.s (SV.bool on), AV.s (SV.ilit IntKind.i64 (0 : Int)), AV.s (SV.int IntKind.i64 (byteAt s (Int.toNat (9 : Int)) * (256 : Int) + byteAt s (Int.toNat (10 : Int))))], AV.s (SV.ilit IntKind.i64 (0 : Int))]))) (Tree.ite (decide (byteAt s (Int.toNat (9 : Int)) * (256 : Int) + byteAt s (Int.toNat (10 : Int)) > (1023 : Int))) (Tree.ret [AObj.own [AV.s (SV.ro (Con.strs t)), AV.s (SV.ro (Con.typ cK a)), AV.s (SV.int IntKind.i64 f)] (115 : Nat), AObj.own [AV.s (SV.bool on), AV.s (SV.int IntKind.i64 E), AV.s (SV.ilit IntKind.i64 (0 : Int))] (77 : Nat), AObj.own [AV.s (SV.bool on), AV.s (SV.int IntKind.i64 E), AV.s (SV.ilit IntKind.i64 (0 : Int))] (77 : Nat)] (AV.tup [AV.agg [AV.s (SV.bool on), AV.s (SV.int IntKind.i64 E), AV.s (SV.ilit IntKind.i64 (0 : Int))], AV.s (SV.ilit IntKind.i64 (0 : Int))])) (Tree.ret [AObj.own [AV.s (SV.ro (Con.strs t)), AV.s (SV.ro (Con.typ cK a)), AV.s (SV.int IntKind.i64 f)] (115 : Nat), AObj.own [AV.s (SV.bool on), AV.s (SV.int IntKind.i64 E), AV.s (SV.int IntKind.i64 (byteAt s (Int.toNat (9 : Int)) * (256 : Int) + byteAt s (Int.toNat (10 : Int))))] (77 : Nat), AObj.own [AV.s (SV.bool on), AV.s (SV.int IntKind.i64 E), AV.s (SV.int IntKind.i64 (byteAt s (Int.toNat (9 : Int)) * (256 : Int) + byteAt s (Int.toNat (10 : Int))))] (77 : Nat)] (AV.tup [AV.agg [AV.s (SV.bool on), AV.s (SV.int IntKind.i64 E), AV.s (SV.int IntKind.i64 (byteAt s (Int.toNat (9 : Int)) * (256 : Int) + byteAt s (Int.toNat (10 : Int))))], AV.s (SV.ilit IntKind.i64 (0 : Int))]))))))))))) := by kernel_rfl
def nsQs : List (Nat × Norm) := [(9, ⟨[], [0, 1, 5, 7, 8], 1, roL⟩), (unrollKey + 10, ⟨[], [], 1, []⟩), (15, ⟨[], [0, 1, 7], 1, roL⟩)]
theorem trQs (t : List ByteArray) (a : Kp) (f n : Int) (on : Bool) (ep pg : Int) : run P tabRP.sum Try.f32 nsQs (start Try.f32 [.ptr 0 0, avI n, avM on ep pg] [obR t a f]) inRP =
  Tree.ite (decide (n < (0 : Int))) (Tree.ret [AObj.own [AV.s (SV.ro (Con.strs t)), AV.s (SV.ro (Con.typ cK a)), AV.s (SV.int IntKind.i64 f)] (115 : Nat), AObj.own [AV.s (SV.bool on), AV.s (SV.int IntKind.i64 ep), AV.s (SV.int IntKind.i64 pg)] (77 : Nat)] (AV.s (SV.ilit IntKind.i64 (5 : Int)))) (Tree.ite (decide (n > (1 : Int))) (Tree.ret [AObj.own [AV.s (SV.ro (Con.strs t)), AV.s (SV.ro (Con.typ cK a)), AV.s (SV.int IntKind.i64 f)] (115 : Nat), AObj.own [AV.s (SV.bool on), AV.s (SV.int IntKind.i64 ep), AV.s (SV.int IntKind.i64 pg)] (77 : Nat)] (AV.s (SV.ilit IntKind.i64 (5 : Int)))) (Tree.ite (decide (n ≥ (0 : Int))) (Tree.need ((4 : Int) ≠ (0 : Int)) (Tree.need (inI64 ((↑t.length : Int).tdiv (4 : Int))) (Tree.ite (!decide (n < (↑t.length : Int).tdiv (4 : Int))) (Tree.ret [AObj.own [AV.s (SV.ro (Con.strs t)), AV.s (SV.ro (Con.typ cK a)), AV.s (SV.int IntKind.i64 f)] (115 : Nat), AObj.own [AV.s (SV.bool on), AV.s (SV.int IntKind.i64 ep), AV.s (SV.int IntKind.i64 pg)] (77 : Nat)] (AV.s (SV.ilit IntKind.i64 (5 : Int)))) (Tree.ite (decide (ep < (0 : Int))) (Tree.ret [AObj.own [AV.s (SV.ro (Con.strs t)), AV.s (SV.ro (Con.typ cK a)), AV.s (SV.int IntKind.i64 f)] (115 : Nat), AObj.own [AV.s (SV.bool on), AV.s (SV.int IntKind.i64 ep), AV.s (SV.int IntKind.i64 pg)] (77 : Nat)] (AV.s (SV.ilit IntKind.i64 (1 : Int)))) (Tree.ite (decide (ep > (1099511627776 : Int))) (Tree.ret [AObj.own [AV.s (SV.ro (Con.strs t)), AV.s (SV.ro (Con.typ cK a)), AV.s (SV.int IntKind.i64 f)] (115 : Nat), AObj.own [AV.s (SV.bool on), AV.s (SV.int IntKind.i64 ep), AV.s (SV.int IntKind.i64 pg)] (77 : Nat)] (AV.s (SV.ilit IntKind.i64 (1 : Int)))) (Tree.ite (decide (pg < (0 : Int))) (Tree.ret [AObj.own [AV.s (SV.ro (Con.strs t)), AV.s (SV.ro (Con.typ cK a)), AV.s (SV.int IntKind.i64 f)] (115 : Nat), AObj.own [AV.s (SV.bool on), AV.s (SV.int IntKind.i64 ep), AV.s (SV.int IntKind.i64 pg)] (77 : Nat)] (AV.s (SV.ilit IntKind.i64 (1 : Int)))) (Tree.ite (decide (pg > (1023 : Int))) (Tree.ret [AObj.own [AV.s (SV.ro (Con.strs t)), AV.s (SV.ro (Con.typ cK a)), AV.s (SV.int IntKind.i64 f)] (115 : Nat), AObj.own [AV.s (SV.bool on), AV.s (SV.int IntKind.i64 ep), AV.s (SV.int IntKind.i64 pg)] (77 : Nat)] (AV.s (SV.ilit IntKind.i64 (1 : Int)))) (Tree.ite on (Tree.at (Cfg.mk (sl (72 : Nat) [((0 : Nat), AV.ptr (0 : Nat) (0 : Nat)), ((1 : Nat), AV.s (SV.int IntKind.i64 n)), ((5 : Nat), AV.ptr (1 : Nat) (0 : Nat)), ((7 : Nat), AV.ptr (2 : Nat) (0 : Nat)), ((8 : Nat), AV.s (SV.int IntKind.i64 ep))]) [AObj.own [AV.s (SV.ro (Con.strs t)), AV.s (SV.ro (Con.typ cK a)), AV.s (SV.int IntKind.i64 f)] (115 : Nat), AObj.own [AV.s (SV.bool on), AV.s (SV.int IntKind.i64 ep), AV.s (SV.int IntKind.i64 pg)] (77 : Nat), AObj.own [AV.ints IntKind.u8 (64 : Nat) ((List.replicate (64 : Nat) (0 : Int)).set (0 : Nat) (1 : Int))] (92 : Nat)] (hr Try.f32 (9 : Nat)) (Stk.mk none false (0 : Nat) [] (0 : Nat)))) (Tree.at (Cfg.mk (sl (72 : Nat) [((0 : Nat), AV.ptr (0 : Nat) (0 : Nat)), ((1 : Nat), AV.s (SV.int IntKind.i64 n)), ((5 : Nat), AV.ptr (1 : Nat) (0 : Nat)), ((7 : Nat), AV.ptr (2 : Nat) (0 : Nat)), ((8 : Nat), AV.s (SV.int IntKind.i64 ep))]) [AObj.own [AV.s (SV.ro (Con.strs t)), AV.s (SV.ro (Con.typ cK a)), AV.s (SV.int IntKind.i64 f)] (115 : Nat), AObj.own [AV.s (SV.bool on), AV.s (SV.int IntKind.i64 ep), AV.s (SV.int IntKind.i64 pg)] (77 : Nat), AObj.own [AV.ints IntKind.u8 (64 : Nat) (List.replicate (64 : Nat) (0 : Int))] (92 : Nat)] (hr Try.f32 (9 : Nat)) (Stk.mk none false (0 : Nat) [] (0 : Nat)))))))))))) (Tree.ret [AObj.own [AV.s (SV.ro (Con.strs t)), AV.s (SV.ro (Con.typ cK a)), AV.s (SV.int IntKind.i64 f)] (115 : Nat), AObj.own [AV.s (SV.bool on), AV.s (SV.int IntKind.i64 ep), AV.s (SV.int IntKind.i64 pg)] (77 : Nat)] (AV.s (SV.ilit IntKind.i64 (5 : Int)))))) := by kernel_rfl
noncomputable def cQs (t : List ByteArray) (a : Kp) (f n : Int) (on : Bool) (ep pg : Int) (ws : List Int) : Cfg := ⟨sl 72 [(0, .ptr 0 0), (1, avI n), (5, .ptr 1 0), (7, .ptr 2 0), (8, avI ep)], [obR t a f, .own [.s (.bool on), avI ep, avI pg] eQ, .own [.ints .u8 64 ws] 92], hr Try.f32 9, {}⟩
theorem loopQs (t : List ByteArray) (a : Kp) (f n : Int) (on : Bool) (ep pg : Int) (ws : List Int) : run P tabRP.sum Try.f32 nsQs (cQs t a f n on ep pg ws) inRP =
  Tree.need ((256 : Int) ≠ (0 : Int)) (Tree.need ((256 : Int) ≠ (0 : Int)) (Tree.need (inI64 (ep.tdiv (256 : Int))) (Tree.need ((256 : Int) ≠ (0 : Int)) (Tree.need ((256 : Int) ≠ (0 : Int)) (Tree.need (inI64 ((ep.tdiv (256 : Int)).tdiv (256 : Int))) (Tree.need ((256 : Int) ≠ (0 : Int)) (Tree.need ((256 : Int) ≠ (0 : Int)) (Tree.need (inI64 (((ep.tdiv (256 : Int)).tdiv (256 : Int)).tdiv (256 : Int))) (Tree.need ((256 : Int) ≠ (0 : Int)) (Tree.need ((256 : Int) ≠ (0 : Int)) (Tree.need (inI64 ((((ep.tdiv (256 : Int)).tdiv (256 : Int)).tdiv (256 : Int)).tdiv (256 : Int))) (Tree.need ((256 : Int) ≠ (0 : Int)) (Tree.need ((256 : Int) ≠ (0 : Int)) (Tree.need (inI64 (((((ep.tdiv (256 : Int)).tdiv (256 : Int)).tdiv (256 : Int)).tdiv (256 : Int)).tdiv (256 : Int))) (Tree.need ((256 : Int) ≠ (0 : Int)) (Tree.need ((256 : Int) ≠ (0 : Int)) (Tree.need (inI64 ((((((ep.tdiv (256 : Int)).tdiv (256 : Int)).tdiv (256 : Int)).tdiv (256 : Int)).tdiv (256 : Int)).tdiv (256 : Int))) (Tree.need ((256 : Int) ≠ (0 : Int)) (Tree.need ((256 : Int) ≠ (0 : Int)) (Tree.need (inI64 (((((((ep.tdiv (256 : Int)).tdiv (256 : Int)).tdiv (256 : Int)).tdiv (256 : Int)).tdiv (256 : Int)).tdiv (256 : Int)).tdiv (256 : Int))) (Tree.need ((256 : Int) ≠ (0 : Int)) (Tree.need ((256 : Int) ≠ (0 : Int)) (Tree.need (inI64 ((((((((ep.tdiv (256 : Int)).tdiv (256 : Int)).tdiv (256 : Int)).tdiv (256 : Int)).tdiv (256 : Int)).tdiv (256 : Int)).tdiv (256 : Int)).tdiv (256 : Int))) (Tree.need ((256 : Int) ≠ (0 : Int)) (Tree.need (inI64 (pg.tdiv (256 : Int))) (Tree.need ((256 : Int) ≠ (0 : Int)) (Tree.at (Cfg.mk (sl (72 : Nat) [((0 : Nat), AV.ptr (0 : Nat) (0 : Nat)), ((1 : Nat), AV.s (SV.int IntKind.i64 n)), ((7 : Nat), AV.ptr (1 : Nat) (0 : Nat))]) [AObj.own [AV.s (SV.ro (Con.strs t)), AV.s (SV.ro (Con.typ cK a)), AV.s (SV.int IntKind.i64 f)] (115 : Nat), AObj.own [AV.ints IntKind.u8 (64 : Nat) ((((((((((ws.set (8 : Nat) (IntKind.u8.wrap (ep.tmod (256 : Int)))).set (7 : Nat) (IntKind.u8.wrap ((ep.tdiv (256 : Int)).tmod (256 : Int)))).set (6 : Nat) (IntKind.u8.wrap (((ep.tdiv (256 : Int)).tdiv (256 : Int)).tmod (256 : Int)))).set (5 : Nat) (IntKind.u8.wrap ((((ep.tdiv (256 : Int)).tdiv (256 : Int)).tdiv (256 : Int)).tmod (256 : Int)))).set (4 : Nat) (IntKind.u8.wrap (((((ep.tdiv (256 : Int)).tdiv (256 : Int)).tdiv (256 : Int)).tdiv (256 : Int)).tmod (256 : Int)))).set (3 : Nat) (IntKind.u8.wrap ((((((ep.tdiv (256 : Int)).tdiv (256 : Int)).tdiv (256 : Int)).tdiv (256 : Int)).tdiv (256 : Int)).tmod (256 : Int)))).set (2 : Nat) (IntKind.u8.wrap (((((((ep.tdiv (256 : Int)).tdiv (256 : Int)).tdiv (256 : Int)).tdiv (256 : Int)).tdiv (256 : Int)).tdiv (256 : Int)).tmod (256 : Int)))).set (1 : Nat) (IntKind.u8.wrap ((((((((ep.tdiv (256 : Int)).tdiv (256 : Int)).tdiv (256 : Int)).tdiv (256 : Int)).tdiv (256 : Int)).tdiv (256 : Int)).tdiv (256 : Int)).tmod (256 : Int)))).set (9 : Nat) (IntKind.u8.wrap (pg.tdiv (256 : Int)))).set (10 : Nat) (IntKind.u8.wrap (pg.tmod (256 : Int))))] (92 : Nat)] (hr Try.f32 (15 : Nat)) (Stk.mk none false (0 : Nat) [] (0 : Nat)))))))))))))))))))))))))))))) := by kernel_rfl
noncomputable def cQs15 (t : List ByteArray) (a : Kp) (f n : Int) (ws : List Int) : Cfg := ⟨sl 72 [(0, .ptr 0 0), (1, avI n), (7, .ptr 1 0)], [obR t a f, .own [.ints .u8 64 ws] 92], hr Try.f32 15, {}⟩
theorem loopQs15 (t : List ByteArray) (a : Kp) (f n : Int) (ws : List Int) : run P tabRP.sum Try.f32 nsQs (cQs15 t a f n ws) inRP =
  Tree.need (inI64 ((4 : Int) * n)) (Tree.need ((0 : Int) ≤ (0 : Int)) (Tree.need ((0 : Int) ≤ (↑(64 : Nat) : Int)) (Tree.need ((↑(64 : Nat) : Int) ≤ (↑(64 : Nat) : Int)) (Tree.need ((0 : Nat) + (64 : Nat) ≤ (64 : Nat)) (Tree.need (Slf (some [AV.ptr (0 : Nat) (0 : Nat), AV.s (SV.int IntKind.i64 ((4 : Int) * n)), AV.s (SV.str (bytesStr (List.take (64 : Nat) (List.drop (0 : Nat) ws))))])) (Tree.need (Slf (some [AObj.own [AV.s (SV.ro (Con.strs t)), AV.s (SV.ro (Con.typ cK a)), AV.s (SV.int IntKind.i64 f)] (115 : Nat)])) (Tree.need (okR t a f) (Tree.ret [AObj.own [AV.s (SV.ro (Con.strs t)), AV.s (SV.ro (Con.typ cK (rwA t a f ((4 : Int) * n) (bytesStr (List.take (64 : Nat) (List.drop (0 : Nat) ws)))))), AV.s (SV.int IntKind.i64 (rwF t f ((4 : Int) * n) (bytesStr (List.take (64 : Nat) (List.drop (0 : Nat) ws)))))] (115 : Nat), AObj.own [AV.ints IntKind.u8 (64 : Nat) ws] (92 : Nat)] (AV.s (SV.int IntKind.i64 (rwE t f ((4 : Int) * n) (bytesStr (List.take (64 : Nat) (List.drop (0 : Nat) ws)))))))))))))) := by kernel_rfl
theorem trQp (t : List ByteArray) (a : Kp) (f : Int) : run P tabRP.sum Try.f39 [] (start Try.f39 [.ptr 0 0] [obR t a f]) inRP =
  Tree.need ((4 : Int) ≠ (0 : Int)) (Tree.need (inI64 ((↑t.length : Int).tdiv (4 : Int))) (Tree.ret [AObj.own [AV.s (SV.ro (Con.strs t)), AV.s (SV.ro (Con.typ cK a)), AV.s (SV.int IntKind.i64 f)] (115 : Nat)] (AV.s (SV.int IntKind.i64 ((↑t.length : Int).tdiv (4 : Int)))))) := by kernel_rfl
end Ds

/-! The document's pages: contracts. -/
namespace Ds
open Go Go.Sx Go.Proofs Lf
def repR (t : List ByteArray) (a : Kp) (f : Int) : Prop := ∃ (th : Th) (m : As), okD th m f ∧ t = tOf th ∧ a = aOf m
def pgNr (t : List ByteArray) : Int := (t.length : Int).tdiv 4
def pOkr (t : List ByteArray) (n : Int) : Bool := decide (0 ≤ n) && decide (n < pgNr t)
def pgLr (t : List ByteArray) (a : Kp) (n : Int) : Nat → List Int
  | 0 => []
  | k + 1 => pgLr t a n k ++ strInts (rrT t a (n * 4 + (k : Int)))
def qrE (t : List ByteArray) (a : Kp) (n : Int) : Int := if pOkr t n = true then (if long2 (pgLr t a n 4) > 254 then 4 else 0) else 5
def qrS (t : List ByteArray) (a : Kp) (n : Int) : ByteArray := if qrE t a n = 0 then bytesStr (((pgLr t a n 4).drop 2).take (long2 (pgLr t a n 4)).toNat) else ByteArray.empty
def qwG (t : List ByteArray) (n : Int) (ws : List Int) : Nat → Nat → Kp → Int → Kp × Int × Int
  | 0, _, a, f => (a, f, 0)
  | j + 1, k, a, f => if rwE t f (n * 4 + (k : Int)) (secS ws k) = 0 then qwG t n ws j (k + 1) (rwA t a f (n * 4 + (k : Int)) (secS ws k)) (rwF t f (n * 4 + (k : Int)) (secS ws k))
      else (rwA t a f (n * 4 + (k : Int)) (secS ws k), rwF t f (n * 4 + (k : Int)) (secS ws k), rwE t f (n * 4 + (k : Int)) (secS ws k))
def qwC (t : List ByteArray) (n : Int) (s : ByteArray) : Int := if pOkr t n = true then (if (s.size : Int) > 254 then 40 else 0) else 5
def qwR (t : List ByteArray) (a : Kp) (f n : Int) (s : ByteArray) : Kp × Int × Int := if qwC t n s = 0 then qwG t n (pgB s) 4 0 a f else (a, f, qwC t n s)
def qoC (t : List ByteArray) (k : Int) : Int := if 0 ≤ k ∧ k ≤ 1 ∧ k < pgNr t then 0 else 5
def qoOn (t : List ByteArray) (a : Kp) (k : Int) : Bool := decide (qoC t k = 0) && rtOn (rrT t a (k * 4))
def qoEp (t : List ByteArray) (a : Kp) (k : Int) : Int := if qoC t k = 0 then rtEp (rrT t a (k * 4)) else 0
def qoPg (t : List ByteArray) (a : Kp) (k : Int) : Int := if qoC t k = 0 then rtPg (rrT t a (k * 4)) else 0
def qsC (t : List ByteArray) (k ep pg : Int) : Int := if qoC t k = 0 then (if ep < 0 ∨ ep > 1099511627776 ∨ pg < 0 ∨ pg ≥ 1024 then 1 else 0) else 5
def qsE (t : List ByteArray) (f k : Int) (on : Bool) (ep pg : Int) : Int := if qsC t k ep pg = 0 then rwE t f (k * 4) (mkS on ep pg) else qsC t k ep pg
def qsA (t : List ByteArray) (a : Kp) (f k : Int) (on : Bool) (ep pg : Int) : Kp := if qsC t k ep pg = 0 then rwA t a f (k * 4) (mkS on ep pg) else a
def qsF (t : List ByteArray) (f k : Int) (on : Bool) (ep pg : Int) : Int := if qsC t k ep pg = 0 then rwF t f (k * 4) (mkS on ep pg) else f
abbrev sQr : Spec (List ByteArray × Kp × Int × Int) := ⟨fun (_, _, _, n) => [.ptr 0 0, avI n], fun (t, a, f, _) => [obR t a f], fun (t, a, f, _) => [repR t a f], fun (t, a, f, _) => [obR t a f], fun (t, a, _, n) => .tup [.s (.str (qrS t a n)), avI (qrE t a n)]⟩
abbrev sQw : Spec (List ByteArray × Kp × Int × Int × ByteArray) := ⟨fun (_, _, _, n, s) => [.ptr 0 0, avI n, .s (.str s)], fun (t, a, f, _) => [obR t a f], fun (t, a, f, _) => [repR t a f], fun (t, a, f, n, s) => [obR t (qwR t a f n s).1 (qwR t a f n s).2.1], fun (t, a, f, n, s) => avI (qwR t a f n s).2.2⟩
abbrev sQo : Spec (List ByteArray × Kp × Int × Int) := ⟨fun (_, _, _, n) => [.ptr 0 0, avI n], fun (t, a, f, _) => [obR t a f], fun (t, a, f, _) => [repR t a f], fun (t, a, f, _) => [obR t a f], fun (t, a, _, n) => .tup [avM (qoOn t a n) (qoEp t a n) (qoPg t a n), avI (qoC t n)]⟩
abbrev sQs : Spec (List ByteArray × Kp × Int × Int × Bool × Int × Int) := ⟨fun (_, _, _, n, on, ep, pg) => [.ptr 0 0, avI n, avM on ep pg], fun (t, a, f, _) => [obR t a f], fun (t, a, f, _) => [repR t a f], fun (t, a, f, n, on, ep, pg) => [obR t (qsA t a f n on ep pg) (qsF t f n on ep pg)], fun (t, _, f, n, on, ep, pg) => avI (qsE t f n on ep pg)⟩
abbrev sQp : Spec (List ByteArray × Kp × Int) := ⟨fun _ => [.ptr 0 0], fun (t, a, f) => [obR t a f], fun (t, a, f) => [repR t a f], fun (t, a, f) => [obR t a f], fun (t, _, _) => avI (pgNr t)⟩
theorem pgNr_of (th : Th) : pgNr (tOf th) = pgN th := by unfold pgNr pgN; rw [tOf_len]
theorem pOkr_of (th : Th) (n : Int) : pOkr (tOf th) n = pOk th n := by unfold pOkr pOk; rw [pgNr_of]
theorem pgLr_of {th : Th} {m : As} {f : Int} (h : okD th m f) (n : Int) : ∀ k, pgLr (tOf th) (aOf m) n k = pgL th m n k
  | 0 => rfl
  | k + 1 => by rw [pgLr, pgL, pgLr_of h n k, (rd_of h _).1]
theorem qr_of {th : Th} {m : As} {f : Int} (h : okD th m f) (n : Int) : qrE (tOf th) (aOf m) n = grE th m n ∧ qrS (tOf th) (aOf m) n = grS th m n := by
  have e : qrE (tOf th) (aOf m) n = grE th m n := by unfold qrE grE; rw [pgLr_of h, pOkr_of]; rfl
  exact ⟨e, by unfold qrS grS; rw [e, pgLr_of h]; rfl⟩
theorem qwG_of {th : Th} {n : Int} {ws : List Int} : ∀ (j k : Nat) (m : As) (f : Int), okD th m f → qwG (tOf th) n ws j k (aOf m) f = (aOf (wrG th n ws j k m f).1, (wrG th n ws j k m f).2)
  | 0, k, m, f, h => rfl
  | j + 1, k, m, f, h => by
    unfold qwG wrG
    rw [rwE_of, rwA_of h, rwF_of h.f]
    split
    · exact qwG_of j (k + 1) _ _ (ok_wr h)
    · rfl
theorem qw_of {th : Th} {m : As} {f : Int} (h : okD th m f) (n : Int) (s : ByteArray) : qwR (tOf th) (aOf m) f n s = (aOf (gwR th m f n s).1, (gwR th m f n s).2) := by
  have ec : qwC (tOf th) n s = gwC th n s := by unfold qwC gwC; rw [pOkr_of]
  unfold qwR gwR
  rw [ec]
  split
  · exact qwG_of 4 0 m f h
  · rfl
theorem qoC_of (th : Th) (k : Int) : qoC (tOf th) k = roC th k := by unfold qoC roC; rw [pgNr_of]
theorem qo_of {th : Th} {m : As} {f : Int} (h : okD th m f) (k : Int) : qoC (tOf th) k = roC th k ∧ qoOn (tOf th) (aOf m) k = roOn th m k ∧ qoEp (tOf th) (aOf m) k = roEp th m k ∧ qoPg (tOf th) (aOf m) k = roPg th m k := by
  unfold qoOn qoEp qoPg roOn roEp roPg
  rw [qoC_of, (rd_of h _).1]
  exact ⟨rfl, rfl, rfl, rfl⟩
theorem qsC_of (th : Th) (k ep pg : Int) : qsC (tOf th) k ep pg = srC th k ep pg := by unfold qsC srC; rw [qoC_of]
theorem qs_of {th : Th} {m : As} {f : Int} (h : okD th m f) (k : Int) (on : Bool) (ep pg : Int) : qsE (tOf th) f k on ep pg = srE th f k on ep pg ∧ qsA (tOf th) (aOf m) f k on ep pg = aOf (srM th m f k on ep pg) ∧ qsF (tOf th) f k on ep pg = srF th f k on ep pg := by
  unfold qsE qsA qsF srE srM srF
  rw [qsC_of, rwE_of, rwF_of h.f, rwA_of h]
  refine ⟨rfl, ?_, rfl⟩
  split <;> rfl
/-! Pages -/
theorem tabRP_ok {Z : Glob} : tabRP.Ok P Z := Tab.Ok.cons (rr_ok.sum mRR) (Tab.Ok.cons (rw_ok.sum mWi) Tab.Ok.nil)
theorem qp_ok {Z : Glob} : FnS P Z 39 sQp := by
  refine fnS_of_safe Try.func39 (by kernel_rfl) (fun x => Nat.le_of_ble_eq_true (by kernel_rfl)) ?_
  rintro ⟨(t : List ByteArray), (a : Kp), (f : Int)⟩ ⟨⟨th, m, hd, rfl, rfl⟩, _⟩ X hX hz
  have h4 := hd.t.1
  have := pgN_le th
  have e : ((tOf th).length : Int).tdiv 4 = pgN th := pgNr_of th
  refine goS hz hX (by simp) tabRP_ok Try.func39 (trQp _ _ f) ?_
  rw [e]
  exact ⟨by decide, ⟨by omega, by omega⟩, endS 1 rfl (Nat.le_refl _) (by show avI (pgNr _) = _; rw [pgNr_of]; rfl) rfl⟩
/-! Read -/
theorem all_bytes {th : Th} {m : As} (n : Int) : ByteArray.empty ++ rdS th m (4 * n + 0) ++ rdS th m (4 * n + 1) ++ rdS th m (4 * n + 2) ++ rdS th m (4 * n + 3) = bytesStr (pgA th m n) := by
  show _ = bytesStr (pgL th m n 4)
  simp only [pgL, bytes_append, bytes_strInts]
  rw [show n * 4 + ((0 : Nat) : Int) = 4 * n + 0 from by omega, show n * 4 + ((1 : Nat) : Int) = 4 * n + 1 from by omega, show n * 4 + ((2 : Nat) : Int) = 4 * n + 2 from by omega, show n * 4 + ((3 : Nat) : Int) = 4 * n + 3 from by omega]
  rfl
theorem qr_ok {Z : Glob} : FnS P Z 30 sQr := by
  refine fnS_of_safe Try.func30 (by kernel_rfl) (fun x => Nat.le_of_ble_eq_true (by kernel_rfl)) ?_
  rintro ⟨(t : List ByteArray), (a : Kp), (f : Int), (n : Int)⟩ ⟨⟨th, m, hd, rfl, rfl⟩, _⟩ X hX hz
  have hns : ∀ x ∈ nsQr, (sQr.heap (tOf th, aOf m, f, n)).length ≤ x.2.m := by intro y hy; simp [nsQr, unrollKey] at hy; rcases hy with rfl; exact Nat.le_refl _
  have h4 := hd.t.1
  have hN := pgN_le th
  have hR := okR_of hd
  have e : ((tOf th).length : Int).tdiv 4 = pgN th := pgNr_of th
  obtain ⟨o1, o2⟩ := qr_of hd n
  have bad : ¬ (0 ≤ n ∧ n < pgN th) → grE th m n = 5 ∧ grS th m n = ByteArray.empty := fun h => by
    have h5 : grE th m n = 5 := by unfold grE; rw [if_neg (fun h2 => h (pOk_iff.1 h2))]
    exact ⟨h5, by unfold grS; rw [if_neg (by rw [h5]; decide)]⟩
  refine goS hz hX hns tabRP_ok Try.func30 (trQr _ _ f n) ?_
  simp only [(rd_of hd _).1, e, all_bytes]
  by_cases hp : 0 ≤ n ∧ n < pgN th
  · have hpo := pOk_iff.2 hp
    have sz : ∀ k : Nat, k < 4 → (rdS th m (n * 4 + (k : Int))).size = 64 := fun k hk => rd_size hd (pOk_in hpo hk)
    have s0 := sz 0 (by omega)
    have s1 := sz 1 (by omega)
    have s2 := sz 2 (by omega)
    have s3 := sz 3 (by omega)
    rw [show n * 4 + ((0 : Nat) : Int) = 4 * n + 0 from by omega] at s0
    rw [show n * 4 + ((1 : Nat) : Int) = 4 * n + 1 from by omega] at s1
    rw [show n * 4 + ((2 : Nat) : Int) = 4 * n + 2 from by omega] at s2
    rw [show n * 4 + ((3 : Nat) : Int) = 4 * n + 3 from by omega] at s3
    have hl : (pgA th m n).length = 256 := pgL_len hd hpo 4 (by omega)
    have hb : ∀ x ∈ pgA th m n, 0 ≤ x ∧ x ≤ 255 := pgL_byte 4
    have b : ∀ i, i < 256 → byteAt (bytesStr (pgA th m n)) i = (pgA th m n).getD i 0 ∧ 0 ≤ (pgA th m n).getD i 0 ∧ (pgA th m n).getD i 0 ≤ 255 := fun i hi => by
      have hr : 0 ≤ (pgA th m n).getD i 0 ∧ (pgA th m n).getD i 0 ≤ 255 := by rw [getD_lt (by omega)]; exact hb _ (List.getElem_mem _)
      exact ⟨byteAt_bytes (by omega) hr, hr⟩
    obtain ⟨b0, b01, b02⟩ := b 0 (by omega)
    obtain ⟨b1, b11, b12⟩ := b 1 (by omega)
    have hs : (bytesStr (pgA th m n)).size = 256 := by rw [bytes_len, hl]
    have z0 : ByteArray.empty.size = 0 := rfl
    rw [show Int.toNat 0 = 0 from rfl, show Int.toNat 1 = 1 from rfl, b0, b1, hs]
    simp only [ByteArray.size_append, s0, s1, s2, s3, z0]
    have hg : (pgA th m n).getD 0 0 * 256 + (pgA th m n).getD 1 0 = long2 (pgA th m n) := rfl
    have g1 : long2 (pgA th m n) > 254 → grE th m n = 4 ∧ grS th m n = ByteArray.empty := fun h => by
      have h5 : grE th m n = 4 := by unfold grE; rw [if_pos hpo, if_pos h]
      exact ⟨h5, by unfold grS; rw [if_neg (by rw [h5]; decide)]⟩
    have g2 : ¬ long2 (pgA th m n) > 254 → grE th m n = 0 ∧ grS th m n = (bytesStr (pgA th m n)).extract 2 (2 + (long2 (pgA th m n)).toNat) := fun h => by
      have h5 : grE th m n = 0 := by unfold grE; rw [if_pos hpo, if_neg h]
      refine ⟨h5, ?_⟩
      unfold grS
      rw [if_pos h5, bytes_extract, List.drop_take, Nat.add_sub_cancel_left]
    have hl0 : 0 ≤ long2 (pgA th m n) := by rw [← hg]; omega
    have hl1 : long2 (pgA th m n) ≤ 65535 := by rw [← hg]; omega
    simp only [hg]
    generalize long2 (pgA th m n) = l at *
    generalize (pgA th m n).getD 0 0 = x0 at *
    generalize (pgA th m n).getD 1 0 = x1 at *
    generalize bytesStr (pgA th m n) = A at *
    clear b hb
    repeat' (with_reducible (first | refine h_eq ?_ | refine h_need ?_ ?_ | refine h_dec (fun _ => ?_) (fun _ => ?_) | refine h_beq (fun _ => ?_) (fun _ => ?_) | refine h_bne (fun _ => ?_) (fun _ => ?_) | refine h_tt ?_ | refine h_ff ?_ | refine h_not ?_ | refine h_ite (fun _ => ?_) (fun _ => ?_) | refine h_both (fun _ => ?_) (fun _ => ?_) | refine h_ret ?_ | refine h_at ?_))
    all_goals first | omega | exact ⟨by omega, by omega⟩ | assumption | trivial | skip
    · obtain ⟨q1, q2⟩ := g1 (by omega)
      refine endS 1 rfl (Nat.le_refl _) ?_ rfl
      show AV.tup _ = _
      rw [o1, o2, q1, q2]; rfl
    · obtain ⟨q1, q2⟩ := g2 (by omega)
      refine endS 1 rfl (Nat.le_refl _) ?_ rfl
      show AV.tup _ = _
      rw [o1, o2, q1, q2, show (2 + l).toNat = 2 + l.toNat from by omega]; rfl
  · obtain ⟨q1, q2⟩ := bad hp
    have fin : EndS sQr (tOf th, aOf m, f, n) [obR (tOf th) (aOf m) f] (.tup [.s (.str ByteArray.empty), .s (.ilit .i64 5)]) := by
      refine endS 1 rfl (Nat.le_refl _) ?_ rfl
      show AV.tup _ = _
      rw [o1, o2, q1, q2]; rfl
    refine ⟨fun h => ⟨by decide, ⟨by omega, by omega⟩, fun _ => fin, fun h2 => ?_⟩, fun _ => fin⟩
    have h := of_decide_eq_true h
    have h2 : n < pgN th := by simpa using h2
    exact absurd ⟨h, h2⟩ hp
end Ds

namespace Ds
open Go Go.Sx Go.Proofs Lf
/-! Write -/
theorem pgB_head (s : ByteArray) : bytesStr [IntKind.u8.wrap ((s.size : Int).tdiv 256), IntKind.u8.wrap ((s.size : Int).tmod 256)] ++ s = bytesStr ((s.size : Int) / 256 % 256 :: (s.size : Int) % 256 :: strInts s) := by
  have e : ((s.size : Int) / 256 % 256 :: (s.size : Int) % 256 :: strInts s) = [(s.size : Int) / 256 % 256, (s.size : Int) % 256] ++ strInts s := rfl
  rw [e, bytes_append, bytes_strInts, wrap_u8, wrap_u8, Int.tdiv_eq_ediv_of_nonneg (by omega), Int.tmod_eq_emod_of_nonneg (by omega), Int.emod_emod]
theorem pgB_take {s : ByteArray} (h : s.size ≤ 254) : pgB s = ((s.size : Int) / 256 % 256 :: (s.size : Int) % 256 :: strInts s) ++ List.replicate (254 - s.size) 0 := by
  unfold pgB
  rw [show (s.size : Int) / 256 % 256 = (s.size : Int) / 256 from by omega]
  rfl
theorem sec_extract {ws : List Int} (k : Nat) : (bytesStr ws).extract (64 * k) (64 * k + 64) = secS ws k := by
  unfold secS
  rw [bytes_extract, List.drop_take, Nat.add_sub_cancel_left]
theorem qw_end {Z : Glob} {X : Ctx} {th : Th} {m : As} {f n : Int} {s : ByteArray} (hX : X.H = lk (sQw.heap (tOf th, aOf m, f, n, s))) (hz : ZCtx Z X) (hd : okD th m f) (hp : pOk th n = true) (h254 : s.size ≤ 254) :
    Safe P 29 X (EndS sQw (tOf th, aOf m, f, n, s)) (cQw (tOf th) (aOf m) f n (bytesStr (pgB s))) := by
  have hns : ∀ x ∈ nsQw, (sQw.heap (tOf th, aOf m, f, n, s)).length ≤ x.2.m := by intro y hy; simp [nsQw, unrollKey] at hy; rcases hy with rfl | rfl <;> exact Nat.le_refl _
  have hl := pgB_len h254
  obtain ⟨p0, p1⟩ := pOk_iff.1 hp
  have hN := pgN_le th
  have h4 := hd.t.1
  have ec : gwC th n s = 0 := by unfold gwC; rw [if_pos hp, if_neg (by omega)]
  have eg : gwR th m f n s = wrG th n (pgB s) 4 0 m f := by unfold gwR; rw [ec, if_pos rfl]
  have o := qw_of hd n s
  rw [eg] at o
  simp only [wrG] at o
  refine goS hz hX hns tabRP_ok Try.func29 (loopQw _ _ f n _) ?_
  rw [bytes_len, hl]
  rw [show Int.toNat 0 = 64 * 0 from rfl, show Int.toNat 64 = 64 * 0 + 64 from rfl, sec_extract, show (64 * 0 + 64) = 64 * 1 from rfl, show Int.toNat 128 = 64 * 1 + 64 from rfl, sec_extract, show (64 * 1 + 64) = 64 * 2 from rfl, show Int.toNat 192 = 64 * 2 + 64 from rfl, sec_extract, show (64 * 2 + 64) = 64 * 3 from rfl, show Int.toNat 256 = 64 * 3 + 64 from rfl, sec_extract]
  rw [show 4 * n + 0 = n * 4 + ((0 : Nat) : Int) from by omega, show 4 * n + 1 = n * 4 + ((1 : Nat) : Int) from by omega, show 4 * n + 2 = n * 4 + ((2 : Nat) : Int) from by omega, show 4 * n + 3 = n * 4 + ((3 : Nat) : Int) from by omega]
  have i0 : inI64 (4 * n) := ⟨by omega, by omega⟩
  have i1 : ∀ k : Nat, k < 4 → inI64 (n * 4 + (k : Int)) := fun k hk => ⟨by omega, by omega⟩
  have i10 := i1 0 (by omega)
  have i11 := i1 1 (by omega)
  have i12 := i1 2 (by omega)
  have i13 := i1 3 (by omega)
  have d1 := ok_wr (n := n * 4 + ((0 : Nat) : Int)) (s := secS (pgB s) 0) hd
  have d2 := ok_wr (n := n * 4 + ((1 : Nat) : Int)) (s := secS (pgB s) 1) d1
  have d3 := ok_wr (n := n * 4 + ((2 : Nat) : Int)) (s := secS (pgB s) 2) d2
  have r0 := okR_of hd
  have r1 := okR_of d1
  have r2 := okR_of d2
  have r3 := okR_of d3
  simp only [Nat.zero_add] at o
  rw [rwA_of hd, rwF_of hd.f, rwE_of, rwA_of d1, rwF_of d1.f, rwE_of, rwA_of d2, rwF_of d2.f, rwE_of, rwA_of d3, rwF_of d3.f, rwE_of]
  generalize hw4 : wrM th _ _ (n * 4 + ((3 : Nat) : Int)) (secS (pgB s) 3) = m4 at *
  generalize hf4 : wrF th _ (n * 4 + ((3 : Nat) : Int)) (secS (pgB s) 3) = f4 at *
  generalize he4 : wrE th _ (n * 4 + ((3 : Nat) : Int)) (secS (pgB s) 3) = e4 at *
  generalize hw3 : wrM th _ _ (n * 4 + ((2 : Nat) : Int)) (secS (pgB s) 2) = m3 at *
  generalize hf3 : wrF th _ (n * 4 + ((2 : Nat) : Int)) (secS (pgB s) 2) = f3 at *
  generalize he3 : wrE th _ (n * 4 + ((2 : Nat) : Int)) (secS (pgB s) 2) = e3 at *
  generalize hw2 : wrM th _ _ (n * 4 + ((1 : Nat) : Int)) (secS (pgB s) 1) = m2 at *
  generalize hf2 : wrF th _ (n * 4 + ((1 : Nat) : Int)) (secS (pgB s) 1) = f2 at *
  generalize he2 : wrE th _ (n * 4 + ((1 : Nat) : Int)) (secS (pgB s) 1) = e2 at *
  generalize hw1 : wrM th _ _ (n * 4 + ((0 : Nat) : Int)) (secS (pgB s) 0) = m1 at *
  generalize hf1 : wrF th _ (n * 4 + ((0 : Nat) : Int)) (secS (pgB s) 0) = f1 at *
  generalize he1 : wrE th _ (n * 4 + ((0 : Nat) : Int)) (secS (pgB s) 0) = e1 at *
  repeat' (with_reducible (first | refine h_eq ?_ | refine h_need ?_ ?_ | refine h_dec (fun _ => ?_) (fun _ => ?_) | refine h_beq (fun _ => ?_) (fun _ => ?_) | refine h_bne (fun _ => ?_) (fun _ => ?_) | refine h_tt ?_ | refine h_ff ?_ | refine h_not ?_ | refine h_ite (fun _ => ?_) (fun _ => ?_) | refine h_both (fun _ => ?_) (fun _ => ?_) | refine h_ret ?_ | refine h_at ?_))
  all_goals first | trivial | assumption | omega | skip
  all_goals refine endC 1 roL rfl (Nat.le_refl _) ?_ ?_ <;> simp [o, rnS, *]
theorem qw_ok {Z : Glob} : FnS P Z 29 sQw := by
  refine fnS_of_safe Try.func29 (by kernel_rfl) (fun x => Nat.le_of_ble_eq_true (by kernel_rfl)) ?_
  rintro ⟨(t : List ByteArray), (a : Kp), (f : Int), (n : Int), (s : ByteArray)⟩ ⟨⟨th, m, hd, rfl, rfl⟩, _⟩ X hX hz
  have hns : ∀ x ∈ nsQw, (sQw.heap (tOf th, aOf m, f, n, s)).length ≤ x.2.m := by intro y hy; simp [nsQw, unrollKey] at hy; rcases hy with rfl | rfl <;> exact Nat.le_refl _
  have h4 := hd.t.1
  have hN := pgN_le th
  have e : ((tOf th).length : Int).tdiv 4 = pgN th := pgNr_of th
  have o := qw_of hd n s
  have bad : ∀ c, gwC th n s = c → c ≠ 0 → EndS sQw (tOf th, aOf m, f, n, s) [obR (tOf th) (aOf m) f] (.s (.ilit .i64 c)) := fun c hc h0 => by
    have eg : gwR th m f n s = (m, f, c) := by unfold gwR; rw [hc, if_neg h0]
    rw [eg] at o
    refine endS 1 rfl (Nat.le_refl _) ?_ ?_ <;> simp [o, rnS]
  refine goS hz hX hns tabRP_ok Try.func29 (trQw _ _ f n s) ?_
  rw [e]
  have hsz : (bytesStr [IntKind.u8.wrap ((s.size : Int).tdiv 256), IntKind.u8.wrap ((s.size : Int).tmod 256)]).size = 2 := rfl
  have loop : pOk th n = true → s.size ≤ 254 → ∀ (j : Nat) (w : ByteArray), w.size + j = 256 → w = bytesStr ((pgB s).take w.size) → s.size + 2 ≤ w.size → Safe P 29 X (EndS sQw (tOf th, aOf m, f, n, s)) (cQw (tOf th) (aOf m) f n w) := by
    intro hp h254 j
    have hl := pgB_len h254
    induction j with
    | zero =>
      intro w hw he _
      rw [List.take_of_length_le (by omega)] at he
      rw [he]
      exact qw_end hX hz hd hp h254
    | succ j ih =>
      intro w hw he h2
      have e0 : (ByteArray.mk #[(0 : UInt8)]) = bytesStr [0] := rfl
      have es : (w ++ ByteArray.mk #[(0 : UInt8)]).size = w.size + 1 := by rw [ByteArray.size_append]; rfl
      have next := ih (w ++ ByteArray.mk #[(0 : UInt8)]) (by omega) (by
        rw [es, List.take_add_one, bytes_append, ← he, e0]
        congr 1
        have : (pgB s)[w.size]? = some 0 := by
          rw [pgB_take h254, List.getElem?_append_right (by rw [List.length_cons, List.length_cons, strInts_len']; omega), List.getElem?_replicate, if_pos (by rw [List.length_cons, List.length_cons, strInts_len']; omega)]
        rw [this]
        rfl) (by omega)
      refine goS hz hX hns tabRP_ok Try.func29 (loopQw _ _ f n w) ⟨fun _ => ⟨?_, next⟩, fun h => absurd (of_decide_eq_false h) (by omega)⟩
      rw [show (ByteArray.mk #[(0 : UInt8)]).size = 1 from rfl]
      omega
  rw [hsz]
  have lp := loop
  have hh := pgB_head s
  repeat' (with_reducible (first | refine h_eq ?_ | refine h_need ?_ ?_ | refine h_dec (fun _ => ?_) (fun _ => ?_) | refine h_beq (fun _ => ?_) (fun _ => ?_) | refine h_bne (fun _ => ?_) (fun _ => ?_) | refine h_tt ?_ | refine h_ff ?_ | refine h_not ?_ | refine h_ite (fun _ => ?_) (fun _ => ?_) | refine h_both (fun _ => ?_) (fun _ => ?_) | refine h_ret ?_ | refine h_at ?_))
  all_goals first | omega | exact ⟨by omega, by omega⟩ | skip
  all_goals first
    | exact bad 5 (by unfold gwC; rw [if_neg (fun h => by have := pOk_iff.1 h; omega)]) (by decide)
    | exact bad 40 (by unfold gwC; rw [if_pos (pOk_iff.2 ⟨by omega, by omega⟩), if_pos (by omega)]) (by decide)
    | (rw [Int.tdiv_eq_ediv_of_nonneg (by omega)]; exact ⟨by omega, by omega⟩)
    | skip
  · rw [hh]
    have h254 : s.size ≤ 254 := by omega
    have hsz2 : (bytesStr ((s.size : Int) / 256 % 256 :: (s.size : Int) % 256 :: strInts s)).size = s.size + 2 := by rw [bytes_len, List.length_cons, List.length_cons, strInts_len']
    refine lp (pOk_iff.2 ⟨by omega, by omega⟩) h254 (254 - s.size) _ (by rw [hsz2]; omega) ?_ (by rw [hsz2]; omega)
    rw [hsz2, pgB_take h254, List.take_append_of_le_length (by rw [List.length_cons, List.length_cons, strInts_len']; omega), List.take_of_length_le (by rw [List.length_cons, List.length_cons, strInts_len']; omega)]
/-! Root -/
theorem epN_mono {s : ByteArray} {i j : Nat} (h : i ≤ j) : epN s i ≤ epN s j := by
  induction j with
  | zero => rw [show i = 0 from by omega]; exact Int.le_refl _
  | succ j ih =>
    by_cases e : i = j + 1
    · rw [e]; exact Int.le_refl _
    · have h1 := ih (by omega)
      have h2 := (epN_range s j).1
      have h3 := byteAt_range s (j + 1)
      rw [epN]
      omega
theorem qo_end {Z : Glob} {X : Ctx} {th : Th} {m : As} {f n : Int} (hX : X.H = lk (sQo.heap (tOf th, aOf m, f, n))) (hz : ZCtx Z X) (hd : okD th m f) (hr : roC th n = 0) (E : Int)
    (h0 : 0 ≤ E) (h1 : E = epN (rdS th m (n * 4)) 8 ∨ E > 1099511627776 ∧ epN (rdS th m (n * 4)) 8 > 1099511627776) :
    Safe P 31 X (EndS sQo (tOf th, aOf m, f, n)) (cQo (tOf th) (aOf m) f (rdS th m (n * 4)) (rtOn (rdS th m (n * 4))) E) := by
  have hns : ∀ x ∈ nsQo, (sQo.heap (tOf th, aOf m, f, n)).length ≤ x.2.m := by intro y hy; simp [nsQo, unrollKey] at hy; rcases hy with rfl | rfl <;> exact Nat.le_refl _
  refine goS hz hX hns tabRP_ok Try.func31 (loopQo _ _ f _ _ E) ?_
  obtain ⟨o1, o2, o3, o4⟩ := qo_of hd n
  have p2 : roOn th m n = rtOn (rdS th m (n * 4)) := by unfold roOn; rw [hr]; simp
  have p3 : roEp th m n = rtEp (rdS th m (n * 4)) := by unfold roEp; rw [hr, if_pos rfl]
  have p4 : roPg th m n = rtPg (rdS th m (n * 4)) := by unfold roPg; rw [hr, if_pos rfl]
  have hs := rd_size hd (roC_in hr)
  generalize rdS th m (n * 4) = s at *
  have b9 := byteAt_range s (Int.toNat 9)
  have b10 := byteAt_range s (Int.toNat 10)
  have t1 : byteAt s (Int.toNat 9) * 256 + byteAt s (Int.toNat 10) = pgT s := rfl
  have e1 : E > 1099511627776 → rtEp s = 0 := fun h => by unfold rtEp; rw [if_pos (by omega)]
  have e2 : ¬ E > 1099511627776 → rtEp s = E := fun h => by unfold rtEp; rw [if_neg (by omega)]; omega
  have e3 : pgT s > 1023 → rtPg s = 0 := fun h => by unfold rtPg; rw [if_pos (by omega)]
  have e4 : ¬ pgT s > 1023 → rtPg s = pgT s := fun h => by unfold rtPg; rw [if_neg (by omega)]
  rw [t1]
  have b : 0 ≤ pgT s ∧ pgT s ≤ 65535 := by rw [← t1]; omega
  rw [hs]
  repeat' (with_reducible (first | refine h_eq ?_ | refine h_need ?_ ?_ | refine h_dec (fun _ => ?_) (fun _ => ?_) | refine h_beq (fun _ => ?_) (fun _ => ?_) | refine h_bne (fun _ => ?_) (fun _ => ?_) | refine h_tt ?_ | refine h_ff ?_ | refine h_not ?_ | refine h_ite (fun _ => ?_) (fun _ => ?_) | refine h_both (fun _ => ?_) (fun _ => ?_) | refine h_ret ?_ | refine h_at ?_))
  all_goals first | omega | exact ⟨by omega, by omega⟩ | skip
  · have q1 := e1 (by omega); have q2 := e3 (by omega)
    refine endC 1 roL rfl (Nat.le_refl _) ?_ rfl
    show AV.tup _ = _
    rw [o1, o2, o3, o4, p2, p3, p4, q1, q2, hr]; rfl
  · have q1 := e1 (by omega); have q2 := e4 (by omega)
    refine endC 1 roL rfl (Nat.le_refl _) ?_ rfl
    show AV.tup _ = _
    rw [o1, o2, o3, o4, p2, p3, p4, q1, q2, hr]; rfl
  · have q1 := e2 (by omega); have q2 := e3 (by omega)
    refine endC 1 roL rfl (Nat.le_refl _) ?_ rfl
    show AV.tup _ = _
    rw [o1, o2, o3, o4, p2, p3, p4, q1, q2, hr]; rfl
  · have q1 := e2 (by omega); have q2 := e4 (by omega)
    refine endC 1 roL rfl (Nat.le_refl _) ?_ rfl
    show AV.tup _ = _
    rw [o1, o2, o3, o4, p2, p3, p4, q1, q2, hr]; rfl
theorem qo_ok {Z : Glob} : FnS P Z 31 sQo := by
  refine fnS_of_safe Try.func31 (by kernel_rfl) (fun x => Nat.le_of_ble_eq_true (by kernel_rfl)) ?_
  rintro ⟨(t : List ByteArray), (a : Kp), (f : Int), (n : Int)⟩ ⟨⟨th, m, hd, rfl, rfl⟩, _⟩ X hX hz
  have hns : ∀ x ∈ nsQo, (sQo.heap (tOf th, aOf m, f, n)).length ≤ x.2.m := by intro y hy; simp [nsQo, unrollKey] at hy; rcases hy with rfl | rfl <;> exact Nat.le_refl _
  have h4 := hd.t.1
  have hN := pgN_le th
  have hR := okR_of hd
  have e : ((tOf th).length : Int).tdiv 4 = pgN th := pgNr_of th
  obtain ⟨o1, o2, o3, o4⟩ := qo_of hd n
  have bad : ¬ (0 ≤ n ∧ n ≤ 1 ∧ n < pgN th) → EndS sQo (tOf th, aOf m, f, n) [obR (tOf th) (aOf m) f, .own [.s (.blit false), .s (.ilit .i64 0), .s (.ilit .i64 0)] eQ] (.tup [.agg [.s (.blit false), .s (.ilit .i64 0), .s (.ilit .i64 0)], .s (.ilit .i64 5)]) := fun h => by
    obtain ⟨q1, q2, q3, q4⟩ := roC_no (m := m) h
    refine endC 1 roL rfl (Nat.le_refl _) ?_ rfl
    show AV.tup _ = _
    rw [o1, o2, o3, o4, q1, q2, q3, q4]; rfl
  have fin := fun hr E h0 h1 => qo_end (Z := Z) (n := n) hX hz hd hr E h0 h1
  refine goS hz hX hns tabRP_ok Try.func31 (trQo _ _ f n) ?_
  rw [(rd_of hd _).1, e, Int.mul_comm 4 n]
  by_cases hp : 0 ≤ n ∧ n ≤ 1 ∧ n < pgN th
  · have hr : roC th n = 0 := by unfold roC; rw [if_pos hp]
    have hs := rd_size hd (roC_in hr)
    have fin := fin hr
    have hon : ((byteAt (rdS th m (n * 4)) (Int.toNat 0)) == 1) = rtOn (rdS th m (n * 4)) := rfl
    rw [hon]
    generalize rdS th m (n * 4) = s at *
    generalize rtOn s = on at *
    have E1 : 0 + byteAt s (Int.toNat 1) = epN s 1 := rfl
    have E2 : epN s 1 * 256 + byteAt s (Int.toNat 2) = epN s 2 := rfl
    have E3 : epN s 2 * 256 + byteAt s (Int.toNat 3) = epN s 3 := rfl
    have E4 : epN s 3 * 256 + byteAt s (Int.toNat 4) = epN s 4 := rfl
    have E5 : epN s 4 * 256 + byteAt s (Int.toNat 5) = epN s 5 := rfl
    have E6 : epN s 5 * 256 + byteAt s (Int.toNat 6) = epN s 6 := rfl
    have E7 : epN s 6 * 256 + byteAt s (Int.toNat 7) = epN s 7 := rfl
    have E8 : epN s 7 * 256 + byteAt s (Int.toNat 8) = epN s 8 := rfl
    rw [E1, E2, E3, E4, E5, E6, E7, E8]
    have b1 := byteAt_range s (Int.toNat 1); have b2 := byteAt_range s (Int.toNat 2); have b3 := byteAt_range s (Int.toNat 3); have b4 := byteAt_range s (Int.toNat 4)
    have b5 := byteAt_range s (Int.toNat 5); have b6 := byteAt_range s (Int.toNat 6); have b7 := byteAt_range s (Int.toNat 7); have b8 := byteAt_range s (Int.toNat 8)
    have r1 := (epN_range s 1).1; have r2 := (epN_range s 2).1; have r3 := (epN_range s 3).1; have r4 := (epN_range s 4).1
    have r5 := (epN_range s 5).1; have r6 := (epN_range s 6).1; have r7 := (epN_range s 7).1; have r8 := (epN_range s 8).1
    have m1 := epN_mono (s := s) (show 1 ≤ 8 by omega); have m2 := epN_mono (s := s) (show 2 ≤ 8 by omega); have m3 := epN_mono (s := s) (show 3 ≤ 8 by omega); have m4 := epN_mono (s := s) (show 4 ≤ 8 by omega)
    have m5 := epN_mono (s := s) (show 5 ≤ 8 by omega); have m6 := epN_mono (s := s) (show 6 ≤ 8 by omega); have m7 := epN_mono (s := s) (show 7 ≤ 8 by omega)
    rw [hs]
    repeat' (with_reducible (first | refine h_eq ?_ | refine h_need ?_ ?_ | refine h_dec (fun _ => ?_) (fun _ => ?_) | refine h_beq (fun _ => ?_) (fun _ => ?_) | refine h_bne (fun _ => ?_) (fun _ => ?_) | refine h_tt ?_ | refine h_ff ?_ | refine h_not ?_ | refine h_ite (fun _ => ?_) (fun _ => ?_) | refine h_both (fun _ => ?_) (fun _ => ?_) | refine h_ret ?_ | refine h_at ?_))
    all_goals first | omega | exact ⟨by omega, by omega⟩ | assumption | skip
    all_goals (show Safe P _ X _ (cQo (tOf th) (aOf m) f s on _); refine fin _ ?_ ?_)
    all_goals omega
  · refine ⟨fun _ => bad hp, fun h1 => ⟨fun _ => bad hp, fun h2 => ⟨fun h3 => ⟨by decide, ⟨by omega, by omega⟩, fun _ => bad hp, fun h4 => ?_⟩, fun h3 => ?_⟩⟩⟩
    · have h1 := of_decide_eq_false h1
      have h2 := of_decide_eq_false h2
      have h4 : n < pgN th := by simpa using h4
      exact absurd ⟨by omega, by omega, h4⟩ hp
    · exact bad hp
/-! SetRoot -/
theorem mkB_eqr {ep pg : Int} (h0 : 0 ≤ ep) (h1 : 0 ≤ pg) (on : Bool) (ws : List Int) (hw : ws = if on = true then (List.replicate 64 (0 : Int)).set 0 1 else List.replicate 64 0) {x1 x2 x3 x4 x5 x6 x7 x8 y1 y2 : Int}
    (e1 : x1 = ep % 256) (e2 : x2 = ep / 256 % 256) (e3 : x3 = ep / 65536 % 256) (e4 : x4 = ep / 16777216 % 256) (e5 : x5 = ep / 4294967296 % 256) (e6 : x6 = ep / 1099511627776 % 256) (e7 : x7 = ep / 281474976710656 % 256) (e8 : x8 = ep / 72057594037927936 % 256) (f1 : y1 = pg / 256 % 256) (f2 : y2 = pg % 256) :
    ((((((((((ws.set 8 x1).set 7 x2).set 6 x3).set 5 x4).set 4 x5).set 3 x6).set 2 x7).set 1 x8).set 9 y1).set 10 y2) = mkB on ep pg := by
  have e : (List.replicate 64 (0 : Int)) = 0 :: 0 :: 0 :: 0 :: 0 :: 0 :: 0 :: 0 :: 0 :: 0 :: 0 :: List.replicate 53 0 := rfl
  subst e1 e2 e3 e4 e5 e6 e7 e8 f1 f2
  cases on
  · rw [if_neg (by decide), e] at hw
    subst hw
    rfl
  · rw [if_pos rfl, e] at hw
    subst hw
    rfl
theorem qs_end {Z : Glob} {X : Ctx} {th : Th} {m : As} {f n : Int} {on : Bool} {ep pg : Int} (hX : X.H = lk (sQs.heap (tOf th, aOf m, f, n, on, ep, pg))) (hz : ZCtx Z X) (hd : okD th m f) (hn : 0 ≤ n ∧ n ≤ 1) (hs : srC th n ep pg = 0) (h0 : 0 ≤ ep ∧ ep ≤ 1099511627776) (h1 : 0 ≤ pg ∧ pg ≤ 1023) (ws : List Int) (hw : ws = if on = true then (List.replicate 64 (0 : Int)).set 0 1 else List.replicate 64 0) :
    Safe P 32 X (EndS sQs (tOf th, aOf m, f, n, on, ep, pg)) (cQs (tOf th) (aOf m) f n on ep pg ws) := by
  have hns : ∀ x ∈ nsQs, (sQs.heap (tOf th, aOf m, f, n, on, ep, pg)).length ≤ x.2.m := by intro y hy; simp [nsQs, unrollKey] at hy; rcases hy with rfl | rfl | rfl <;> exact Nat.le_refl _
  have hR := okR_of hd
  obtain ⟨o1, o2, o3⟩ := qs_of hd n on ep pg
  have fin : Safe P 32 X (EndS sQs (tOf th, aOf m, f, n, on, ep, pg)) (cQs15 (tOf th) (aOf m) f n (mkB on ep pg)) := by
    refine goS hz hX hns tabRP_ok Try.func32 (loopQs15 _ _ f n _) ?_
    rw [show bytesStr (List.take 64 (List.drop 0 (mkB on ep pg))) = mkS on ep pg from by unfold mkS; rw [List.drop_zero, List.take_of_length_le (by rw [mkB_len]; omega)], Int.mul_comm 4 n]
    refine ⟨⟨by omega, by omega⟩, by decide, by decide, by decide, by decide, rfl, rfl, hR, ?_⟩
    rw [rwE_of, rwA_of hd, rwF_of hd.f]
    refine endC 1 roL rfl (Nat.le_refl _) ?_ ?_ <;> simp [o1, o2, o3, srE, srM, srF, hs, rnS]
  refine goS hz hX hns tabRP_ok Try.func32 (loopQs _ _ f n on ep pg ws) ?_
  have q1 : ep.tdiv 256 = ep / 256 := Int.tdiv_eq_ediv_of_nonneg h0.1
  have q2 : (ep / 256).tdiv 256 = ep / 65536 := by rw [Int.tdiv_eq_ediv_of_nonneg (by omega)]; omega
  have q3 : (ep / 65536).tdiv 256 = ep / 16777216 := by rw [Int.tdiv_eq_ediv_of_nonneg (by omega)]; omega
  have q4 : (ep / 16777216).tdiv 256 = ep / 4294967296 := by rw [Int.tdiv_eq_ediv_of_nonneg (by omega)]; omega
  have q5 : (ep / 4294967296).tdiv 256 = ep / 1099511627776 := by rw [Int.tdiv_eq_ediv_of_nonneg (by omega)]; omega
  have q6 : (ep / 1099511627776).tdiv 256 = ep / 281474976710656 := by rw [Int.tdiv_eq_ediv_of_nonneg (by omega)]; omega
  have q7 : (ep / 281474976710656).tdiv 256 = ep / 72057594037927936 := by rw [Int.tdiv_eq_ediv_of_nonneg (by omega)]; omega
  have q8 : (ep / 72057594037927936).tdiv 256 = 0 := by rw [Int.tdiv_eq_ediv_of_nonneg (by omega)]; omega
  have g1 : pg.tdiv 256 = pg / 256 := Int.tdiv_eq_ediv_of_nonneg h1.1
  have md : ∀ {x : Int}, 0 ≤ x → IntKind.u8.wrap (x.tmod 256) = x % 256 := fun h => by rw [wrap_u8, Int.tmod_eq_emod_of_nonneg h, Int.emod_emod]
  rw [q1, q2, q3, q4, q5, q6, q7, q8, g1, md (x := ep) h0.1, md (x := ep / 256) (by omega), md (x := ep / 65536) (by omega), md (x := ep / 16777216) (by omega), md (x := ep / 4294967296) (by omega), md (x := ep / 1099511627776) (by omega), md (x := ep / 281474976710656) (by omega), md (x := ep / 72057594037927936) (by omega), md (x := pg) h1.1,
    mkB_eqr h0.1 h1.1 on ws hw rfl rfl rfl rfl rfl rfl rfl rfl (wrap_u8 _) rfl]
  repeat' (with_reducible (first | refine h_eq ?_ | refine h_need ?_ ?_ | refine h_dec (fun _ => ?_) (fun _ => ?_) | refine h_beq (fun _ => ?_) (fun _ => ?_) | refine h_bne (fun _ => ?_) (fun _ => ?_) | refine h_tt ?_ | refine h_ff ?_ | refine h_not ?_ | refine h_ite (fun _ => ?_) (fun _ => ?_) | refine h_both (fun _ => ?_) (fun _ => ?_) | refine h_ret ?_ | refine h_at ?_))
  all_goals first | omega | exact ⟨by omega, by omega⟩ | exact fin
theorem qs_ok {Z : Glob} : FnS P Z 32 sQs := by
  refine fnS_of_safe Try.func32 (by kernel_rfl) (fun x => Nat.le_of_ble_eq_true (by kernel_rfl)) ?_
  rintro ⟨(t : List ByteArray), (a : Kp), (f : Int), (n : Int), (on : Bool), (ep : Int), (pg : Int)⟩ ⟨⟨th, m, hd, rfl, rfl⟩, _⟩ X hX hz
  have hns : ∀ x ∈ nsQs, (sQs.heap (tOf th, aOf m, f, n, on, ep, pg)).length ≤ x.2.m := by intro y hy; simp [nsQs, unrollKey] at hy; rcases hy with rfl | rfl | rfl <;> exact Nat.le_refl _
  have h4 := hd.t.1
  have hN := pgN_le th
  have e : ((tOf th).length : Int).tdiv 4 = pgN th := pgNr_of th
  obtain ⟨o1, o2, o3⟩ := qs_of hd n on ep pg
  have bad : ∀ c, srC th n ep pg = c → c ≠ 0 → EndS sQs (tOf th, aOf m, f, n, on, ep, pg) [obR (tOf th) (aOf m) f, .own [.s (.bool on), avI ep, avI pg] eQ] (.s (.ilit .i64 c)) := fun c h h2 => by
    have r1 : srE th f n on ep pg = c := by unfold srE; rw [h, if_neg h2]
    have r2 : srM th m f n on ep pg = m := by unfold srM; rw [h, if_neg h2]
    have r3 : srF th f n on ep pg = f := by unfold srF; rw [h, if_neg h2]
    refine endC 1 roL rfl (Nat.le_refl _) ?_ ?_ <;> simp [o1, o2, o3, r1, r2, r3, rnS]
  have c5 : ¬ (0 ≤ n ∧ n ≤ 1 ∧ n < pgN th) → srC th n ep pg = 5 := fun h => by unfold srC; rw [(roC_no (m := m) h).1]; rfl
  have c0 : 0 ≤ n → n ≤ 1 → n < pgN th → roC th n = 0 := fun a b c => by unfold roC; rw [if_pos ⟨a, b, c⟩]
  have c1 : 0 ≤ n → n ≤ 1 → n < pgN th → (ep < 0 ∨ ep > 1099511627776 ∨ pg < 0 ∨ pg ≥ 1024) → srC th n ep pg = 1 := fun a b c h => by unfold srC; rw [c0 a b c, if_pos rfl, if_pos h]
  have c2 : 0 ≤ n → n ≤ 1 → n < pgN th → ¬ (ep < 0 ∨ ep > 1099511627776 ∨ pg < 0 ∨ pg ≥ 1024) → srC th n ep pg = 0 := fun a b c h => by unfold srC; rw [c0 a b c, if_pos rfl, if_neg h]
  have fin := fun h1 h2 h3 h4 ws => qs_end (Z := Z) (th := th) (m := m) (f := f) (n := n) (on := on) (ep := ep) (pg := pg) hX hz hd h1 h2 h3 h4 ws
  refine goS hz hX hns tabRP_ok Try.func32 (trQs _ _ f n on ep pg) ?_
  rw [e]
  repeat' (with_reducible (first | refine h_eq ?_ | refine h_need ?_ ?_ | refine h_dec (fun _ => ?_) (fun _ => ?_) | refine h_beq (fun _ => ?_) (fun _ => ?_) | refine h_bne (fun _ => ?_) (fun _ => ?_) | refine h_tt ?_ | refine h_ff ?_ | refine h_not ?_ | refine h_ite (fun _ => ?_) (fun _ => ?_) | refine h_both (fun _ => ?_) (fun _ => ?_) | refine h_ret ?_ | refine h_at ?_))
  all_goals first
    | omega
    | exact ⟨by omega, by omega⟩
    | exact bad 5 (c5 (by omega)) (by decide)
    | exact bad 1 (c1 (by omega) (by omega) (by omega) (by omega)) (by decide)
    | (rename_i hon; exact fin ⟨by omega, by omega⟩ (c2 (by omega) (by omega) (by omega) (by omega)) ⟨by omega, by omega⟩ ⟨by omega, by omega⟩ _ (by rw [if_pos hon]))
    | (rename_i hon; exact fin ⟨by omega, by omega⟩ (c2 (by omega) (by omega) (by omega) (by omega)) ⟨by omega, by omega⟩ ⟨by omega, by omega⟩ _ (by rw [if_neg (by rw [hon]; decide)]))
end Ds

/-! An own object told in other words; a number told as a literal (its sums wrap, and nothing is owed). -/
namespace Go.Sx
open Go

section
variable {P : Program} {X : Ctx} {K : List AObj → AV → Prop} {L : List AObj}

theorem own_safe {f : FuncId} {tmps : List AV} {todo : List Item} {stk : Stk} {id : Nat} {segs segs' : List AV} {e : TypeId} (hid : L[id]? = some (.own segs e))
    (hc : ∀ (ρ : Nat → Value) (H : AHeap) (O : Nat → Prop) (w : World) (cells : List Value), DenSegs ρ H O w segs cells → DenSegs ρ H O w segs' cells)
    (h : Safe P f X K ⟨tmps, L.set id (.own segs' e), todo, stk⟩) : Safe P f X K ⟨tmps, L, todo, stk⟩ := by
  intro G E ρ a w hG1 hG2 hr b t fs hw
  have hs : Sat ρ (lk L) G w := hr.sat
  have hlt : id < L.length := (List.getElem?_eq_some_iff.1 hid).1
  have eL : lk (L.set id (.own segs' e)) = updH (lk L) id (.own segs' e) := by
    funext k
    show (L.set id (.own segs' e))[k]? = _
    rw [List.getElem?_set]
    by_cases hk : id = k
    · subst hk; simp [updH, hlt]
    · rw [if_neg hk]; simp [updH, Ne.symm hk]
  have st0 : Step ρ (lk L) (Hot ρ (lk L) G) w ρ (updH (lk L) id (.own segs' e)) (Hot ρ (lk L) G) w := by
    refine ⟨fun _ _ _ => rfl, fun j x hx => ?_, fun c hc => .inl hc, fun c _ _ => rfl, Nat.le_refl _⟩
    by_cases hj : j = id
    · subst hj
      exact ⟨.own segs' e, by simp [updH], fun c' e' hc => by cases hc⟩
    · exact ⟨x, by simp [updH, hj, hx], fun c' e' hc => ⟨c', e', hc, rfl, rfl⟩⟩
  have hobj : ObjSat ρ (updH (lk L) id (.own segs' e)) (Hot ρ (lk L) G) w (ρ id) (.own segs' e) := by
    obtain ⟨b2, cells, fr, h1, h2, h3, h4⟩ := hs.obj id _ hid
    exact ⟨b2, cells, fr, h1, h2, h3, (hc _ _ _ _ _ h4).step st0⟩
  obtain ⟨ρ', s', _, st, _⟩ := Good.upd (H := lk L) (o' := .own segs' e) (r := .s .junk) (v := undef) hs hid rfl (fun c2 e2 he => by cases he) hobj (by unfold DenV; trivial)
  rw [← eL] at s' st
  exact h G E ρ' a w hG1 hG2 ⟨s', hr.size, fun u => (hr.den u).step st, hr.defers, hr.from_.trans st, hr.frm, hr.kept⟩ b t fs hw

theorem DenSegs_lit {k : IntKind} {n : Int} : ∀ {segs : List AV} {j : Nat}, segs[j]? = some (.s (.int k n)) → ∀ (ρ : Nat → Value) (H : AHeap) (O : Nat → Prop) (w : World) (cells : List Value), DenSegs ρ H O w segs cells → DenSegs ρ H O w (segs.set j (.s (.ilit k n))) cells
  | [], j, h, _, _, _, _, _, _ => by simp at h
  | a :: segs, 0, h, ρ, H, O, w, cells, hd => by
    simp only [List.getElem?_cons_zero, Option.some.injEq] at h
    subst h
    obtain ⟨c1, c2, rfl, h1, h2⟩ := DenSegs_cons.1 hd
    refine DenSegs_cons.2 ⟨c1, c2, rfl, ?_, h2⟩
    unfold DenC at h1 ⊢
    obtain ⟨u, rfl, hu⟩ := h1
    cases hu
    exact ⟨_, rfl, .ilit _ _⟩
  | a :: segs, j + 1, h, ρ, H, O, w, cells, hd => by
    obtain ⟨c1, c2, rfl, h1, h2⟩ := DenSegs_cons.1 hd
    exact DenSegs_cons.2 ⟨c1, c2, rfl, h1, DenSegs_lit (by simpa using h) ρ H O w c2 h2⟩

/-- A number in an own object's cell, told as a literal. -/
theorem lit_safe {f : FuncId} {tmps : List AV} {todo : List Item} {stk : Stk} {id : Nat} {segs : List AV} {e : TypeId} (hid : L[id]? = some (.own segs e)) {j : Nat} {k : IntKind} {n : Int} (hj : segs[j]? = some (.s (.int k n)))
    (h : Safe P f X K ⟨tmps, L.set id (.own (segs.set j (.s (.ilit k n))) e), todo, stk⟩) : Safe P f X K ⟨tmps, L, todo, stk⟩ :=
  own_safe hid (DenSegs_lit hj) h
/-- A number in a slot, told as a literal. -/
theorem slot_lit_safe {f : FuncId} {tmps : List AV} {L : List AObj} {todo : List Item} {stk : Stk} {t : Nat} {k : IntKind} {n : Int} (ht : tmps.getD t (.s .junk) = .s (.int k n))
    (h : Safe P f X K ⟨tmps.set t (.s (.ilit k n)), L, todo, stk⟩) : Safe P f X K ⟨tmps, L, todo, stk⟩ := by
  intro G E ρ a w hG1 hG2 hr b t' fs hw
  refine h G E ρ a w hG1 hG2 (hr.refine (d := t) (x := .s (.int k n)) ht fun v hv => ?_) b t' fs hw
  have := DenS_of_V (by simp) hv
  cases this
  exact DenV_s (.ilit _ _)
end
end Go.Sx

namespace Ds
open Go Go.Sx Go.Proofs Lf
/-! PagePlays: trees -/
abbrev cSt : List CK := [.int .u8, .int .i64, .str, .bool, .int .i64, .int .i64, .bools, .int .i64, .int .i64]
abbrev pK (x : CL cSt) : Int := x.1
abbrev pN (x : CL cSt) : Int := x.2.1
abbrev pS (x : CL cSt) : ByteArray := x.2.2.1
abbrev pO (x : CL cSt) : Bool := x.2.2.2.1
abbrev pE (x : CL cSt) : Int := x.2.2.2.2.1
abbrev pP (x : CL cSt) : Int := x.2.2.2.2.2.1
abbrev pB (x : CL cSt) : List Bool := x.2.2.2.2.2.2.1
abbrev pT (x : CL cSt) : Int := x.2.2.2.2.2.2.2.1
abbrev pC (x : CL cSt) : Int := x.2.2.2.2.2.2.2.2.1
abbrev avSt (l : List (CL cSt)) : AV := .s (.ro (.typ cSt l))
abbrev eSt : TypeId := 74
abbrev tSt : Ty := .b (.row (.typ cSt) 68)
abbrev obS (x : CL cSt) (n : SV) : AObj := .own [.s (.int .u8 (pK x)), .s n, .s (.str (pS x)), .s (.bool (pO x)), avI (pE x), avI (pP x), .s (.ro (.bools (pB x))), avI (pT x), avI (pC x)] eSt
/-! large -/
def nsLg : List (Nat × Norm) := [(4, ⟨[], [0, 3], 0, []⟩)]
theorem trLg (l : List (CL cSt)) : run P tab0.sum Try.f27 nsLg (start Try.f27 [avSt l] []) =
  Tree.ite (decide ((↑l.length : Int) > (200 : Int))) (Tree.ret [] (AV.s (SV.blit true))) (Tree.at (Cfg.mk (sl (29 : Nat) [((0 : Nat), AV.s (SV.ro (Con.typ cSt l))), ((3 : Nat), AV.s (SV.int IntKind.i64 (0 : Int)))]) [] (hd Try.f27 (4 : Nat)) (Stk.mk none false (0 : Nat) [] (0 : Nat)))) := by kernel_rfl
noncomputable def cLg (l : List (CL cSt)) (i : Int) : Cfg := ⟨sl 29 [(0, avSt l), (3, avI i)], [], hd Try.f27 4, {}⟩
theorem loopLg (l : List (CL cSt)) (i : Int) : run P tab0.sum Try.f27 nsLg (cLg l i) =
  Tree.ite (decide (i < (↑l.length : Int))) (Tree.need ((0 : Int) ≤ i) (Tree.need (i < (↑l.length : Int)) (Tree.ite (decide ((↑(pS (el l i)).size : Int) > (600 : Int))) (Tree.ret [] (AV.s (SV.blit true))) (Tree.need ((0 : Int) ≤ i) (Tree.need (i < (↑l.length : Int)) (Tree.ite (decide ((↑(pB (el l i)).length : Int) > (400 : Int))) (Tree.ret [] (AV.s (SV.blit true))) (Tree.need (inI64 (i + (1 : Int))) (Tree.at (Cfg.mk (sl (29 : Nat) [((0 : Nat), AV.s (SV.ro (Con.typ cSt l))), ((3 : Nat), AV.s (SV.int IntKind.i64 (i + (1 : Int))))]) [] (hd Try.f27 (4 : Nat)) (Stk.mk none false (0 : Nat) [] (0 : Nat))))))))))) (Tree.ret [] (AV.s (SV.blit false))) := by kernel_rfl
def bigSt (x : CL cSt) : Bool := decide (((pS x).size : Int) > 600) || decide (((pB x).length : Int) > 400)
def lgF (l : List (CL cSt)) : Bool := decide ((l.length : Int) > 200) || l.any bigSt
abbrev sumLg := sumOf [tSt] [tBool] (fun _ => []) (fun (l, ()) => (lgF l, ()))
def tabPp : Tab := (27, sumLg) :: (29, sumS sQw mWi) :: (30, sumS sQr mRR) :: (31, sumS sQo mRR) :: (32, sumS sQs fun
    | [.ptr id 0, n, .agg [on, ep, pg]] => (mR [.ptr id 0]).bind fun ((t, a, f), σ) => match n.num?, on.truth?, ep.num?, pg.num? with
      | some (_, _, n), some (_, on), some (_, _, ep), some (_, _, pg) => .ret ((t, a, f, n, on, ep, pg), σ)
      | _, _, _, _ => .fail "no number"
    | _ => .fail "no disk") :: (39, sumS sQp mR) :: (42, sumRR) :: (34, sumRW) :: (35, sumRF) :: (37, sumRFu) :: (38, sumRC) :: tabPt
abbrev hPp (th : Th) (m : As) (fu : Int) (t : List ByteArray) (a : Kp) (f : Int) : List AObj := [obD 2 3 fu, obR t a f, .vec (.typ cS th) eS, .map kS m]
abbrev hPs (x : CL cSt) (n : SV) (th : Th) (m : As) (fu : Int) (t : List ByteArray) (a : Kp) (f : Int) : List AObj := [obD 3 4 fu, obR t a f, obS x n, .vec (.typ cS th) eS, .map kS m]
abbrev fNw : FuncId := 28
abbrev roK : List (Nat × Nat × Bool × Con × TypeId) := [(1, 0, true, .strs [], 9), (1, 1, true, .typ cK [], eK)]
def nsPp : List (Nat × Norm) := [(10, ⟨[], [1, 5, 7, 9], 0, roK⟩), (34, ⟨[], [1, 5, 7, 9, 10, 11], 0, roK⟩), (36, ⟨[], [1, 5, 7, 9, 10], 0, roK⟩), (37, ⟨[], [1, 5, 7, 9, 10, 20], 0, roK⟩), ((fNw + 1) * 100000 + 5, ⟨[], [0, 4, 5, 28, 32, 33], 0, []⟩)]
abbrev inPp : List FuncId := [11, fNw]
theorem treePp (sec : Int) (l : List (CL cSt)) : run P tabPp.sum Try.f9 nsPp (start Try.f9 [avI sec, avSt l] []) inPp =
  Tree.ite (lgF l) (Tree.ret [] (AV.s (SV.bool true))) (Tree.ite (decide (sec < (1 : Int))) (Tree.ite (decide (sec < (1 : Int))) (Tree.ret [] (AV.s (SV.bool true))) (Tree.ite (decide (sec > (4096 : Int))) (Tree.ret [] (AV.s (SV.bool true))) (Tree.need ((0 : Int) ≤ sec) (Tree.need (sec ≤ sec) (Tree.need (sec ≤ (1073741824 : Int)) (Tree.at (Cfg.mk (sl (263 : Nat) [((0 : Nat), AV.s (SV.int IntKind.i64 sec)), ((4 : Nat), AV.vec (0 : Nat)), ((5 : Nat), AV.s (SV.int IntKind.i64 (0 : Int))), ((28 : Nat), AV.s (SV.ro (Con.typ cSt l))), ((32 : Nat), AV.s SV.nilp), ((33 : Nat), AV.s (SV.int IntKind.i64 (1 : Int)))]) [AObj.vec (Con.strs (List.replicate sec.toNat ByteArray.empty)) (9 : Nat)] (hd Try.f28 (5 : Nat)) (Stk.mk (some (28 : Nat)) false (0 : Nat) [inCall Try.f9 none (4 : Nat) (1 : Nat) false (0 : Nat)] (0 : Nat))))))))) (Tree.ite (decide (sec > (4096 : Int))) (Tree.ite (decide (sec < (1 : Int))) (Tree.ret [] (AV.s (SV.bool true))) (Tree.ite (decide (sec > (4096 : Int))) (Tree.ret [] (AV.s (SV.bool true))) (Tree.need ((0 : Int) ≤ sec) (Tree.need (sec ≤ sec) (Tree.need (sec ≤ (1073741824 : Int)) (Tree.at (Cfg.mk (sl (263 : Nat) [((0 : Nat), AV.s (SV.int IntKind.i64 sec)), ((4 : Nat), AV.vec (0 : Nat)), ((5 : Nat), AV.s (SV.int IntKind.i64 (0 : Int))), ((28 : Nat), AV.s (SV.ro (Con.typ cSt l))), ((32 : Nat), AV.s SV.nilp), ((33 : Nat), AV.s (SV.int IntKind.i64 (1 : Int)))]) [AObj.vec (Con.strs (List.replicate sec.toNat ByteArray.empty)) (9 : Nat)] (hd Try.f28 (5 : Nat)) (Stk.mk (some (28 : Nat)) false (0 : Nat) [inCall Try.f9 none (4 : Nat) (1 : Nat) false (0 : Nat)] (0 : Nat))))))))) (Tree.need ((0 : Int) ≤ sec) (Tree.need (sec ≤ sec) (Tree.need (sec ≤ (1073741824 : Int)) (Tree.ite (decide (sec < (1 : Int))) (Tree.ret [AObj.vec (Con.typ [CK.arr IntKind.u8 (64 : Nat)] (List.replicate sec.toNat (CL.d [CK.arr IntKind.u8 (64 : Nat)]))) (108 : Nat), AObj.map (CK.arr IntKind.u8 (64 : Nat)) [], AObj.own [AV.vec (0 : Nat), AV.mapv (1 : Nat), AV.s (SV.ilit IntKind.i64 (-1 : Int))] (90 : Nat)] (AV.s (SV.blit false))) (Tree.ite (decide (sec > (4096 : Int))) (Tree.ret [AObj.vec (Con.typ [CK.arr IntKind.u8 (64 : Nat)] (List.replicate sec.toNat (CL.d [CK.arr IntKind.u8 (64 : Nat)]))) (108 : Nat), AObj.map (CK.arr IntKind.u8 (64 : Nat)) [], AObj.own [AV.vec (0 : Nat), AV.mapv (1 : Nat), AV.s (SV.ilit IntKind.i64 (-1 : Int))] (90 : Nat)] (AV.s (SV.blit false))) (Tree.need ((0 : Int) ≤ sec) (Tree.need (sec ≤ sec) (Tree.need (sec ≤ (1073741824 : Int)) (Tree.at (Cfg.mk (sl (263 : Nat) [((0 : Nat), AV.s (SV.int IntKind.i64 sec)), ((4 : Nat), AV.vec (0 : Nat)), ((5 : Nat), AV.s (SV.int IntKind.i64 (0 : Int))), ((28 : Nat), AV.s (SV.ro (Con.typ cSt l))), ((32 : Nat), AV.ptr (1 : Nat) (0 : Nat)), ((33 : Nat), AV.s (SV.int IntKind.i64 (0 : Int)))]) [AObj.vec (Con.strs (List.replicate sec.toNat ByteArray.empty)) (9 : Nat), AObj.own [AV.vec (2 : Nat), AV.mapv (3 : Nat), AV.s (SV.int IntKind.i64 (-1 : Int))] (90 : Nat), AObj.vec (Con.typ [CK.arr IntKind.u8 (64 : Nat)] (List.replicate sec.toNat (CL.d [CK.arr IntKind.u8 (64 : Nat)]))) (108 : Nat), AObj.map (CK.arr IntKind.u8 (64 : Nat)) []] (hd Try.f28 (5 : Nat)) (Stk.mk (some (28 : Nat)) false (0 : Nat) [inCall Try.f9 none (4 : Nat) (1 : Nat) false (0 : Nat)] (0 : Nat)))))))))))))) := by kernel_rfl
noncomputable def cPp (l : List (CL cSt)) (th : Th) (m : As) (fu : Int) (t : List ByteArray) (a : Kp) (f i : Int) : Cfg := ⟨sl 236 [(1, avSt l), (5, .ptr 0 0), (7, .ptr 1 0), (9, avI i)], hPp th m fu t a f, hd Try.f9 10, {}⟩
theorem loopPp (l : List (CL cSt)) (th : Th) (m : As) (fu : Int) (t : List ByteArray) (a : Kp) (f i : Int) : run P tabPp.sum Try.f9 nsPp (cPp l th m fu t a f i) inPp =
  Tree.ite (decide (i < (↑l.length : Int)))
  (Tree.need ((0 : Int) ≤ i)
    (Tree.need (i < (↑l.length : Int))
      (Tree.ite (pK (el l i) == (0 : Int)) (Tree.need (Slf (some [AV.ptr (0 : Nat) (0 : Nat), AV.s (SV.int IntKind.i64 (pN (el l i))), AV.s (SV.str (pS (el l i)))])) (Tree.need (Slf (some [AObj.own [AV.vec (1 : Nat), AV.mapv (2 : Nat), AV.s (SV.int IntKind.i64 fu)] (90 : Nat), AObj.vec (Con.typ [CK.arr IntKind.u8 (64 : Nat)] th) (108 : Nat), AObj.map (CK.arr IntKind.u8 (64 : Nat)) m])) (Tree.need (okD th m fu) (Tree.need (inI64 (pN (el l i))) (Tree.need (Slf (some [AV.ptr (0 : Nat) (0 : Nat), AV.s (SV.int IntKind.i64 (pN (el l i))), AV.s (SV.str (pS (el l i)))])) (Tree.need (Slf (some [AObj.own [AV.s (SV.ro (Con.strs t)), AV.s (SV.ro (Con.typ cK a)), AV.s (SV.int IntKind.i64 f)] (115 : Nat)])) (Tree.need (repR t a f) (Tree.at (Cfg.mk (sl (236 : Nat) [((1 : Nat), AV.s (SV.ro (Con.typ cSt l))), ((5 : Nat), AV.ptr (0 : Nat) (0 : Nat)), ((7 : Nat), AV.ptr (1 : Nat) (0 : Nat)), ((9 : Nat), AV.s (SV.int IntKind.i64 i)), ((10 : Nat), AV.ptr (2 : Nat) (0 : Nat)), ((11 : Nat), AV.s (SV.bool ((gwR th m fu (pN (el l i)) (pS (el l i))).snd.snd == (qwR t a f (pN (el l i)) (pS (el l i))).snd.snd)))]) [AObj.own [AV.vec (3 : Nat), AV.mapv (4 : Nat), AV.s (SV.int IntKind.i64 (gwR th m fu (pN (el l i)) (pS (el l i))).snd.fst)] (90 : Nat), AObj.own [AV.s (SV.ro (Con.strs t)), AV.s (SV.ro (Con.typ cK (qwR t a f (pN (el l i)) (pS (el l i))).fst)), AV.s (SV.int IntKind.i64 (qwR t a f (pN (el l i)) (pS (el l i))).snd.fst)] (115 : Nat), AObj.own [AV.s (SV.int IntKind.u8 (pK (el l i))), AV.s (SV.int IntKind.i64 (pN (el l i))), AV.s (SV.str (pS (el l i))), AV.s (SV.bool (pO (el l i))), AV.s (SV.int IntKind.i64 (pE (el l i))), AV.s (SV.int IntKind.i64 (pP (el l i))), AV.s (SV.ro (Con.bools (pB (el l i)))), AV.s (SV.int IntKind.i64 (pT (el l i))), AV.s (SV.int IntKind.i64 (pC (el l i)))] (74 : Nat), AObj.vec (Con.typ [CK.arr IntKind.u8 (64 : Nat)] th) (108 : Nat), AObj.map (CK.arr IntKind.u8 (64 : Nat)) (gwR th m fu (pN (el l i)) (pS (el l i))).fst] (hr Try.f9 (34 : Nat)) (Stk.mk none false (0 : Nat) [] (0 : Nat)))))))))))
        (Tree.ite (pK (el l i) == (1 : Int)) (Tree.need (Slf (some [AV.ptr (0 : Nat) (0 : Nat), AV.s (SV.int IntKind.i64 (pN (el l i)))])) (Tree.need (Slf (some [AObj.own [AV.vec (1 : Nat), AV.mapv (2 : Nat), AV.s (SV.int IntKind.i64 fu)] (90 : Nat), AObj.vec (Con.typ [CK.arr IntKind.u8 (64 : Nat)] th) (108 : Nat), AObj.map (CK.arr IntKind.u8 (64 : Nat)) m])) (Tree.need (okD th m fu) (Tree.need (inI64 (pN (el l i))) (Tree.need (Slf (some [AV.ptr (0 : Nat) (0 : Nat), AV.s (SV.int IntKind.i64 (pN (el l i)))])) (Tree.need (Slf (some [AObj.own [AV.s (SV.ro (Con.strs t)), AV.s (SV.ro (Con.typ cK a)), AV.s (SV.int IntKind.i64 f)] (115 : Nat)])) (Tree.need (repR t a f) (Tree.ite (decide (grS th m (pN (el l i)) = qrS t a (pN (el l i)))) (Tree.at (Cfg.mk (sl (236 : Nat) [((1 : Nat), AV.s (SV.ro (Con.typ cSt l))), ((5 : Nat), AV.ptr (0 : Nat) (0 : Nat)), ((7 : Nat), AV.ptr (1 : Nat) (0 : Nat)), ((9 : Nat), AV.s (SV.int IntKind.i64 i)), ((10 : Nat), AV.ptr (2 : Nat) (0 : Nat)), ((11 : Nat), AV.s (SV.bool (grE th m (pN (el l i)) == qrE t a (pN (el l i)))))]) [AObj.own [AV.vec (3 : Nat), AV.mapv (4 : Nat), AV.s (SV.int IntKind.i64 fu)] (90 : Nat), AObj.own [AV.s (SV.ro (Con.strs t)), AV.s (SV.ro (Con.typ cK a)), AV.s (SV.int IntKind.i64 f)] (115 : Nat), AObj.own [AV.s (SV.int IntKind.u8 (pK (el l i))), AV.s (SV.int IntKind.i64 (pN (el l i))), AV.s (SV.str (pS (el l i))), AV.s (SV.bool (pO (el l i))), AV.s (SV.int IntKind.i64 (pE (el l i))), AV.s (SV.int IntKind.i64 (pP (el l i))), AV.s (SV.ro (Con.bools (pB (el l i)))), AV.s (SV.int IntKind.i64 (pT (el l i))), AV.s (SV.int IntKind.i64 (pC (el l i)))] (74 : Nat), AObj.vec (Con.typ [CK.arr IntKind.u8 (64 : Nat)] th) (108 : Nat), AObj.map (CK.arr IntKind.u8 (64 : Nat)) m] (hr Try.f9 (34 : Nat)) (Stk.mk none false (0 : Nat) [] (0 : Nat)))) (Tree.at (Cfg.mk (sl (236 : Nat) [((1 : Nat), AV.s (SV.ro (Con.typ cSt l))), ((5 : Nat), AV.ptr (0 : Nat) (0 : Nat)), ((7 : Nat), AV.ptr (1 : Nat) (0 : Nat)), ((9 : Nat), AV.s (SV.int IntKind.i64 i)), ((10 : Nat), AV.ptr (2 : Nat) (0 : Nat)), ((11 : Nat), AV.s (SV.bool false))]) [AObj.own [AV.vec (3 : Nat), AV.mapv (4 : Nat), AV.s (SV.int IntKind.i64 fu)] (90 : Nat), AObj.own [AV.s (SV.ro (Con.strs t)), AV.s (SV.ro (Con.typ cK a)), AV.s (SV.int IntKind.i64 f)] (115 : Nat), AObj.own [AV.s (SV.int IntKind.u8 (pK (el l i))), AV.s (SV.int IntKind.i64 (pN (el l i))), AV.s (SV.str (pS (el l i))), AV.s (SV.bool (pO (el l i))), AV.s (SV.int IntKind.i64 (pE (el l i))), AV.s (SV.int IntKind.i64 (pP (el l i))), AV.s (SV.ro (Con.bools (pB (el l i)))), AV.s (SV.int IntKind.i64 (pT (el l i))), AV.s (SV.int IntKind.i64 (pC (el l i)))] (74 : Nat), AObj.vec (Con.typ [CK.arr IntKind.u8 (64 : Nat)] th) (108 : Nat), AObj.map (CK.arr IntKind.u8 (64 : Nat)) m] (hr Try.f9 (34 : Nat)) (Stk.mk none false (0 : Nat) [] (0 : Nat))))))))))))
          (Tree.ite (pK (el l i) == (2 : Int)) (Tree.need (Slf (some [AV.ptr (0 : Nat) (0 : Nat), AV.s (SV.int IntKind.i64 (pN (el l i)))])) (Tree.need (Slf (some [AObj.own [AV.vec (1 : Nat), AV.mapv (2 : Nat), AV.s (SV.int IntKind.i64 fu)] (90 : Nat), AObj.vec (Con.typ [CK.arr IntKind.u8 (64 : Nat)] th) (108 : Nat), AObj.map (CK.arr IntKind.u8 (64 : Nat)) m])) (Tree.need (okD th m fu) (Tree.need (inI64 (pN (el l i))) (Tree.need (Slf (some [AV.ptr (0 : Nat) (0 : Nat), AV.s (SV.int IntKind.i64 (pN (el l i)))])) (Tree.need (Slf (some [AObj.own [AV.s (SV.ro (Con.strs t)), AV.s (SV.ro (Con.typ cK a)), AV.s (SV.int IntKind.i64 f)] (115 : Nat)])) (Tree.need (repR t a f) (Tree.ite (roOn th m (pN (el l i)) == qoOn t a (pN (el l i)) && (roEp th m (pN (el l i)) == qoEp t a (pN (el l i)) && (roPg th m (pN (el l i)) == qoPg t a (pN (el l i)) && true))) (Tree.at (Cfg.mk (sl (236 : Nat) [((1 : Nat), AV.s (SV.ro (Con.typ cSt l))), ((5 : Nat), AV.ptr (0 : Nat) (0 : Nat)), ((7 : Nat), AV.ptr (1 : Nat) (0 : Nat)), ((9 : Nat), AV.s (SV.int IntKind.i64 i)), ((10 : Nat), AV.ptr (2 : Nat) (0 : Nat)), ((11 : Nat), AV.s (SV.bool (roC th (pN (el l i)) == qoC t (pN (el l i)))))]) [AObj.own [AV.vec (3 : Nat), AV.mapv (4 : Nat), AV.s (SV.int IntKind.i64 fu)] (90 : Nat), AObj.own [AV.s (SV.ro (Con.strs t)), AV.s (SV.ro (Con.typ cK a)), AV.s (SV.int IntKind.i64 f)] (115 : Nat), AObj.own [AV.s (SV.int IntKind.u8 (pK (el l i))), AV.s (SV.int IntKind.i64 (pN (el l i))), AV.s (SV.str (pS (el l i))), AV.s (SV.bool (pO (el l i))), AV.s (SV.int IntKind.i64 (pE (el l i))), AV.s (SV.int IntKind.i64 (pP (el l i))), AV.s (SV.ro (Con.bools (pB (el l i)))), AV.s (SV.int IntKind.i64 (pT (el l i))), AV.s (SV.int IntKind.i64 (pC (el l i)))] (74 : Nat), AObj.vec (Con.typ [CK.arr IntKind.u8 (64 : Nat)] th) (108 : Nat), AObj.map (CK.arr IntKind.u8 (64 : Nat)) m] (hr Try.f9 (34 : Nat)) (Stk.mk none false (0 : Nat) [] (0 : Nat)))) (Tree.at (Cfg.mk (sl (236 : Nat) [((1 : Nat), AV.s (SV.ro (Con.typ cSt l))), ((5 : Nat), AV.ptr (0 : Nat) (0 : Nat)), ((7 : Nat), AV.ptr (1 : Nat) (0 : Nat)), ((9 : Nat), AV.s (SV.int IntKind.i64 i)), ((10 : Nat), AV.ptr (2 : Nat) (0 : Nat)), ((11 : Nat), AV.s (SV.bool false))]) [AObj.own [AV.vec (3 : Nat), AV.mapv (4 : Nat), AV.s (SV.int IntKind.i64 fu)] (90 : Nat), AObj.own [AV.s (SV.ro (Con.strs t)), AV.s (SV.ro (Con.typ cK a)), AV.s (SV.int IntKind.i64 f)] (115 : Nat), AObj.own [AV.s (SV.int IntKind.u8 (pK (el l i))), AV.s (SV.int IntKind.i64 (pN (el l i))), AV.s (SV.str (pS (el l i))), AV.s (SV.bool (pO (el l i))), AV.s (SV.int IntKind.i64 (pE (el l i))), AV.s (SV.int IntKind.i64 (pP (el l i))), AV.s (SV.ro (Con.bools (pB (el l i)))), AV.s (SV.int IntKind.i64 (pT (el l i))), AV.s (SV.int IntKind.i64 (pC (el l i)))] (74 : Nat), AObj.vec (Con.typ [CK.arr IntKind.u8 (64 : Nat)] th) (108 : Nat), AObj.map (CK.arr IntKind.u8 (64 : Nat)) m] (hr Try.f9 (34 : Nat)) (Stk.mk none false (0 : Nat) [] (0 : Nat))))))))))))
            (Tree.ite (pK (el l i) == (3 : Int)) (Tree.need (Slf (some [AV.ptr (0 : Nat) (0 : Nat), AV.s (SV.int IntKind.i64 (pN (el l i))), AV.agg [AV.s (SV.bool (pO (el l i))), AV.s (SV.int IntKind.i64 (pE (el l i))), AV.s (SV.int IntKind.i64 (pP (el l i)))]])) (Tree.need (Slf (some [AObj.own [AV.vec (1 : Nat), AV.mapv (2 : Nat), AV.s (SV.int IntKind.i64 fu)] (90 : Nat), AObj.vec (Con.typ [CK.arr IntKind.u8 (64 : Nat)] th) (108 : Nat), AObj.map (CK.arr IntKind.u8 (64 : Nat)) m])) (Tree.need (okD th m fu) (Tree.need (inI64 (pN (el l i))) (Tree.need (Slf (some [AV.ptr (0 : Nat) (0 : Nat), AV.s (SV.int IntKind.i64 (pN (el l i))), AV.agg [AV.s (SV.bool (pO (el l i))), AV.s (SV.int IntKind.i64 (pE (el l i))), AV.s (SV.int IntKind.i64 (pP (el l i)))]])) (Tree.need (Slf (some [AObj.own [AV.s (SV.ro (Con.strs t)), AV.s (SV.ro (Con.typ cK a)), AV.s (SV.int IntKind.i64 f)] (115 : Nat)])) (Tree.need (repR t a f) (Tree.at (Cfg.mk (sl (236 : Nat) [((1 : Nat), AV.s (SV.ro (Con.typ cSt l))), ((5 : Nat), AV.ptr (0 : Nat) (0 : Nat)), ((7 : Nat), AV.ptr (1 : Nat) (0 : Nat)), ((9 : Nat), AV.s (SV.int IntKind.i64 i)), ((10 : Nat), AV.ptr (2 : Nat) (0 : Nat)), ((11 : Nat), AV.s (SV.bool (srE th fu (pN (el l i)) (pO (el l i)) (pE (el l i)) (pP (el l i)) == qsE t f (pN (el l i)) (pO (el l i)) (pE (el l i)) (pP (el l i)))))]) [AObj.own [AV.vec (3 : Nat), AV.mapv (4 : Nat), AV.s (SV.int IntKind.i64 (srF th fu (pN (el l i)) (pO (el l i)) (pE (el l i)) (pP (el l i))))] (90 : Nat), AObj.own [AV.s (SV.ro (Con.strs t)), AV.s (SV.ro (Con.typ cK (qsA t a f (pN (el l i)) (pO (el l i)) (pE (el l i)) (pP (el l i))))), AV.s (SV.int IntKind.i64 (qsF t f (pN (el l i)) (pO (el l i)) (pE (el l i)) (pP (el l i))))] (115 : Nat), AObj.own [AV.s (SV.int IntKind.u8 (pK (el l i))), AV.s (SV.int IntKind.i64 (pN (el l i))), AV.s (SV.str (pS (el l i))), AV.s (SV.bool (pO (el l i))), AV.s (SV.int IntKind.i64 (pE (el l i))), AV.s (SV.int IntKind.i64 (pP (el l i))), AV.s (SV.ro (Con.bools (pB (el l i)))), AV.s (SV.int IntKind.i64 (pT (el l i))), AV.s (SV.int IntKind.i64 (pC (el l i)))] (74 : Nat), AObj.vec (Con.typ [CK.arr IntKind.u8 (64 : Nat)] th) (108 : Nat), AObj.map (CK.arr IntKind.u8 (64 : Nat)) (srM th m fu (pN (el l i)) (pO (el l i)) (pE (el l i)) (pP (el l i)))] (hr Try.f9 (34 : Nat)) (Stk.mk none false (0 : Nat) [] (0 : Nat)))))))))))
              (Tree.ite (pK (el l i) == (4 : Int)) (Tree.need (Slf (some [AV.ptr (0 : Nat) (0 : Nat), AV.s (SV.int IntKind.i64 (pN (el l i))), AV.s (SV.str (pS (el l i)))])) (Tree.need (Slf (some [AObj.own [AV.vec (1 : Nat), AV.mapv (2 : Nat), AV.s (SV.int IntKind.i64 fu)] (90 : Nat), AObj.vec (Con.typ [CK.arr IntKind.u8 (64 : Nat)] th) (108 : Nat), AObj.map (CK.arr IntKind.u8 (64 : Nat)) m])) (Tree.need (okD th m fu) (Tree.need (Slf (some [AV.ptr (0 : Nat) (0 : Nat), AV.s (SV.int IntKind.i64 (pN (el l i))), AV.s (SV.str (pS (el l i)))])) (Tree.need (Slf (some [AObj.own [AV.s (SV.ro (Con.strs t)), AV.s (SV.ro (Con.typ cK a)), AV.s (SV.int IntKind.i64 f)] (115 : Nat)])) (Tree.need (okR t a f) (Tree.at (Cfg.mk (sl (236 : Nat) [((1 : Nat), AV.s (SV.ro (Con.typ cSt l))), ((5 : Nat), AV.ptr (0 : Nat) (0 : Nat)), ((7 : Nat), AV.ptr (1 : Nat) (0 : Nat)), ((9 : Nat), AV.s (SV.int IntKind.i64 i)), ((10 : Nat), AV.ptr (2 : Nat) (0 : Nat)), ((11 : Nat), AV.s (SV.bool (wrE th fu (pN (el l i)) (pS (el l i)) == rwE t f (pN (el l i)) (pS (el l i)))))]) [AObj.own [AV.vec (3 : Nat), AV.mapv (4 : Nat), AV.s (SV.int IntKind.i64 (wrF th fu (pN (el l i)) (pS (el l i))))] (90 : Nat), AObj.own [AV.s (SV.ro (Con.strs t)), AV.s (SV.ro (Con.typ cK (rwA t a f (pN (el l i)) (pS (el l i))))), AV.s (SV.int IntKind.i64 (rwF t f (pN (el l i)) (pS (el l i))))] (115 : Nat), AObj.own [AV.s (SV.int IntKind.u8 (pK (el l i))), AV.s (SV.int IntKind.i64 (pN (el l i))), AV.s (SV.str (pS (el l i))), AV.s (SV.bool (pO (el l i))), AV.s (SV.int IntKind.i64 (pE (el l i))), AV.s (SV.int IntKind.i64 (pP (el l i))), AV.s (SV.ro (Con.bools (pB (el l i)))), AV.s (SV.int IntKind.i64 (pT (el l i))), AV.s (SV.int IntKind.i64 (pC (el l i)))] (74 : Nat), AObj.vec (Con.typ [CK.arr IntKind.u8 (64 : Nat)] th) (108 : Nat), AObj.map (CK.arr IntKind.u8 (64 : Nat)) (wrM th m fu (pN (el l i)) (pS (el l i)))] (hr Try.f9 (34 : Nat)) (Stk.mk none false (0 : Nat) [] (0 : Nat))))))))))
                (Tree.ite (pK (el l i) == (5 : Int)) (Tree.need (Slf (some [AV.ptr (0 : Nat) (0 : Nat)])) (Tree.need (Slf (some [AObj.own [AV.vec (1 : Nat), AV.mapv (2 : Nat), AV.s (SV.int IntKind.i64 fu)] (90 : Nat), AObj.vec (Con.typ [CK.arr IntKind.u8 (64 : Nat)] th) (108 : Nat), AObj.map (CK.arr IntKind.u8 (64 : Nat)) m])) (Tree.need (okD th m fu) (Tree.need (Slf (some [AV.ptr (0 : Nat) (0 : Nat)])) (Tree.need (Slf (some [AObj.own [AV.s (SV.ro (Con.strs t)), AV.s (SV.ro (Con.typ cK a)), AV.s (SV.int IntKind.i64 f)] (115 : Nat)])) (Tree.need (okR t a f) (Tree.at (Cfg.mk (sl (236 : Nat) [((1 : Nat), AV.s (SV.ro (Con.typ cSt l))), ((5 : Nat), AV.ptr (0 : Nat) (0 : Nat)), ((7 : Nat), AV.ptr (1 : Nat) (0 : Nat)), ((9 : Nat), AV.s (SV.int IntKind.i64 i)), ((10 : Nat), AV.ptr (2 : Nat) (0 : Nat)), ((11 : Nat), AV.s (SV.bool (flE fu == flE f)))]) [AObj.own [AV.vec (3 : Nat), AV.mapv (4 : Nat), AV.s (SV.int IntKind.i64 (burnF fu))] (90 : Nat), AObj.own [AV.s (SV.ro (Con.strs (rfT t a f))), AV.s (SV.ro (Con.typ cK (rfA a f))), AV.s (SV.int IntKind.i64 (burnR f))] (115 : Nat), AObj.own [AV.s (SV.int IntKind.u8 (pK (el l i))), AV.s (SV.int IntKind.i64 (pN (el l i))), AV.s (SV.str (pS (el l i))), AV.s (SV.bool (pO (el l i))), AV.s (SV.int IntKind.i64 (pE (el l i))), AV.s (SV.int IntKind.i64 (pP (el l i))), AV.s (SV.ro (Con.bools (pB (el l i)))), AV.s (SV.int IntKind.i64 (pT (el l i))), AV.s (SV.int IntKind.i64 (pC (el l i)))] (74 : Nat), AObj.vec (Con.typ [CK.arr IntKind.u8 (64 : Nat)] (flT th m fu)) (108 : Nat), AObj.map (CK.arr IntKind.u8 (64 : Nat)) (flM m fu)] (hr Try.f9 (34 : Nat)) (Stk.mk none false (0 : Nat) [] (0 : Nat))))))))))
                  (Tree.ite (pK (el l i) == (6 : Int)) (Tree.need (Slf (some [AV.ptr (0 : Nat) (0 : Nat), AV.s (SV.int IntKind.i64 (pN (el l i)))])) (Tree.need (Slf (some [AObj.own [AV.vec (1 : Nat), AV.mapv (2 : Nat), AV.s (SV.int IntKind.i64 fu)] (90 : Nat), AObj.vec (Con.typ [CK.arr IntKind.u8 (64 : Nat)] th) (108 : Nat), AObj.map (CK.arr IntKind.u8 (64 : Nat)) m])) (Tree.need (Slf (some [AV.ptr (0 : Nat) (0 : Nat), AV.s (SV.int IntKind.i64 (pN (el l i)))])) (Tree.need (Slf (some [AObj.own [AV.s (SV.ro (Con.strs t)), AV.s (SV.ro (Con.typ cK a)), AV.s (SV.int IntKind.i64 f)] (115 : Nat)])) (Tree.at (Cfg.mk (sl (236 : Nat) [((1 : Nat), AV.s (SV.ro (Con.typ cSt l))), ((5 : Nat), AV.ptr (0 : Nat) (0 : Nat)), ((7 : Nat), AV.ptr (1 : Nat) (0 : Nat)), ((9 : Nat), AV.s (SV.int IntKind.i64 i)), ((10 : Nat), AV.ptr (2 : Nat) (0 : Nat)), ((11 : Nat), AV.s (SV.bool (fuE fu (pN (el l i)) == fuE f (pN (el l i)))))]) [AObj.own [AV.vec (3 : Nat), AV.mapv (4 : Nat), AV.s (SV.int IntKind.i64 (fuF fu (pN (el l i))))] (90 : Nat), AObj.own [AV.s (SV.ro (Con.strs t)), AV.s (SV.ro (Con.typ cK a)), AV.s (SV.int IntKind.i64 (fuF f (pN (el l i))))] (115 : Nat), AObj.own [AV.s (SV.int IntKind.u8 (pK (el l i))), AV.s (SV.int IntKind.i64 (pN (el l i))), AV.s (SV.str (pS (el l i))), AV.s (SV.bool (pO (el l i))), AV.s (SV.int IntKind.i64 (pE (el l i))), AV.s (SV.int IntKind.i64 (pP (el l i))), AV.s (SV.ro (Con.bools (pB (el l i)))), AV.s (SV.int IntKind.i64 (pT (el l i))), AV.s (SV.int IntKind.i64 (pC (el l i)))] (74 : Nat), AObj.vec (Con.typ [CK.arr IntKind.u8 (64 : Nat)] th) (108 : Nat), AObj.map (CK.arr IntKind.u8 (64 : Nat)) m] (hr Try.f9 (34 : Nat)) (Stk.mk none false (0 : Nat) [] (0 : Nat)))))))) (Tree.need (Slf (some [AV.ptr (0 : Nat) (0 : Nat), AV.s (SV.ro (Con.bools (pB (el l i)))), AV.s (SV.int IntKind.i64 (pT (el l i))), AV.s (SV.int IntKind.i64 (pC (el l i)))])) (Tree.need (Slf (some [AObj.own [AV.vec (1 : Nat), AV.mapv (2 : Nat), AV.s (SV.int IntKind.i64 fu)] (90 : Nat), AObj.vec (Con.typ [CK.arr IntKind.u8 (64 : Nat)] th) (108 : Nat), AObj.map (CK.arr IntKind.u8 (64 : Nat)) m])) (Tree.need (okD th m fu) (Tree.need (Slf (some [AV.ptr (0 : Nat) (0 : Nat), AV.s (SV.ro (Con.bools (pB (el l i)))), AV.s (SV.int IntKind.i64 (pT (el l i))), AV.s (SV.int IntKind.i64 (pC (el l i)))])) (Tree.need (Slf (some [AObj.own [AV.s (SV.ro (Con.strs t)), AV.s (SV.ro (Con.typ cK a)), AV.s (SV.int IntKind.i64 f)] (115 : Nat)])) (Tree.need (okR t a f) (Tree.at (Cfg.mk (sl (236 : Nat) [((1 : Nat), AV.s (SV.ro (Con.typ cSt l))), ((5 : Nat), AV.ptr (0 : Nat) (0 : Nat)), ((7 : Nat), AV.ptr (1 : Nat) (0 : Nat)), ((9 : Nat), AV.s (SV.int IntKind.i64 i)), ((10 : Nat), AV.ptr (2 : Nat) (0 : Nat)), ((11 : Nat), AV.s (SV.bool (crE (pC (el l i)) == crE (pC (el l i)))))]) [AObj.own [AV.vec (3 : Nat), AV.mapv (4 : Nat), AV.s (SV.int IntKind.i64 (crF fu (pC (el l i))))] (90 : Nat), AObj.own [AV.s (SV.ro (Con.strs (rcH t a (pB (el l i)) (pT (el l i)) (pC (el l i))))), AV.s (SV.ro (Con.typ cK (rcA a (pC (el l i))))), AV.s (SV.int IntKind.i64 (crF f (pC (el l i))))] (115 : Nat), AObj.own [AV.s (SV.int IntKind.u8 (pK (el l i))), AV.s (SV.int IntKind.i64 (pN (el l i))), AV.s (SV.str (pS (el l i))), AV.s (SV.bool (pO (el l i))), AV.s (SV.int IntKind.i64 (pE (el l i))), AV.s (SV.int IntKind.i64 (pP (el l i))), AV.s (SV.ro (Con.bools (pB (el l i)))), AV.s (SV.int IntKind.i64 (pT (el l i))), AV.s (SV.int IntKind.i64 (pC (el l i)))] (74 : Nat), AObj.vec (Con.typ [CK.arr IntKind.u8 (64 : Nat)] (crH th m (pB (el l i)) (pT (el l i)) (pC (el l i)))) (108 : Nat), AObj.map (CK.arr IntKind.u8 (64 : Nat)) (crM m (pC (el l i)))] (hr Try.f9 (34 : Nat)) (Stk.mk none false (0 : Nat) [] (0 : Nat)))))))))))))))))))
  (Tree.ret [AObj.own [AV.vec (2 : Nat), AV.mapv (3 : Nat), AV.s (SV.int IntKind.i64 fu)] (90 : Nat), AObj.own [AV.s (SV.ro (Con.strs t)), AV.s (SV.ro (Con.typ cK a)), AV.s (SV.int IntKind.i64 f)] (115 : Nat), AObj.vec (Con.typ [CK.arr IntKind.u8 (64 : Nat)] th) (108 : Nat), AObj.map (CK.arr IntKind.u8 (64 : Nat)) m] (AV.s (SV.bool true))) := by kernel_rfl
noncomputable def cPp34 (l : List (CL cSt)) (x : CL cSt) (th : Th) (m : As) (fu : Int) (t : List ByteArray) (a : Kp) (f i : Int) (ok : Bool) : Cfg := ⟨sl 236 [(1, avSt l), (5, .ptr 0 0), (7, .ptr 1 0), (9, avI i), (10, .ptr 2 0), (11, .s (.bool ok))], hPs x (.int .i64 (pN x)) th m fu t a f, hr Try.f9 34, {}⟩
theorem loopPp34 (l : List (CL cSt)) (x : CL cSt) (th : Th) (m : As) (fu : Int) (t : List ByteArray) (a : Kp) (f i : Int) (ok : Bool) : run P tabPp.sum Try.f9 nsPp (cPp34 l x th m fu t a f i ok) inPp =
  Tree.ite (!ok) (Tree.ret [AObj.own [AV.vec (3 : Nat), AV.mapv (4 : Nat), AV.s (SV.int IntKind.i64 fu)] (90 : Nat), AObj.own [AV.s (SV.ro (Con.strs t)), AV.s (SV.ro (Con.typ cK a)), AV.s (SV.int IntKind.i64 f)] (115 : Nat), AObj.own [AV.s (SV.int IntKind.u8 (pK x)), AV.s (SV.int IntKind.i64 (pN x)), AV.s (SV.str (pS x)), AV.s (SV.bool (pO x)), AV.s (SV.int IntKind.i64 (pE x)), AV.s (SV.int IntKind.i64 (pP x)), AV.s (SV.ro (Con.bools (pB x))), AV.s (SV.int IntKind.i64 (pT x)), AV.s (SV.int IntKind.i64 (pC x))] (74 : Nat), AObj.vec (Con.typ [CK.arr IntKind.u8 (64 : Nat)] th) (108 : Nat), AObj.map (CK.arr IntKind.u8 (64 : Nat)) m] (AV.s (SV.blit false))) (Tree.need (Slf (some [AV.ptr (0 : Nat) (0 : Nat)])) (Tree.need (Slf (some [AObj.own [AV.vec (1 : Nat), AV.mapv (2 : Nat), AV.s (SV.int IntKind.i64 fu)] (90 : Nat), AObj.vec (Con.typ [CK.arr IntKind.u8 (64 : Nat)] th) (108 : Nat), AObj.map (CK.arr IntKind.u8 (64 : Nat)) m])) (Tree.need (okD th m fu) (Tree.need (Slf (some [AV.ptr (0 : Nat) (0 : Nat)])) (Tree.need (Slf (some [AObj.own [AV.s (SV.ro (Con.strs t)), AV.s (SV.ro (Con.typ cK a)), AV.s (SV.int IntKind.i64 f)] (115 : Nat)])) (Tree.need (repR t a f) (Tree.ite (pgN th != pgNr t) (Tree.ret [AObj.own [AV.vec (3 : Nat), AV.mapv (4 : Nat), AV.s (SV.int IntKind.i64 fu)] (90 : Nat), AObj.own [AV.s (SV.ro (Con.strs t)), AV.s (SV.ro (Con.typ cK a)), AV.s (SV.int IntKind.i64 f)] (115 : Nat), AObj.own [AV.s (SV.int IntKind.u8 (pK x)), AV.s (SV.int IntKind.i64 (pN x)), AV.s (SV.str (pS x)), AV.s (SV.bool (pO x)), AV.s (SV.int IntKind.i64 (pE x)), AV.s (SV.int IntKind.i64 (pP x)), AV.s (SV.ro (Con.bools (pB x))), AV.s (SV.int IntKind.i64 (pT x)), AV.s (SV.int IntKind.i64 (pC x))] (74 : Nat), AObj.vec (Con.typ [CK.arr IntKind.u8 (64 : Nat)] th) (108 : Nat), AObj.map (CK.arr IntKind.u8 (64 : Nat)) m] (AV.s (SV.blit false))) (Tree.at (Cfg.mk (sl (236 : Nat) [((1 : Nat), AV.s (SV.ro (Con.typ cSt l))), ((5 : Nat), AV.ptr (0 : Nat) (0 : Nat)), ((7 : Nat), AV.ptr (1 : Nat) (0 : Nat)), ((9 : Nat), AV.s (SV.int IntKind.i64 i)), ((10 : Nat), AV.ptr (2 : Nat) (0 : Nat))]) [AObj.own [AV.vec (3 : Nat), AV.mapv (4 : Nat), AV.s (SV.int IntKind.i64 fu)] (90 : Nat), AObj.own [AV.s (SV.ro (Con.strs t)), AV.s (SV.ro (Con.typ cK a)), AV.s (SV.int IntKind.i64 f)] (115 : Nat), AObj.own [AV.s (SV.int IntKind.u8 (pK x)), AV.s (SV.int IntKind.i64 (pN x)), AV.s (SV.str (pS x)), AV.s (SV.bool (pO x)), AV.s (SV.int IntKind.i64 (pE x)), AV.s (SV.int IntKind.i64 (pP x)), AV.s (SV.ro (Con.bools (pB x))), AV.s (SV.int IntKind.i64 (pT x)), AV.s (SV.int IntKind.i64 (pC x))] (74 : Nat), AObj.vec (Con.typ [CK.arr IntKind.u8 (64 : Nat)] th) (108 : Nat), AObj.map (CK.arr IntKind.u8 (64 : Nat)) m] (hr Try.f9 (36 : Nat)) (Stk.mk none false (0 : Nat) [] (0 : Nat))))))))))) := by kernel_rfl
noncomputable def cPp36 (l : List (CL cSt)) (x : CL cSt) (n : SV) (th : Th) (m : As) (fu : Int) (t : List ByteArray) (a : Kp) (f i : Int) : Cfg := ⟨sl 236 [(1, avSt l), (5, .ptr 0 0), (7, .ptr 1 0), (9, avI i), (10, .ptr 2 0)], hPs x n th m fu t a f, hr Try.f9 36, {}⟩
theorem loopPp36 (l : List (CL cSt)) (x : CL cSt) (n : Int) (th : Th) (m : As) (fu : Int) (t : List ByteArray) (a : Kp) (f i : Int) : run P tabPp.sum Try.f9 nsPp (cPp36 l x (.ilit .i64 n) th m fu t a f i) inPp =
  Tree.at (Cfg.mk (sl (236 : Nat) [((1 : Nat), AV.s (SV.ro (Con.typ cSt l))), ((5 : Nat), AV.ptr (0 : Nat) (0 : Nat)), ((7 : Nat), AV.ptr (1 : Nat) (0 : Nat)), ((9 : Nat), AV.s (SV.int IntKind.i64 i)), ((10 : Nat), AV.ptr (2 : Nat) (0 : Nat)), ((20 : Nat), AV.s (SV.int IntKind.i64 (imax (0 : Int) (IntKind.i64.wrap ((4 : Int) * imin n (5000 : Int))))))]) [AObj.own [AV.vec (3 : Nat), AV.mapv (4 : Nat), AV.s (SV.int IntKind.i64 fu)] (90 : Nat), AObj.own [AV.s (SV.ro (Con.strs t)), AV.s (SV.ro (Con.typ cK a)), AV.s (SV.int IntKind.i64 f)] (115 : Nat), AObj.own [AV.s (SV.int IntKind.u8 (pK x)), AV.s (SV.int IntKind.i64 n), AV.s (SV.str (pS x)), AV.s (SV.bool (pO x)), AV.s (SV.int IntKind.i64 (pE x)), AV.s (SV.int IntKind.i64 (pP x)), AV.s (SV.ro (Con.bools (pB x))), AV.s (SV.int IntKind.i64 (pT x)), AV.s (SV.int IntKind.i64 (pC x))] (74 : Nat), AObj.vec (Con.typ [CK.arr IntKind.u8 (64 : Nat)] th) (108 : Nat), AObj.map (CK.arr IntKind.u8 (64 : Nat)) m] (hd Try.f9 (37 : Nat)) (Stk.mk none false (0 : Nat) [] (0 : Nat))) := by kernel_rfl
noncomputable def cPp37 (l : List (CL cSt)) (x : CL cSt) (n : SV) (th : Th) (m : As) (fu : Int) (t : List ByteArray) (a : Kp) (f i j : Int) : Cfg := ⟨sl 236 [(1, avSt l), (5, .ptr 0 0), (7, .ptr 1 0), (9, avI i), (10, .ptr 2 0), (20, avI j)], hPs x n th m fu t a f, hd Try.f9 37, {}⟩
theorem loopPp37 (l : List (CL cSt)) (x : CL cSt) (n : Int) (th : Th) (m : As) (fu : Int) (t : List ByteArray) (a : Kp) (f i j : Int) : run P tabPp.sum Try.f9 nsPp (cPp37 l x (.ilit .i64 n) th m fu t a f i j) inPp =
  Tree.ite (decide (j < IntKind.i64.wrap (IntKind.i64.wrap ((4 : Int) * imin n (5000 : Int)) + (4 : Int)))) (Tree.need (Slf (some [AV.ptr (0 : Nat) (0 : Nat)])) (Tree.need (Slf (some [AObj.own [AV.vec (1 : Nat), AV.mapv (2 : Nat), AV.s (SV.int IntKind.i64 fu)] (90 : Nat), AObj.vec (Con.typ [CK.arr IntKind.u8 (64 : Nat)] th) (108 : Nat), AObj.map (CK.arr IntKind.u8 (64 : Nat)) m])) (Tree.ite (decide (j < (↑(List.length th) : Int))) (Tree.need (Slf (some [AV.ptr (0 : Nat) (0 : Nat), AV.s (SV.int IntKind.i64 j)])) (Tree.need (Slf (some [AObj.own [AV.vec (1 : Nat), AV.mapv (2 : Nat), AV.s (SV.int IntKind.i64 fu)] (90 : Nat), AObj.vec (Con.typ [CK.arr IntKind.u8 (64 : Nat)] th) (108 : Nat), AObj.map (CK.arr IntKind.u8 (64 : Nat)) m])) (Tree.need (okD th m fu) (Tree.need (Slf (some [AV.ptr (0 : Nat) (0 : Nat), AV.s (SV.int IntKind.i64 j)])) (Tree.need (Slf (some [AObj.own [AV.s (SV.ro (Con.strs t)), AV.s (SV.ro (Con.typ cK a)), AV.s (SV.int IntKind.i64 f)] (115 : Nat)])) (Tree.need (okR t a f) (Tree.ite (!decide (rdS th m j = rrT t a j)) (Tree.ret [AObj.own [AV.vec (3 : Nat), AV.mapv (4 : Nat), AV.s (SV.int IntKind.i64 fu)] (90 : Nat), AObj.own [AV.s (SV.ro (Con.strs t)), AV.s (SV.ro (Con.typ cK a)), AV.s (SV.int IntKind.i64 f)] (115 : Nat), AObj.own [AV.s (SV.int IntKind.u8 (pK x)), AV.s (SV.ilit IntKind.i64 n), AV.s (SV.str (pS x)), AV.s (SV.bool (pO x)), AV.s (SV.int IntKind.i64 (pE x)), AV.s (SV.int IntKind.i64 (pP x)), AV.s (SV.ro (Con.bools (pB x))), AV.s (SV.int IntKind.i64 (pT x)), AV.s (SV.int IntKind.i64 (pC x))] (74 : Nat), AObj.vec (Con.typ [CK.arr IntKind.u8 (64 : Nat)] th) (108 : Nat), AObj.map (CK.arr IntKind.u8 (64 : Nat)) m] (AV.s (SV.blit false))) (Tree.need (inI64 (j + (1 : Int))) (Tree.at (Cfg.mk (sl (236 : Nat) [((1 : Nat), AV.s (SV.ro (Con.typ cSt l))), ((5 : Nat), AV.ptr (0 : Nat) (0 : Nat)), ((7 : Nat), AV.ptr (1 : Nat) (0 : Nat)), ((9 : Nat), AV.s (SV.int IntKind.i64 i)), ((10 : Nat), AV.ptr (2 : Nat) (0 : Nat)), ((20 : Nat), AV.s (SV.int IntKind.i64 (j + (1 : Int))))]) [AObj.own [AV.vec (3 : Nat), AV.mapv (4 : Nat), AV.s (SV.int IntKind.i64 fu)] (90 : Nat), AObj.own [AV.s (SV.ro (Con.strs t)), AV.s (SV.ro (Con.typ cK a)), AV.s (SV.int IntKind.i64 f)] (115 : Nat), AObj.own [AV.s (SV.int IntKind.u8 (pK x)), AV.s (SV.int IntKind.i64 n), AV.s (SV.str (pS x)), AV.s (SV.bool (pO x)), AV.s (SV.int IntKind.i64 (pE x)), AV.s (SV.int IntKind.i64 (pP x)), AV.s (SV.ro (Con.bools (pB x))), AV.s (SV.int IntKind.i64 (pT x)), AV.s (SV.int IntKind.i64 (pC x))] (74 : Nat), AObj.vec (Con.typ [CK.arr IntKind.u8 (64 : Nat)] th) (108 : Nat), AObj.map (CK.arr IntKind.u8 (64 : Nat)) m] (hd Try.f9 (37 : Nat)) (Stk.mk none false (0 : Nat) [] (0 : Nat)))))))))))) (Tree.need (inI64 (i + (1 : Int))) (Tree.at (Cfg.mk (sl (236 : Nat) [((1 : Nat), AV.s (SV.ro (Con.typ cSt l))), ((5 : Nat), AV.ptr (0 : Nat) (0 : Nat)), ((7 : Nat), AV.ptr (1 : Nat) (0 : Nat)), ((9 : Nat), AV.s (SV.int IntKind.i64 (i + (1 : Int))))]) [AObj.own [AV.vec (2 : Nat), AV.mapv (3 : Nat), AV.s (SV.int IntKind.i64 fu)] (90 : Nat), AObj.own [AV.s (SV.ro (Con.strs t)), AV.s (SV.ro (Con.typ cK a)), AV.s (SV.int IntKind.i64 f)] (115 : Nat), AObj.vec (Con.typ [CK.arr IntKind.u8 (64 : Nat)] th) (108 : Nat), AObj.map (CK.arr IntKind.u8 (64 : Nat)) m] (hd Try.f9 (10 : Nat)) (Stk.mk none false (0 : Nat) [] (0 : Nat)))))))) (Tree.need (inI64 (i + (1 : Int))) (Tree.at (Cfg.mk (sl (236 : Nat) [((1 : Nat), AV.s (SV.ro (Con.typ cSt l))), ((5 : Nat), AV.ptr (0 : Nat) (0 : Nat)), ((7 : Nat), AV.ptr (1 : Nat) (0 : Nat)), ((9 : Nat), AV.s (SV.int IntKind.i64 (i + (1 : Int))))]) [AObj.own [AV.vec (2 : Nat), AV.mapv (3 : Nat), AV.s (SV.int IntKind.i64 fu)] (90 : Nat), AObj.own [AV.s (SV.ro (Con.strs t)), AV.s (SV.ro (Con.typ cK a)), AV.s (SV.int IntKind.i64 f)] (115 : Nat), AObj.vec (Con.typ [CK.arr IntKind.u8 (64 : Nat)] th) (108 : Nat), AObj.map (CK.arr IntKind.u8 (64 : Nat)) m] (hd Try.f9 (10 : Nat)) (Stk.mk none false (0 : Nat) [] (0 : Nat))))) := by kernel_rfl
noncomputable def cNw (l : List (CL cSt)) (sec : Int) (zs : List ByteArray) (th : Th) (m : As) (fu i : Int) : Cfg := ⟨sl 263 [(0, avI sec), (4, .vec 0), (5, avI i), (28, avSt l), (32, .ptr 1 0), (33, avI 0)], [.vec (.strs zs) 9, obD 2 3 fu, .vec (.typ cS th) eS, .map kS m],
  hd Try.f28 5, ⟨some fNw, false, 0, [inCall Try.f9 none 4 1 false 0], 0⟩⟩
theorem loopNw (l : List (CL cSt)) (sec : Int) (zs : List ByteArray) (th : Th) (m : As) (fu i : Int) : run P tabPp.sum Try.f9 nsPp (cNw l sec zs th m fu i) inPp =
  Tree.ite (decide (i < sec)) (Tree.need ((0 : Int) ≤ (64 : Int)) (Tree.need ((64 : Int) ≤ (64 : Int)) (Tree.need ((64 : Int) ≤ (1073741824 : Int)) (Tree.need ((0 : Int) ≤ i) (Tree.need (i < (↑zs.length : Int)) (Tree.need (inI64 (i + (1 : Int))) (Tree.at (Cfg.mk (sl (263 : Nat) [((0 : Nat), AV.s (SV.int IntKind.i64 sec)), ((4 : Nat), AV.vec (0 : Nat)), ((5 : Nat), AV.s (SV.int IntKind.i64 (i + (1 : Int)))), ((28 : Nat), AV.s (SV.ro (Con.typ cSt l))), ((32 : Nat), AV.ptr (1 : Nat) (0 : Nat)), ((33 : Nat), AV.s (SV.int IntKind.i64 (0 : Int)))]) [AObj.vec (Con.strs (zs.set i.toNat (bytesStr (List.replicate (Int.toNat (64 : Int)) (0 : Int))))) (9 : Nat), AObj.own [AV.vec (2 : Nat), AV.mapv (3 : Nat), AV.s (SV.int IntKind.i64 fu)] (90 : Nat), AObj.vec (Con.typ [CK.arr IntKind.u8 (64 : Nat)] th) (108 : Nat), AObj.map (CK.arr IntKind.u8 (64 : Nat)) m] (hd Try.f28 (5 : Nat)) (Stk.mk (some (28 : Nat)) false (0 : Nat) [inCall Try.f9 none (4 : Nat) (1 : Nat) false (0 : Nat)] (0 : Nat)))))))))) (Tree.ite false (Tree.ret [AObj.vec (Con.strs zs) (9 : Nat), AObj.own [AV.vec (2 : Nat), AV.mapv (3 : Nat), AV.s (SV.int IntKind.i64 fu)] (90 : Nat), AObj.vec (Con.typ [CK.arr IntKind.u8 (64 : Nat)] th) (108 : Nat), AObj.map (CK.arr IntKind.u8 (64 : Nat)) m, AObj.own [AV.vec (0 : Nat), AV.emp, AV.s (SV.ilit IntKind.i64 (-1 : Int))] (115 : Nat)] (AV.s (SV.blit false))) (Tree.ite false (Tree.ret [AObj.vec (Con.strs zs) (9 : Nat), AObj.own [AV.vec (2 : Nat), AV.mapv (3 : Nat), AV.s (SV.int IntKind.i64 fu)] (90 : Nat), AObj.vec (Con.typ [CK.arr IntKind.u8 (64 : Nat)] th) (108 : Nat), AObj.map (CK.arr IntKind.u8 (64 : Nat)) m, AObj.own [AV.vec (0 : Nat), AV.emp, AV.s (SV.ilit IntKind.i64 (-1 : Int))] (115 : Nat)] (AV.s (SV.blit false))) (Tree.ite false (Tree.ret [AObj.vec (Con.strs zs) (9 : Nat), AObj.own [AV.vec (2 : Nat), AV.mapv (3 : Nat), AV.s (SV.int IntKind.i64 fu)] (90 : Nat), AObj.vec (Con.typ [CK.arr IntKind.u8 (64 : Nat)] th) (108 : Nat), AObj.map (CK.arr IntKind.u8 (64 : Nat)) m, AObj.own [AV.vec (0 : Nat), AV.emp, AV.s (SV.ilit IntKind.i64 (-1 : Int))] (115 : Nat)] (AV.s (SV.bool true))) (Tree.at (Cfg.mk (sl (236 : Nat) [((1 : Nat), AV.s (SV.ro (Con.typ cSt l))), ((5 : Nat), AV.ptr (0 : Nat) (0 : Nat)), ((7 : Nat), AV.ptr (1 : Nat) (0 : Nat)), ((9 : Nat), AV.s (SV.int IntKind.i64 (0 : Int)))]) [AObj.own [AV.vec (2 : Nat), AV.mapv (3 : Nat), AV.s (SV.int IntKind.i64 fu)] (90 : Nat), AObj.own [AV.s (SV.ro (Con.strs zs)), AV.s (SV.ro (Con.typ cK [])), AV.s (SV.int IntKind.i64 (-1 : Int))] (115 : Nat), AObj.vec (Con.typ [CK.arr IntKind.u8 (64 : Nat)] th) (108 : Nat), AObj.map (CK.arr IntKind.u8 (64 : Nat)) m] (hd Try.f9 (10 : Nat)) (Stk.mk none false (0 : Nat) [] (0 : Nat))))))) := by kernel_rfl
end Ds

namespace Ds
open Go Go.Sx Go.Proofs Lf
theorem lg_ok {Z : Glob} : FnOk P Z 27 [tSt] [tBool] (fun _ => []) (fun (l, ()) => (lgF l, ())) := by
  refine fnOk_of_safe Try.func27 (by kernel_rfl) (by kernel_rfl) ?_
  rintro ⟨(l : List (CL cSt)), ⟨⟩⟩ ⟨(hl : l.length ≤ maxLen), _⟩ _ X hX hz
  have hl2 : l.length ≤ 9223372036854775807 := by unfold maxLen at hl; omega
  show Safe P 27 X (Ends [tBool] (lgF l, ())) _
  have yes : lgF l = true → ∀ L, Ends [tBool] (lgF l, ()) L (.s (.blit true)) := fun h L => by rw [h]; exact ends_bl
  have loop : ¬ (l.length : Int) > 200 → ∀ (j k : Nat), k + j = l.length → (∀ i, i < k → bigSt (l.getD i (CL.d cSt)) = false) → Safe P 27 X (Ends [tBool] (lgF l, ())) (cLg l (k : Int)) := by
    intro h200 j
    induction j with
    | zero =>
      intro k hk hi
      have e : lgF l = false := by
        rw [← Bool.not_eq_true]
        simp only [lgF, Bool.or_eq_true, decide_eq_true_eq, List.any_eq_true]
        rintro (h | ⟨x, hx, hb⟩)
        · exact h200 h
        · obtain ⟨i, hi', rfl⟩ := List.mem_iff_getElem.1 hx
          have := hi i (by omega)
          rw [getD_lt hi', hb] at this
          cases this
      refine go hz hX Tab.Ok.nil Try.func27 (loopLg l k) ⟨fun h => absurd (of_decide_eq_true h) (by omega), fun _ => ?_⟩
      rw [e]; exact ends_bl
    | succ j ih =>
      intro k hk hi
      have hlt : k < l.length := by omega
      refine go hz hX Tab.Ok.nil Try.func27 (loopLg l k) ?_
      have big : bigSt (el l (k : Int)) = true → lgF l = true := fun h => by
        rw [el_lt hlt] at h
        simp only [lgF, Bool.or_eq_true, List.any_eq_true]
        exact .inr ⟨_, List.getElem_mem hlt, h⟩
      have next := fun h : bigSt (el l (k : Int)) = false => ih (k + 1) (by omega) fun i h2 => by
        by_cases e : i = k
        · subst e
          have : el l (i : Int) = l.getD i (CL.d cSt) := by show l.getD (i : Int).toNat _ = _; rw [Int.toNat_natCast]
          rw [← this]; exact h
        · exact hi i (by omega)
      unfold bigSt at big next
      repeat' (with_reducible (first | refine h_eq ?_ | refine h_need ?_ ?_ | refine h_dec (fun _ => ?_) (fun _ => ?_) | refine h_beq (fun _ => ?_) (fun _ => ?_) | refine h_bne (fun _ => ?_) (fun _ => ?_) | refine h_tt ?_ | refine h_ff ?_ | refine h_not ?_ | refine h_ite (fun _ => ?_) (fun _ => ?_) | refine h_both (fun _ => ?_) (fun _ => ?_) | refine h_ret ?_ | refine h_at ?_))
      all_goals first | omega | exact ⟨by omega, by omega⟩ | skip
      · rename_i h; exact yes (big (by rw [decide_eq_true h]; rfl)) _
      · rename_i h h2; exact yes (big (by rw [decide_eq_true h2, Bool.or_true])) _
      · rename_i h h2; exact next (by rw [decide_eq_false h, decide_eq_false h2]; rfl)
  refine go hz hX Tab.Ok.nil Try.func27 (trLg l) ⟨fun h => yes (by unfold lgF; rw [h]; rfl) _, fun h => loop (of_decide_eq_false h) l.length 0 (by omega) (fun i h => absurd h (Nat.not_lt_zero _))⟩
theorem tabPp_ok {Z : Glob} : tabPp.Ok P Z := Tab.Ok.cons lg_ok.sum (Tab.Ok.cons (qw_ok.sum mWi) (Tab.Ok.cons (qr_ok.sum mRR) (Tab.Ok.cons (qo_ok.sum mRR) (Tab.Ok.cons (qs_ok.sum _) (Tab.Ok.cons (qp_ok.sum mR) (Tab.Ok.cons (rr_ok.sum mRR) (Tab.Ok.cons (rw_ok.sum mWi) (Tab.Ok.cons (rf_ok.sum mR) (Tab.Ok.cons (rfu_ok.sum mRR) (Tab.Ok.cons (sumFrz_ok (rc_ok.sum mRC) 1 (.bools [])) tabPt_ok))))))))))
structure okSt (x : CL cSt) : Prop where
  k : 0 ≤ pK x ∧ pK x ≤ 255
  n : -9223372036854775808 ≤ pN x ∧ pN x ≤ 9223372036854775807
theorem okSt_wf {l : List (CL cSt)} (h : ∀ y ∈ l, CL.wf cSt y) : ∀ x ∈ l, okSt x := fun x hx => ⟨u8_wf (h x hx).1, i64_wf (h x hx).2.1⟩
theorem rep_set {α : Type} (z e : α) (k j : Nat) : (List.replicate k z ++ List.replicate (j + 1) e).set k z = List.replicate (k + 1) z ++ List.replicate j e := by
  rw [List.set_append_right _ _ (by simp), List.length_replicate, Nat.sub_self, List.replicate_succ, List.set_cons_zero, List.replicate_succ' (n := k), List.append_assoc]
  rfl
theorem rfA_of (m : As) (fu : Int) : rfA (aOf m) fu = aOf (flM m fu) := by
  unfold rfA flM
  split
  · rfl
  · exact aOf_nil.symm
theorem rcA_of (m : As) (cut : Int) : rcA (aOf m) cut = aOf (crM m cut) := by
  unfold rcA crM
  split
  · exact aOf_nil.symm
  · rfl
/-- What is looked at behind a step. -/
theorem pp_tail {Z : Glob} {X : Ctx} (hX : ∀ id, X.H id = none) (hz : ZCtx Z X) (l : List (CL cSt)) (x : CL cSt) (th : Th) (m : As) (fu : Int) (hd : okD th m fu) (k : Nat) (hk : k < l.length) (hl : l.length ≤ 9223372036854775807)
    (next : Safe P 9 X (Ends [tBool] (true, ())) (cPp l th m fu (tOf th) (aOf m) fu ((k + 1 : Nat) : Int))) :
    Safe P 9 X (Ends [tBool] (true, ())) (cPp34 l x th m fu (tOf th) (aOf m) fu (k : Int) true) := by
  have hT : tabPp.Ok P Z := tabPp_ok
  have hrep : repR (tOf th) (aOf m) fu := ⟨th, m, hd, rfl, rfl⟩
  have hR := okR_of hd
  have h4 := hd.t.1
  have loop : ∀ (q : Nat) (j : Int), 0 ≤ j → (th.length : Int) ≤ j + q → Safe P 9 X (Ends [tBool] (true, ())) (cPp37 l x (.int .i64 (pN x)) th m fu (tOf th) (aOf m) fu (k : Int) j) := by
    intro q
    induction q with
    | zero =>
      intro j h0 hq
      refine lit_safe (id := 2) (j := 1) (k := .i64) (n := pN x) rfl rfl ?_
      show Safe P _ X _ (cPp37 l x (.ilit .i64 (pN x)) th m fu (tOf th) (aOf m) fu (k : Int) j)
      refine go hz hX hT Try.func9 (loopPp37 l x _ th m fu _ _ fu k j) ?_
      rw [(rd_of hd j).1]
      repeat' (with_reducible (first | refine h_eq ?_ | refine h_need ?_ ?_ | refine h_dec (fun _ => ?_) (fun _ => ?_) | refine h_beq (fun _ => ?_) (fun _ => ?_) | refine h_bne (fun _ => ?_) (fun _ => ?_) | refine h_tt ?_ | refine h_ff ?_ | refine h_not ?_ | refine h_ite (fun _ => ?_) (fun _ => ?_) | refine h_both (fun _ => ?_) (fun _ => ?_) | refine h_ret ?_ | refine h_at ?_))
      all_goals first | omega | rfl | exact ⟨by omega, by omega⟩ | assumption | exact next
    | succ q ih =>
      intro j h0 hq
      refine lit_safe (id := 2) (j := 1) (k := .i64) (n := pN x) rfl rfl ?_
      show Safe P _ X _ (cPp37 l x (.ilit .i64 (pN x)) th m fu (tOf th) (aOf m) fu (k : Int) j)
      refine go hz hX hT Try.func9 (loopPp37 l x _ th m fu _ _ fu k j) ?_
      rw [(rd_of hd j).1]
      have more := ih (j + 1) (by omega) (by omega)
      repeat' (with_reducible (first | refine h_eq ?_ | refine h_need ?_ ?_ | refine h_dec (fun _ => ?_) (fun _ => ?_) | refine h_beq (fun _ => ?_) (fun _ => ?_) | refine h_bne (fun _ => ?_) (fun _ => ?_) | refine h_tt ?_ | refine h_ff ?_ | refine h_not ?_ | refine h_ite (fun _ => ?_) (fun _ => ?_) | refine h_both (fun _ => ?_) (fun _ => ?_) | refine h_ret ?_ | refine h_at ?_))
      all_goals first | omega | rfl | exact ⟨by omega, by omega⟩ | assumption | exact next | exact more | (exfalso; simp_all; done)
  have h36 : Safe P 9 X (Ends [tBool] (true, ())) (cPp36 l x (.int .i64 (pN x)) th m fu (tOf th) (aOf m) fu (k : Int)) := by
    refine lit_safe (id := 2) (j := 1) (k := .i64) (n := pN x) rfl rfl ?_
    show Safe P _ X _ (cPp36 l x (.ilit .i64 (pN x)) th m fu (tOf th) (aOf m) fu (k : Int))
    refine go hz hX hT Try.func9 (loopPp36 l x _ th m fu _ _ fu k) ?_
    exact loop th.length _ (by unfold imax; split <;> omega) (by unfold imax; split <;> omega)
  refine go hz hX hT Try.func9 (loopPp34 l x th m fu _ _ fu k true) ?_
  rw [pgNr_of]
  repeat' (with_reducible (first | refine h_eq ?_ | refine h_need ?_ ?_ | refine h_dec (fun _ => ?_) (fun _ => ?_) | refine h_beq (fun _ => ?_) (fun _ => ?_) | refine h_bne (fun _ => ?_) (fun _ => ?_) | refine h_tt ?_ | refine h_ff ?_ | refine h_not ?_ | refine h_ite (fun _ => ?_) (fun _ => ?_) | refine h_both (fun _ => ?_) (fun _ => ?_) | refine h_ret ?_ | refine h_at ?_))
  all_goals first | omega | rfl | exact ⟨by omega, by omega⟩ | assumption | exact h36 | (exfalso; simp_all; done)
theorem pagePlays_ok {Z : Glob} : FnOk P Z 9 [tInt, tSt] [tBool] (preWf _) (fun _ => (true, ())) := by
  refine fnOk_of_safe Try.func9 (by kernel_rfl) (by kernel_rfl) ?_
  rintro ⟨(sec : Int), (l : List (CL cSt)), ⟨⟩⟩ ⟨_, (hl : l.length ≤ maxLen), _⟩ ⟨⟨hsec, hwl, _⟩, _⟩ X hX hz
  have hN := okSt_wf hwl
  show Safe P 9 X (Ends [tBool] (true, ())) _
  have hl2 : l.length ≤ 9223372036854775807 := by unfold maxLen at hl; omega
  have hT : tabPp.Ok P Z := tabPp_ok
  have loop : ∀ (j k : Nat) (th : Th) (m : As) (fu : Int), k + j = l.length → okD th m fu → Safe P 9 X (Ends [tBool] (true, ())) (cPp l th m fu (tOf th) (aOf m) fu (k : Int)) := by
    intro j
    induction j with
    | zero =>
      intro k th m fu hk hd
      refine go hz hX hT Try.func9 (loopPp l th m fu (tOf th) (aOf m) fu k) ⟨fun h => absurd (of_decide_eq_true h) (by omega), fun _ => ends_b⟩
    | succ j ih =>
      intro k th m fu hk hd
      have hlt : k < l.length := by omega
      have step := fun (x : CL cSt) (th' : Th) (m' : As) (fu' : Int) (hd' : okD th' m' fu') => pp_tail (Z := Z) hX hz l x th' m' fu' hd' k hlt hl2 (ih (k + 1) th' m' fu' (by omega) hd')
      refine go hz hX hT Try.func9 (loopPp l th m fu (tOf th) (aOf m) fu k) ?_
      have hx := hN _ (List.getElem_mem hlt)
      rw [← el_lt hlt] at hx
      generalize el l (k : Int) = x at *
      have hrep : repR (tOf th) (aOf m) fu := ⟨th, m, hd, rfl, rfl⟩
      have hR := okR_of hd
      obtain ⟨r1, r2⟩ := qr_of hd (pN x)
      obtain ⟨o1, o2, o3, o4⟩ := qo_of hd (pN x)
      obtain ⟨s1, s2, s3⟩ := qs_of hd (pN x) (pO x) (pE x) (pP x)
      have d0 := step x _ _ _ (ok_gw (n := pN x) (s := pS x) hd)
      have d1 := step x _ _ _ hd
      have d3 := step x _ _ _ (ok_sr (k := pN x) (on := pO x) (ep := pE x) (pg := pP x) hd)
      have d4 := step x _ _ _ (ok_wr (n := pN x) (s := pS x) hd)
      have d5 := step x _ _ _ (ok_fl hd)
      have d6 := step x _ _ _ (ok_fu (n := pN x) hd hx.n.2)
      have d7 := step x _ _ _ (ok_cr (keep := pB x) (torn := pT x) (cut := pC x) hd)
      clear step
      rw [qw_of hd (pN x) (pS x), r1, r2, o1, o2, o3, o4, s1, s2, s3, rwE_of, rwA_of hd, rwF_of hd.f, rfT_of hd, rfA_of, burn_of hd.f, rcH_of hd, rcA_of]
      dsimp only
      simp only [beq_self_eq_true, decide_true, Bool.and_true]
      repeat' (with_reducible (first | refine h_eq ?_ | refine h_need ?_ ?_ | refine h_dec (fun _ => ?_) (fun _ => ?_) | refine h_beq (fun _ => ?_) (fun _ => ?_) | refine h_bne (fun _ => ?_) (fun _ => ?_) | refine h_tt ?_ | refine h_ff ?_ | refine h_not ?_ | refine h_ite (fun _ => ?_) (fun _ => ?_) | refine h_both (fun _ => ?_) (fun _ => ?_) | refine h_ret ?_ | refine h_at ?_))
      all_goals first | omega | exact ⟨by omega, by omega⟩ | assumption | exact hx.n | exact d0 | exact d1 | exact d3 | exact d4 | exact d5 | exact d6 | exact d7 | rfl | skip
  have new : ∀ (N : Nat), (N : Int) = sec → N ≤ 4096 → ∀ (j k : Nat), k + j = N → Safe P 9 X (Ends [tBool] (true, ())) (cNw l sec (List.replicate k (bytesStr (List.replicate 64 0)) ++ List.replicate j ByteArray.empty) (List.replicate N (CL.d cS)) [] (-1) (k : Int)) := by
    intro N hs hN4 j
    induction j with
    | zero =>
      intro k hk
      refine go hz hX hT Try.func9 (loopNw l sec _ _ [] (-1) k) ?_
      have e : List.replicate k (bytesStr (List.replicate 64 0)) ++ List.replicate 0 ByteArray.empty = tOf (List.replicate N (CL.d cS)) := by
        rw [show k = N from by omega]
        simp only [tOf, List.map_replicate, List.replicate_zero, List.append_nil]
        rfl
      rw [e]
      have := loop l.length 0 (List.replicate N (CL.d cS)) [] (-1) (by omega) (ok_new (by omega))
      repeat' (with_reducible (first | refine h_eq ?_ | refine h_need ?_ ?_ | refine h_dec (fun _ => ?_) (fun _ => ?_) | refine h_beq (fun _ => ?_) (fun _ => ?_) | refine h_bne (fun _ => ?_) (fun _ => ?_) | refine h_tt ?_ | refine h_ff ?_ | refine h_not ?_ | refine h_ite (fun _ => ?_) (fun _ => ?_) | refine h_both (fun _ => ?_) (fun _ => ?_) | refine h_ret ?_ | refine h_at ?_))
      all_goals first | omega | exact this
    | succ j ih =>
      intro k hk
      have next := ih (k + 1) (by omega)
      have es := rep_set (bytesStr (List.replicate 64 0)) ByteArray.empty k j
      refine go hz hX hT Try.func9 (loopNw l sec _ _ [] (-1) k) ⟨fun _ => ⟨by omega, by omega, by omega, by omega, by simp; omega, ⟨by omega, by omega⟩, ?_⟩, fun h => absurd (of_decide_eq_false h) (by omega)⟩
      rw [Int.toNat_natCast]
      show Safe P 9 X (Ends [tBool] (true, ())) (cNw l sec ((List.replicate k (bytesStr (List.replicate 64 0)) ++ List.replicate (j + 1) ByteArray.empty).set k (bytesStr (List.replicate 64 0))) _ [] (-1) _)
      rw [es]
      exact next
  refine go hz hX hT Try.func9 (treePp sec l) ?_
  repeat' (with_reducible (first | refine h_eq ?_ | refine h_need ?_ ?_ | refine h_dec (fun _ => ?_) (fun _ => ?_) | refine h_beq (fun _ => ?_) (fun _ => ?_) | refine h_bne (fun _ => ?_) (fun _ => ?_) | refine h_tt ?_ | refine h_ff ?_ | refine h_not ?_ | refine h_ite (fun _ => ?_) (fun _ => ?_) | refine h_both (fun _ => ?_) (fun _ => ?_) | refine h_ret ?_ | refine h_at ?_))
  all_goals first | omega | exact ends_b | exact ends_bl | skip
  have := new sec.toNat (by omega) (by omega) sec.toNat 0 (by omega)
  exact this
end Ds
