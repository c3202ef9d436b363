/- Lemmas: D10, D16, D17, D18, D19, D20. -/
import Derived.Test.YtjmdfmafnenjnaaPD

namespace Ds
open Go Go.Sx Go.Proofs Lf
abbrev stK (x : CL cSt) : Int := x.1
abbrev stN (x : CL cSt) : Int := x.2.1
abbrev stS (x : CL cSt) : ByteArray := x.2.2.1
abbrev stB (x : CL cSt) : List Bool := x.2.2.2.1
abbrev stC (x : CL cSt) : Int := x.2.2.2.2.1
def mLg : List AV → RM (List (CL cSt) × List Nat)
  | [.s (.ro (.typ [.int .u8, .int .i64, .str, .bools, .int .i64] l))] => .ret (l, [])
  | _ => .fail "no steps"
abbrev sumLg := sumS sLg mLg
abbrev sumWk := sumOf [] [tBool] (fun _ => []) (fun _ => (true, ()))
def tabLw : Tab := [(56, sumWk), (57, sumLg), (58, sumRd), (59, sumDo), (60, sumWh), (69, sumFu), (64, sumDe), (62, sumCo),
  (61, sumAs), (63, sumCr), (65, sumFl), (66, sumWr), (67, sumOfF)]
abbrev avSteps (l : List (CL cSt)) : AV := .s (.ro (.typ cSt l))
abbrev avI (n : Int) : AV := .s (.int .i64 n)
/-! DiskReads -/
def nsDr : List (Nat × Norm) := [(7, ⟨[], [1, 2, 7, 9], 0, []⟩)]
noncomputable def cDr (l : List (CL cSt)) (n : Int) (th : Th) (m : As) (fu i : Int) : Cfg := ⟨sl 101 [(1, avSteps l), (2, avI n), (7, .ptr 0 0), (9, avI i)], hD th m fu, hd Try.f12 7, {}⟩
theorem treeDr (sec : Int) (l : List (CL cSt)) (n : Int) : run P tabLw.sum Try.f12 nsDr (start Try.f12 [avI sec, avSteps l, avI n] []) [28] =
  Tree.ite false (Tree.ret [] (AV.s (SV.bool true))) (Tree.need (Slf (some [AV.s (SV.ro (Con.typ cSt l))])) (Tree.need NoObj (Tree.need (l.length ≤ (9223372036854775807 : Nat)) (Tree.both True (l.length - (300 : Nat) = (0 : Nat)) (Tree.ret [] (AV.s (SV.bool true))) (Tree.ite (decide (sec > (60 : Int))) (Tree.ret [] (AV.s (SV.bool true))) (Tree.ite (decide (sec < (1 : Int))) (Tree.ret [] (AV.s (SV.blit true))) (Tree.ite (decide (sec > (4096 : Int))) (Tree.ret [] (AV.s (SV.blit true))) (Tree.need ((0 : Int) ≤ sec) (Tree.need (sec ≤ sec) (Tree.need (sec ≤ (1073741824 : Int)) (Tree.at (Cfg.mk (sl (101 : Nat) [((1 : Nat), AV.s (SV.ro (Con.typ cSt l))), ((2 : Nat), AV.s (SV.int IntKind.i64 n)), ((7 : Nat), AV.ptr (0 : Nat) (0 : Nat)), ((9 : Nat), AV.s (SV.int IntKind.i64 (0 : Int)))]) [AObj.own [AV.vec (1 : Nat), AV.mapv (2 : Nat), AV.s (SV.int IntKind.i64 (-1 : Int))] (145 : Nat), AObj.vec (Con.typ [CK.arr IntKind.u8 (64 : Nat)] (List.replicate sec.toNat (CL.d [CK.arr IntKind.u8 (64 : Nat)]))) (169 : Nat), AObj.map (CK.arr IntKind.u8 (64 : Nat)) []] (hd Try.f12 (7 : Nat)) (Stk.mk none false (0 : Nat) [] (0 : Nat)))))))))))))) := by kernel_rfl
theorem loopDr (l : List (CL cSt)) (n : Int) (th : Th) (m : As) (fu i : Int) : run P tabLw.sum Try.f12 nsDr (cDr l n th m fu i) [28] =
  Tree.ite (decide (i < (↑l.length : Int)))
  (Tree.need ((0 : Int) ≤ i)
    (Tree.need (i < (↑l.length : Int))
      (Tree.ite (decide (stK (el l i) > (2 : Int))) (Tree.need (inI64 (i + (1 : Int))) (Tree.at (Cfg.mk (sl (101 : Nat) [((1 : Nat), AV.s (SV.ro (Con.typ cSt l))), ((2 : Nat), AV.s (SV.int IntKind.i64 n)), ((7 : Nat), AV.ptr (0 : Nat) (0 : Nat)), ((9 : Nat), AV.s (SV.int IntKind.i64 (i + (1 : Int))))]) [AObj.own [AV.vec (1 : Nat), AV.mapv (2 : Nat), AV.s (SV.int IntKind.i64 fu)] (145 : Nat), AObj.vec (Con.typ [CK.arr IntKind.u8 (64 : Nat)] th) (169 : Nat), AObj.map (CK.arr IntKind.u8 (64 : Nat)) m] (hd Try.f12 (7 : Nat)) (Stk.mk none false (0 : Nat) [] (0 : Nat)))))
        (Tree.need (Slf (some [AV.ptr (0 : Nat) (0 : Nat), AV.s (SV.int IntKind.i64 n)]))
          (Tree.need (Slf (some [AObj.own [AV.vec (1 : Nat), AV.mapv (2 : Nat), AV.s (SV.int IntKind.i64 fu)] (145 : Nat), AObj.vec (Con.typ [CK.arr IntKind.u8 (64 : Nat)] th) (169 : Nat), AObj.map (CK.arr IntKind.u8 (64 : Nat)) m]))
            (Tree.need (okD th m fu)
              (Tree.need ((0 : Int) ≤ i)
                (Tree.need (i < (↑l.length : Int))
                  (Tree.need (Slf (some [AV.agg [AV.s (SV.int IntKind.u8 (stK (el l i))), AV.s (SV.int IntKind.i64 (stN (el l i))), AV.s (SV.str (stS (el l i))), AV.s (SV.ro (Con.bools (stB (el l i)))), AV.s (SV.int IntKind.i64 (stC (el l i)))], AV.ptr (0 : Nat) (0 : Nat)]))
                    (Tree.need (Slf (some [AObj.own [AV.vec (1 : Nat), AV.mapv (2 : Nat), AV.s (SV.int IntKind.i64 fu)] (145 : Nat), AObj.vec (Con.typ [CK.arr IntKind.u8 (64 : Nat)] th) (169 : Nat), AObj.map (CK.arr IntKind.u8 (64 : Nat)) m]))
                      (Tree.need (okD th m fu)
                        (Tree.need (Slf (some [AV.ptr (0 : Nat) (0 : Nat), AV.s (SV.int IntKind.i64 n)]))
                          (Tree.need (Slf (some [AObj.own [AV.vec (1 : Nat), AV.mapv (2 : Nat), AV.s (SV.int IntKind.i64 (stF th fu (stK (el l i)) (stN (el l i)) (stS (el l i)) (stC (el l i))))] (145 : Nat), AObj.vec (Con.typ [CK.arr IntKind.u8 (64 : Nat)] (stT th m fu (stK (el l i)) (stN (el l i)) (stB (el l i)) (stC (el l i)))) (169 : Nat), AObj.map (CK.arr IntKind.u8 (64 : Nat)) (stM th m fu (stK (el l i)) (stN (el l i)) (stS (el l i)) (stC (el l i)))]))
                            (Tree.need (okD (stT th m fu (stK (el l i)) (stN (el l i)) (stB (el l i)) (stC (el l i))) (stM th m fu (stK (el l i)) (stN (el l i)) (stS (el l i)) (stC (el l i))) (stF th fu (stK (el l i)) (stN (el l i)) (stS (el l i)) (stC (el l i))))
                              (Tree.ite (rdE th n != rdE (stT th m fu (stK (el l i)) (stN (el l i)) (stB (el l i)) (stC (el l i))) n) (Tree.ret [AObj.own [AV.vec (1 : Nat), AV.mapv (2 : Nat), AV.s (SV.int IntKind.i64 (stF th fu (stK (el l i)) (stN (el l i)) (stS (el l i)) (stC (el l i))))] (145 : Nat), AObj.vec (Con.typ [CK.arr IntKind.u8 (64 : Nat)] (stT th m fu (stK (el l i)) (stN (el l i)) (stB (el l i)) (stC (el l i)))) (169 : Nat), AObj.map (CK.arr IntKind.u8 (64 : Nat)) (stM th m fu (stK (el l i)) (stN (el l i)) (stS (el l i)) (stC (el l i)))] (AV.s (SV.blit false)))
                                (Tree.need ((0 : Int) ≤ i)
                                  (Tree.need (i < (↑l.length : Int))
                                    (Tree.ite (stK (el l i) == (0 : Int))
                                      (Tree.need ((0 : Int) ≤ i)
                                        (Tree.need (i < (↑l.length : Int))
                                          (Tree.ite (stN (el l i) == n) (Tree.ite (stE fu (stK (el l i)) (stN (el l i)) th (stS (el l i)) (stC (el l i)) == (0 : Int)) (Tree.need ((0 : Int) ≤ i) (Tree.need (i < (↑l.length : Int)) (Tree.need ((0 : Int) ≤ i) (Tree.need (i < (↑l.length : Int)) (Tree.ite (!decide (rdS (stT th m fu (stK (el l i)) (stN (el l i)) (stB (el l i)) (stC (el l i))) (stM th m fu (stK (el l i)) (stN (el l i)) (stS (el l i)) (stC (el l i))) n = whS (stS (el l i)) (stC (el l i)))) (Tree.ret [AObj.own [AV.vec (1 : Nat), AV.mapv (2 : Nat), AV.s (SV.int IntKind.i64 (stF th fu (stK (el l i)) (stN (el l i)) (stS (el l i)) (stC (el l i))))] (145 : Nat), AObj.vec (Con.typ [CK.arr IntKind.u8 (64 : Nat)] (stT th m fu (stK (el l i)) (stN (el l i)) (stB (el l i)) (stC (el l i)))) (169 : Nat), AObj.map (CK.arr IntKind.u8 (64 : Nat)) (stM th m fu (stK (el l i)) (stN (el l i)) (stS (el l i)) (stC (el l i)))] (AV.s (SV.blit false))) (Tree.need (inI64 (i + (1 : Int))) (Tree.at (Cfg.mk (sl (101 : Nat) [((1 : Nat), AV.s (SV.ro (Con.typ cSt l))), ((2 : Nat), AV.s (SV.int IntKind.i64 n)), ((7 : Nat), AV.ptr (0 : Nat) (0 : Nat)), ((9 : Nat), AV.s (SV.int IntKind.i64 (i + (1 : Int))))]) [AObj.own [AV.vec (1 : Nat), AV.mapv (2 : Nat), AV.s (SV.int IntKind.i64 (stF th fu (stK (el l i)) (stN (el l i)) (stS (el l i)) (stC (el l i))))] (145 : Nat), AObj.vec (Con.typ [CK.arr IntKind.u8 (64 : Nat)] (stT th m fu (stK (el l i)) (stN (el l i)) (stB (el l i)) (stC (el l i)))) (169 : Nat), AObj.map (CK.arr IntKind.u8 (64 : Nat)) (stM th m fu (stK (el l i)) (stN (el l i)) (stS (el l i)) (stC (el l i)))] (hd Try.f12 (7 : Nat)) (Stk.mk none false (0 : Nat) [] (0 : Nat)))))))))) (Tree.ite (!decide (rdS (stT th m fu (stK (el l i)) (stN (el l i)) (stB (el l i)) (stC (el l i))) (stM th m fu (stK (el l i)) (stN (el l i)) (stS (el l i)) (stC (el l i))) n = rdS th m n)) (Tree.ret [AObj.own [AV.vec (1 : Nat), AV.mapv (2 : Nat), AV.s (SV.int IntKind.i64 (stF th fu (stK (el l i)) (stN (el l i)) (stS (el l i)) (stC (el l i))))] (145 : Nat), AObj.vec (Con.typ [CK.arr IntKind.u8 (64 : Nat)] (stT th m fu (stK (el l i)) (stN (el l i)) (stB (el l i)) (stC (el l i)))) (169 : Nat), AObj.map (CK.arr IntKind.u8 (64 : Nat)) (stM th m fu (stK (el l i)) (stN (el l i)) (stS (el l i)) (stC (el l i)))] (AV.s (SV.blit false))) (Tree.need (inI64 (i + (1 : Int))) (Tree.at (Cfg.mk (sl (101 : Nat) [((1 : Nat), AV.s (SV.ro (Con.typ cSt l))), ((2 : Nat), AV.s (SV.int IntKind.i64 n)), ((7 : Nat), AV.ptr (0 : Nat) (0 : Nat)), ((9 : Nat), AV.s (SV.int IntKind.i64 (i + (1 : Int))))]) [AObj.own [AV.vec (1 : Nat), AV.mapv (2 : Nat), AV.s (SV.int IntKind.i64 (stF th fu (stK (el l i)) (stN (el l i)) (stS (el l i)) (stC (el l i))))] (145 : Nat), AObj.vec (Con.typ [CK.arr IntKind.u8 (64 : Nat)] (stT th m fu (stK (el l i)) (stN (el l i)) (stB (el l i)) (stC (el l i)))) (169 : Nat), AObj.map (CK.arr IntKind.u8 (64 : Nat)) (stM th m fu (stK (el l i)) (stN (el l i)) (stS (el l i)) (stC (el l i)))] (hd Try.f12 (7 : Nat)) (Stk.mk none false (0 : Nat) [] (0 : Nat)))))))
                                            (Tree.ite (!decide (rdS (stT th m fu (stK (el l i)) (stN (el l i)) (stB (el l i)) (stC (el l i))) (stM th m fu (stK (el l i)) (stN (el l i)) (stS (el l i)) (stC (el l i))) n = rdS th m n)) (Tree.ret [AObj.own [AV.vec (1 : Nat), AV.mapv (2 : Nat), AV.s (SV.int IntKind.i64 (stF th fu (stK (el l i)) (stN (el l i)) (stS (el l i)) (stC (el l i))))] (145 : Nat), AObj.vec (Con.typ [CK.arr IntKind.u8 (64 : Nat)] (stT th m fu (stK (el l i)) (stN (el l i)) (stB (el l i)) (stC (el l i)))) (169 : Nat), AObj.map (CK.arr IntKind.u8 (64 : Nat)) (stM th m fu (stK (el l i)) (stN (el l i)) (stS (el l i)) (stC (el l i)))] (AV.s (SV.blit false))) (Tree.need (inI64 (i + (1 : Int))) (Tree.at (Cfg.mk (sl (101 : Nat) [((1 : Nat), AV.s (SV.ro (Con.typ cSt l))), ((2 : Nat), AV.s (SV.int IntKind.i64 n)), ((7 : Nat), AV.ptr (0 : Nat) (0 : Nat)), ((9 : Nat), AV.s (SV.int IntKind.i64 (i + (1 : Int))))]) [AObj.own [AV.vec (1 : Nat), AV.mapv (2 : Nat), AV.s (SV.int IntKind.i64 (stF th fu (stK (el l i)) (stN (el l i)) (stS (el l i)) (stC (el l i))))] (145 : Nat), AObj.vec (Con.typ [CK.arr IntKind.u8 (64 : Nat)] (stT th m fu (stK (el l i)) (stN (el l i)) (stB (el l i)) (stC (el l i)))) (169 : Nat), AObj.map (CK.arr IntKind.u8 (64 : Nat)) (stM th m fu (stK (el l i)) (stN (el l i)) (stS (el l i)) (stC (el l i)))] (hd Try.f12 (7 : Nat)) (Stk.mk none false (0 : Nat) [] (0 : Nat)))))))))
                                      (Tree.ite (!decide (rdS (stT th m fu (stK (el l i)) (stN (el l i)) (stB (el l i)) (stC (el l i))) (stM th m fu (stK (el l i)) (stN (el l i)) (stS (el l i)) (stC (el l i))) n = rdS th m n)) (Tree.ret [AObj.own [AV.vec (1 : Nat), AV.mapv (2 : Nat), AV.s (SV.int IntKind.i64 (stF th fu (stK (el l i)) (stN (el l i)) (stS (el l i)) (stC (el l i))))] (145 : Nat), AObj.vec (Con.typ [CK.arr IntKind.u8 (64 : Nat)] (stT th m fu (stK (el l i)) (stN (el l i)) (stB (el l i)) (stC (el l i)))) (169 : Nat), AObj.map (CK.arr IntKind.u8 (64 : Nat)) (stM th m fu (stK (el l i)) (stN (el l i)) (stS (el l i)) (stC (el l i)))] (AV.s (SV.blit false))) (Tree.need (inI64 (i + (1 : Int))) (Tree.at (Cfg.mk (sl (101 : Nat) [((1 : Nat), AV.s (SV.ro (Con.typ cSt l))), ((2 : Nat), AV.s (SV.int IntKind.i64 n)), ((7 : Nat), AV.ptr (0 : Nat) (0 : Nat)), ((9 : Nat), AV.s (SV.int IntKind.i64 (i + (1 : Int))))]) [AObj.own [AV.vec (1 : Nat), AV.mapv (2 : Nat), AV.s (SV.int IntKind.i64 (stF th fu (stK (el l i)) (stN (el l i)) (stS (el l i)) (stC (el l i))))] (145 : Nat), AObj.vec (Con.typ [CK.arr IntKind.u8 (64 : Nat)] (stT th m fu (stK (el l i)) (stN (el l i)) (stB (el l i)) (stC (el l i)))) (169 : Nat), AObj.map (CK.arr IntKind.u8 (64 : Nat)) (stM th m fu (stK (el l i)) (stN (el l i)) (stS (el l i)) (stC (el l i)))] (hd Try.f12 (7 : Nat)) (Stk.mk none false (0 : Nat) [] (0 : Nat))))))))))))))))))))))))
  (Tree.ret [AObj.own [AV.vec (1 : Nat), AV.mapv (2 : Nat), AV.s (SV.int IntKind.i64 fu)] (145 : Nat), AObj.vec (Con.typ [CK.arr IntKind.u8 (64 : Nat)] th) (169 : Nat), AObj.map (CK.arr IntKind.u8 (64 : Nat)) m] (AV.s (SV.blit true))) := by kernel_rfl
theorem el_lt {cs : List CK} {l : List (CL cs)} {k : Nat} (h : k < l.length) : el l (k : Int) = l[k] := by
  show l.getD (k : Int).toNat _ = _
  rw [Int.toNat_natCast]; exact getD_lt h
/-! what a step leaves of a disk -/
theorem ok_new {n : Nat} (h : n ≤ 4096) : okD (List.replicate n (CL.d cS)) [] (-1) := by
  refine ⟨⟨by simpa using h, fun i hi => ?_⟩, ⟨by simp, fun p hp => by cases hp⟩, by omega, by omega⟩
  simp only [List.length_replicate] at hi
  rw [getD_lt (by simpa using hi), List.getElem_replicate]
  rfl
theorem mput_keys {m : As} (h : (m.map (·.1)).Nodup) {n : Int} {v : kS.V} : ((mput m n v).map (·.1)).Nodup := by
  unfold mput
  split
  · rw [map_keys_put]; exact h
  · rename_i hn
    have hn : ∀ p ∈ m, p.1 ≠ n := fun p hp e => hn (by simp only [mhas, List.any_eq_true, beq_iff_eq]; exact ⟨p, hp, e⟩)
    rw [List.map_append, List.nodup_append]
    refine ⟨h, by simp, fun a ha b hb => ?_⟩
    simp only [List.map_cons, List.map_nil, List.mem_singleton] at hb
    obtain ⟨p, hp, rfl⟩ := List.mem_map.1 ha
    rw [hb]; exact hn p hp
theorem ok_burn {fu : Int} (h : okF fu) : okF (burnF fu) := by
  unfold okF burnF imax at *
  split
  · omega
  · split <;> omega
theorem ok_wr {th : Th} {m : As} {fu n : Int} {s : ByteArray} (h : okD th m fu) : okD th (wrM th m fu n s) (wrF th fu n s) := by
  refine ⟨h.t, ?_, ?_⟩
  · unfold wrM
    split
    · rename_i he
      have hin : inTh th n = true ∧ s.size = 64 := by
        unfold wrE at he
        repeat' split at he
        all_goals first | (cases he; done) | exact ⟨by assumption, by assumption⟩
      obtain ⟨h0, h1⟩ := inTh_iff.1 hin.1
      refine ⟨mput_keys h.m.1, fun p hp => ?_⟩
      rcases mput_key p hp with hp | rfl
      · exact h.m.2 p hp
      · exact ⟨h0, h1, by show (strInts s).length = 64; rw [strInts_len]; exact hin.2⟩
    · exact h.m
  · unfold wrF
    split
    · exact ok_burn h.f
    · exact h.f
theorem ok_ovl {th : Th} {m : As} (h : okT th) (hm : okM th.length m) : okT (ovl th m) := by
  refine ⟨by rw [ovl_len]; exact h.1, fun i hi => ?_⟩
  rw [ovl_len] at hi
  rw [ovl_get hi]
  exact nowS_len (fu := 0) ⟨h, hm, by omega, by omega⟩ (inTh_iff.2 ⟨by omega, by omega⟩)
theorem ok_fl {th : Th} {m : As} {fu : Int} (h : okD th m fu) : okD (flT th m fu) (flM m fu) (burnF fu) := by
  unfold flT flM
  split
  · exact ⟨h.t, h.m, ok_burn h.f⟩
  · exact ⟨ok_ovl h.t h.m, ⟨by simp, fun p hp => by cases hp⟩, ok_burn h.f⟩
theorem ok_fu {th : Th} {m : As} {fu n : Int} (h : okD th m fu) (hn : n ≤ 9223372036854775807) : okD th m (fuF fu n) := by
  refine ⟨h.t, h.m, ?_⟩
  have := h.f
  unfold okF fuF at *
  split
  · exact this
  · split <;> omega
theorem crT_len {keep : List Bool} {torn cut : Int} {m : As} : ∀ (l : List Int) (k : Nat) (th : Th), (crT keep torn cut m l k th).length = th.length
  | [], k, th => rfl
  | n :: l, k, th => (crT_len l (k + 1) _).trans crStep_len
theorem crT_ok {keep : List Bool} {torn cut : Int} {m : As} (hc : 0 ≤ cut) (hc2 : cut ≤ 64) : ∀ (l : List Int) (k : Nat) (th : Th), okT th → (∀ x ∈ l, (nowA m x).length = 64 ∧ 0 ≤ x ∧ x < (th.length : Int)) → okT (crT keep torn cut m l k th)
  | [], k, th, h, _ => h
  | n :: l, k, th, h, hl => by
    obtain ⟨h1, h2, h3⟩ := hl n List.mem_cons_self
    refine crT_ok hc hc2 l (k + 1) _ (crStep_ok h h2 h3 hc hc2 h1) fun x hx => ?_
    rw [crStep_len]
    exact hl x (List.mem_cons_of_mem _ hx)
theorem okC_iff {cut : Int} : okC cut = true ↔ 0 ≤ cut ∧ cut ≤ 64 := by simp [okC]
theorem ok_cr {th : Th} {m : As} {fu torn cut : Int} {keep : List Bool} (h : okD th m fu) : okD (crH th m keep torn cut) (crM m cut) (crF fu cut) := by
  unfold crH crM crF
  split
  · rename_i hc
    obtain ⟨h0, h1⟩ := okC_iff.1 hc
    exact ⟨crT_ok h0 h1 _ _ _ h.t fun x hx => nowA_len h.m hx, ⟨by simp, fun p hp => by cases hp⟩, by omega, by omega⟩
  · exact h
theorem stT_len {th : Th} {m : As} {fu k n c : Int} {ks : List Bool} : (stT th m fu k n ks c).length = th.length := by
  unfold stT flT crH
  repeat' split
  all_goals first | rfl | exact ovl_len _ _ | exact crT_len _ _ _
theorem ok_st {th : Th} {m : As} {fu k n c : Int} {s : ByteArray} {ks : List Bool} (h : okD th m fu) (hn : n ≤ 9223372036854775807) : okD (stT th m fu k n ks c) (stM th m fu k n s c) (stF th fu k n s c) := by
  unfold stT stM stF
  repeat' split
  all_goals first | exact ok_wr h | exact ok_fl h | exact ok_fu h hn | exact ok_cr h
/-! what is read behind it -/
theorem bytes_strInts (s : ByteArray) : bytesStr (strInts s) = s := by
  obtain ⟨⟨l⟩⟩ := s
  simp only [bytesStr, strInts, List.map_map]
  congr 2
  refine (List.map_congr_left fun b _ => ?_).trans (List.map_id l)
  simp
theorem mget_put {m : As} (h : (m.map (·.1)).Nodup) {n x : Int} {v : kS.V} : mget (mput m n v) x = if x = n then some v else mget m x := by
  split
  · rename_i e
    subst e
    have hm : (x, v) ∈ mput m x v := by
      unfold mput
      split
      · rename_i hh
        simp only [mhas, List.any_eq_true, beq_iff_eq] at hh
        obtain ⟨p, hp, e⟩ := hh
        exact List.mem_map.2 ⟨p, hp, by rw [if_pos (by simpa using e)]⟩
      · exact List.mem_append_right _ List.mem_cons_self
    exact mget_of (mput_keys h) hm
  · rename_i e
    cases hg : mget m x with
    | none =>
      refine mget_none fun p hp ep => ?_
      rcases mput_key p hp with hp | rfl
      · have := mget_of h hp
        rw [ep, hg] at this
        cases this
      · exact e ep.symm
    | some u =>
      have hu := mget_mem hg
      refine mget_of (mput_keys h) (p := (x, u)) ?_
      unfold mput
      split
      · exact List.mem_map.2 ⟨_, hu, by rw [if_neg (by simpa using e)]⟩
      · exact List.mem_append_left _ hu
theorem nowS_put {th : Th} {m : As} (h : (m.map (·.1)).Nodup) {n x : Int} {v : List Int} : nowS th (mput m n v) x = if x = n then v else nowS th m x := by
  have e := mget_put h (n := n) (x := x) (v := v)
  unfold nowS
  by_cases hx : x = n
  · rw [if_pos hx] at e ⊢
    rw [e]
  · rw [if_neg hx] at e ⊢
    rw [e]
theorem nowS_ovl {th : Th} {m : As} {x : Int} (h : inTh th x = true) : nowS (ovl th m) [] x = nowS th m x := by
  obtain ⟨h0, h1⟩ := inTh_iff.1 h
  have : nowS (ovl th m) [] x = arrOf ((ovl th m).getD x.toNat (CL.d cS)) := rfl
  rw [this, ovl_get (by omega)]
  congr 1
  omega
theorem inTh_len {th th' : Th} (h : th'.length = th.length) (x : Int) : inTh th' x = inTh th x := by unfold inTh; rw [h]
theorem wrE_zero {th : Th} {fu n : Int} {s : ByteArray} : wrE th fu n s = 0 ↔ inTh th n = true ∧ s.size = 64 ∧ fu ≠ 0 := by
  unfold wrE
  constructor
  · intro h
    repeat' split at h
    all_goals first | (cases h; done) | exact ⟨by assumption, by assumption, by assumption⟩
  · rintro ⟨h1, h2, h3⟩
    simp [h1, h2, h3]
theorem rd_wr {th : Th} {m : As} {fu n x : Int} {s : ByteArray} (h : okD th m fu) : rdS th (wrM th m fu n s) x = if wrE th fu n s = 0 ∧ x = n then s else rdS th m x := by
  unfold wrM
  by_cases he : wrE th fu n s = 0
  · rw [if_pos he]
    obtain ⟨h1, h2, _⟩ := wrE_zero.1 he
    unfold rdS
    rw [nowS_put h.m.1]
    by_cases hx : x = n
    · subst hx
      rw [if_pos h1, if_pos rfl, if_pos ⟨he, rfl⟩, bytes_strInts]
    · simp only [if_neg hx, hx, and_false, if_false]
  · simp only [if_neg he, he, false_and, if_false]
theorem rd_fl {th : Th} {m : As} {fu x : Int} : rdS (flT th m fu) (flM m fu) x = rdS th m x := by
  unfold flT flM
  split
  · rfl
  · unfold rdS
    rw [inTh_len (ovl_len th m)]
    split
    · rename_i hh; rw [nowS_ovl hh]
    · rfl
theorem tabLw_ok {Z : Glob} : tabLw.Ok P Z := Tab.Ok.cons wk_ok.sum (Tab.Ok.cons (lg_ok.sum mLg) (Tab.Ok.cons (read_ok.sum mRd) (Tab.Ok.cons (do_ok.sum mDo) (Tab.Ok.cons wh_ok.sum (Tab.Ok.cons (fuse_ok.sum mFu) (Tab.Ok.cons (dead_ok.sum mAs) (Tab.Ok.cons (copy_ok.sum mAs)
  (Tab.Ok.cons (aside_ok.sum mAs) (Tab.Ok.cons (sumFrz_ok (crash_ok.sum mCr) 1 (.bools [])) (Tab.Ok.cons (flush_ok.sum mAs) (Tab.Ok.cons (write_ok.sum mWr) (Tab.Ok.cons of_ok.sum Tab.Ok.nil))))))))))))
abbrev preWf (ts : List Ty) : AL ts → List Prop := fun x => [AL.wf ts x]
theorem i64_wf {n : Int} (h : (Lit.int .i64 n).wf = true) : -9223372036854775808 ≤ n ∧ n ≤ 9223372036854775807 := by
  simp only [Lit.wf, Bool.and_eq_true, decide_eq_true_eq] at h
  exact h
theorem u8_wf {n : Int} (h : (Lit.int .u8 n).wf = true) : 0 ≤ n ∧ n ≤ 255 := by
  simp only [Lit.wf, Bool.and_eq_true, decide_eq_true_eq] at h
  exact h
structure okSt (x : CL cSt) : Prop where
  k : 0 ≤ stK x ∧ stK x ≤ 255
  n : -9223372036854775808 ≤ stN x ∧ stN x ≤ 9223372036854775807
theorem okSt_wf {l : List (CL cSt)} (h : ∀ y ∈ l, CL.wf cSt y) : ∀ x ∈ l, okSt x := fun x hx => ⟨u8_wf (h x hx).1, i64_wf (h x hx).2.1⟩
theorem diskReads_ok {Z : Glob} : FnOk P Z 12 [tInt, tSteps, tInt] [tBool] (preWf _) (fun _ => (true, ())) := by
  refine fnOk_of_safe Try.func12 (by kernel_rfl) (by kernel_rfl) ?_
  rintro ⟨(sec : Int), (l : List (CL cSt)), (n : Int), ⟨⟩⟩ ⟨_, (hl : l.length ≤ maxLen), _⟩ ⟨⟨hsec, hwl, _⟩, _⟩ X hX hz
  have hN := okSt_wf hwl
  show Safe P 12 X (Ends [tBool] (true, ())) _
  have hl2 : l.length ≤ 9223372036854775807 := by unfold maxLen at hl; omega
  have hT : tabLw.Ok P Z := tabLw_ok
  have loop : ∀ (j k : Nat) (th : Th) (m : As) (fu : Int), k + j = l.length → okD th m fu → Safe P 12 X (Ends [tBool] (true, ())) (cDr l n th m fu (k : Int)) := by
    intro j
    induction j with
    | zero =>
      intro k th m fu hk hd
      refine go hz hX hT Try.func12 (loopDr l n th m fu k) ?_
      repeat' (with_reducible (first | refine h_eq ?_ | refine h_need ?_ ?_ | refine h_dec (fun _ => ?_) (fun _ => ?_) | refine h_beq (fun _ => ?_) (fun _ => ?_) | refine h_bne (fun _ => ?_) (fun _ => ?_) | refine h_tt ?_ | refine h_ff ?_ | refine h_not ?_ | refine h_ite (fun _ => ?_) (fun _ => ?_) | refine h_both (fun _ => ?_) (fun _ => ?_) | refine h_ret ?_ | refine h_at ?_))
      all_goals first | omega | exact ends_bl
    | succ j ih =>
      intro k th m fu hk hd
      have hlt : k < l.length := by omega
      refine go hz hX hT Try.func12 (loopDr l n th m fu k) ?_
      have hx := hN _ (List.getElem_mem hlt)
      rw [← el_lt hlt] at hx
      generalize el l (k : Int) = x at *
      have hd' := ok_st (k := stK x) (n := stN x) (c := stC x) (s := stS x) (ks := stB x) hd hx.n.2
      have next := ih (k + 1) _ _ _ (by omega) hd'
      have next0 := ih (k + 1) _ _ _ (by omega) hd
      have hE : rdE (stT th m fu (stK x) (stN x) (stB x) (stC x)) n = rdE th n := by unfold rdE; rw [inTh_len stT_len]
      have same : ¬ stK x > 2 → ¬ (stK x = 0 ∧ stN x = n ∧ stE fu (stK x) (stN x) th (stS x) (stC x) = 0) → rdS (stT th m fu (stK x) (stN x) (stB x) (stC x)) (stM th m fu (stK x) (stN x) (stS x) (stC x)) n = rdS th m n := by
        intro h1 h2
        have h0 := hx.k.1
        unfold stT stM
        by_cases k0 : stK x = 0
        · rw [if_pos k0, if_pos k0, rd_wr hd, if_neg]
          rintro ⟨e1, e2⟩
          exact h2 ⟨k0, e2.symm, by unfold stE; rw [if_pos k0]; exact e1⟩
        · rw [if_neg k0, if_neg k0]
          by_cases k1 : stK x = 1
          · rw [if_pos k1, if_pos k1, rd_fl]
          · rw [if_neg k1, if_neg k1, if_pos (by omega), if_pos (by omega)]
      have wr : stK x = 0 → stN x = n → stE fu (stK x) (stN x) th (stS x) (stC x) = 0 → rdS (stT th m fu (stK x) (stN x) (stB x) (stC x)) (stM th m fu (stK x) (stN x) (stS x) (stC x)) n = whS (stS x) (stC x) := by
        intro k0 e1 e2
        unfold stE at e2
        rw [if_pos k0] at e2
        unfold stT stM
        rw [if_pos k0, if_pos k0, rd_wr hd, if_pos ⟨e2, e1.symm⟩]
      repeat' (with_reducible (first | refine h_eq ?_ | refine h_need ?_ ?_ | refine h_dec (fun _ => ?_) (fun _ => ?_) | refine h_beq (fun _ => ?_) (fun _ => ?_) | refine h_bne (fun _ => ?_) (fun _ => ?_) | refine h_tt ?_ | refine h_ff ?_ | refine h_not ?_ | refine h_ite (fun _ => ?_) (fun _ => ?_) | refine h_both (fun _ => ?_) (fun _ => ?_) | refine h_ret ?_ | refine h_at ?_))
      all_goals first | omega | exact ⟨by omega, by omega⟩ | assumption | exact next | exact next0 | (exfalso; simp_all; done) | skip
  refine go hz hX hT Try.func12 (treeDr sec l n) ?_
  repeat' (with_reducible (first | refine h_eq ?_ | refine h_need ?_ ?_ | refine h_dec (fun _ => ?_) (fun _ => ?_) | refine h_beq (fun _ => ?_) (fun _ => ?_) | refine h_bne (fun _ => ?_) (fun _ => ?_) | refine h_tt ?_ | refine h_ff ?_ | refine h_not ?_ | refine h_ite (fun _ => ?_) (fun _ => ?_) | refine h_both (fun _ => ?_) (fun _ => ?_) | refine h_ret ?_ | refine h_at ?_))
  all_goals first | omega | exact ends_b | exact ends_bl | skip
  have := loop l.length 0 (List.replicate sec.toNat (CL.d cS)) [] (-1) (by omega) (ok_new (by omega))
  exact this
end Ds

namespace Ds
open Go Go.Sx Go.Proofs Lf
abbrev avB (l : List Bool) : AV := .s (.ro (.bools l))
/-! ### the document's disk -/
abbrev cK : List CK := [.int .i64, .str]
abbrev kN (x : CL cK) : Int := x.1
abbrev kT (x : CL cK) : ByteArray := x.2.1
abbrev kM (n : Int) (s : ByteArray) : CL cK := (n, s, ())
abbrev eK : TypeId := 181
abbrev eR : TypeId := 179
abbrev Kp : Type := List (CL cK)
abbrev obR (t : List ByteArray) (a : Kp) (f : Int) : AObj := .own [.s (.ro (.strs t)), .s (.ro (.typ cK a)), avI f] eR
abbrev roC : List (Nat × Nat × Bool × Con × TypeId) := [(0, 0, true, .strs [], 9), (0, 1, true, .typ cK [], eK)]
abbrev inR : List FuncId := [119, 120]
def nsRR : List (Nat × Norm) := [(4, ⟨[], [0, 1, 6], 1, roC⟩)]
noncomputable def cRR (t : List ByteArray) (a : Kp) (f n i : Int) : Cfg := ⟨sl 52 [(0, .ptr 0 0), (1, avI n), (6, avI i)], [obR t a f], hd Try.f86 4, {}⟩
theorem treeRR (t : List ByteArray) (a : Kp) (f n : Int) : run P tab0.sum Try.f86 nsRR (start Try.f86 [.ptr 0 0, avI n] [obR t a f]) inR =
  Tree.ite (decide (n < (0 : Int))) (Tree.ret [AObj.own [AV.s (SV.ro (Con.strs t)), AV.s (SV.ro (Con.typ cK a)), AV.s (SV.int IntKind.i64 f)] (179 : Nat)] (AV.tup [AV.s (SV.str ByteArray.empty), AV.s (SV.ilit IntKind.i64 (5 : Int))])) (Tree.ite (decide (n ≥ (↑t.length : Int))) (Tree.ret [AObj.own [AV.s (SV.ro (Con.strs t)), AV.s (SV.ro (Con.typ cK a)), AV.s (SV.int IntKind.i64 f)] (179 : Nat)] (AV.tup [AV.s (SV.str ByteArray.empty), AV.s (SV.ilit IntKind.i64 (5 : Int))])) (Tree.at (Cfg.mk (sl (52 : Nat) [((0 : Nat), AV.ptr (0 : Nat) (0 : Nat)), ((1 : Nat), AV.s (SV.int IntKind.i64 n)), ((6 : Nat), AV.s (SV.int IntKind.i64 (0 : Int)))]) [AObj.own [AV.s (SV.ro (Con.strs t)), AV.s (SV.ro (Con.typ cK a)), AV.s (SV.int IntKind.i64 f)] (179 : Nat)] (hd Try.f86 (4 : Nat)) (Stk.mk none false (0 : Nat) [] (0 : Nat))))) := by kernel_rfl
theorem loopRR (t : List ByteArray) (a : Kp) (f n i : Int) : run P tab0.sum Try.f86 nsRR (cRR t a f n i) inR =
  Tree.ite (decide (i < (↑(List.length a) : Int))) (Tree.need ((0 : Int) ≤ i) (Tree.need (i < (↑(List.length a) : Int)) (Tree.ite (kN (el a i) == n) (Tree.need ((0 : Int) ≤ i) (Tree.need (i < (↑(List.length a) : Int)) (Tree.ret [AObj.own [AV.s (SV.ro (Con.strs t)), AV.s (SV.ro (Con.typ cK a)), AV.s (SV.int IntKind.i64 f)] (179 : Nat)] (AV.tup [AV.s (SV.str (kT (el a i))), AV.s (SV.ilit IntKind.i64 (0 : Int))])))) (Tree.need (inI64 (i + (1 : Int))) (Tree.at (Cfg.mk (sl (52 : Nat) [((0 : Nat), AV.ptr (0 : Nat) (0 : Nat)), ((1 : Nat), AV.s (SV.int IntKind.i64 n)), ((6 : Nat), AV.s (SV.int IntKind.i64 (i + (1 : Int))))]) [AObj.own [AV.s (SV.ro (Con.strs t)), AV.s (SV.ro (Con.typ cK a)), AV.s (SV.int IntKind.i64 f)] (179 : Nat)] (hd Try.f86 (4 : Nat)) (Stk.mk none false (0 : Nat) [] (0 : Nat)))))))) (Tree.need ((0 : Int) ≤ n) (Tree.need (n < (↑t.length : Int)) (Tree.ret [AObj.own [AV.s (SV.ro (Con.strs t)), AV.s (SV.ro (Con.typ cK a)), AV.s (SV.int IntKind.i64 f)] (179 : Nat)] (AV.tup [AV.s (SV.str (t.getD n.toNat ByteArray.empty)), AV.s (SV.ilit IntKind.i64 (0 : Int))])))) := by kernel_rfl
def nsRW : List (Nat × Norm) := [(11, ⟨[(8, .typ cK [], eK)], [0, 1, 2, 8, 9, 10], 1, roC⟩), (18, ⟨[(8, .typ cK [], eK)], [0, 1, 2, 8, 9], 1, roC⟩)]
noncomputable def cRW (t : List ByteArray) (a : Kp) (f n : Int) (s : ByteArray) (l : Kp) (put : Bool) (i : Int) : Cfg := ⟨sl 91 [(0, .ptr 0 0), (1, avI n), (2, .s (.str s)), (8, .vec 1), (9, .s (.bool put)), (10, avI i)], [obR t a f, .vec (.typ cK l) eK], hd Try.f81 11, {}⟩
noncomputable def cRW18 (t : List ByteArray) (a : Kp) (f n : Int) (s : ByteArray) (l : Kp) (put : Bool) : Cfg := ⟨sl 91 [(0, .ptr 0 0), (1, avI n), (2, .s (.str s)), (8, .vec 1), (9, .s (.bool put))], [obR t a f, .vec (.typ cK l) eK], hr Try.f81 18, {}⟩
theorem treeRW (t : List ByteArray) (a : Kp) (f n : Int) (s : ByteArray) : run P tab0.sum Try.f81 nsRW (start Try.f81 [.ptr 0 0, avI n, .s (.str s)] [obR t a f]) inR =
  Tree.ite (decide (n < (0 : Int))) (Tree.ret [AObj.own [AV.s (SV.ro (Con.strs t)), AV.s (SV.ro (Con.typ cK a)), AV.s (SV.int IntKind.i64 f)] (179 : Nat)] (AV.s (SV.ilit IntKind.i64 (5 : Int)))) (Tree.ite (decide (n ≥ (↑t.length : Int))) (Tree.ret [AObj.own [AV.s (SV.ro (Con.strs t)), AV.s (SV.ro (Con.typ cK a)), AV.s (SV.int IntKind.i64 f)] (179 : Nat)] (AV.s (SV.ilit IntKind.i64 (5 : Int)))) (Tree.ite ((↑s.size : Int) != (64 : Int)) (Tree.ret [AObj.own [AV.s (SV.ro (Con.strs t)), AV.s (SV.ro (Con.typ cK a)), AV.s (SV.int IntKind.i64 f)] (179 : Nat)] (AV.s (SV.ilit IntKind.i64 (1 : Int)))) (Tree.ite (f == (0 : Int)) (Tree.ret [AObj.own [AV.s (SV.ro (Con.strs t)), AV.s (SV.ro (Con.typ cK a)), AV.s (SV.int IntKind.i64 f)] (179 : Nat)] (AV.s (SV.ilit IntKind.i64 (42 : Int)))) (Tree.ite (decide (f > (0 : Int))) (Tree.need (inI64 (f - (1 : Int))) (Tree.at (Cfg.mk (sl (91 : Nat) [((0 : Nat), AV.ptr (0 : Nat) (0 : Nat)), ((1 : Nat), AV.s (SV.int IntKind.i64 n)), ((2 : Nat), AV.s (SV.str s)), ((8 : Nat), AV.vec (1 : Nat)), ((9 : Nat), AV.s (SV.bool false)), ((10 : Nat), AV.s (SV.int IntKind.i64 (0 : Int)))]) [AObj.own [AV.s (SV.ro (Con.strs t)), AV.s (SV.ro (Con.typ cK a)), AV.s (SV.int IntKind.i64 (f - (1 : Int)))] (179 : Nat), AObj.vec (Con.typ cK []) (181 : Nat)] (hd Try.f81 (11 : Nat)) (Stk.mk none false (0 : Nat) [] (0 : Nat))))) (Tree.at (Cfg.mk (sl (91 : Nat) [((0 : Nat), AV.ptr (0 : Nat) (0 : Nat)), ((1 : Nat), AV.s (SV.int IntKind.i64 n)), ((2 : Nat), AV.s (SV.str s)), ((8 : Nat), AV.vec (1 : Nat)), ((9 : Nat), AV.s (SV.bool false)), ((10 : Nat), AV.s (SV.int IntKind.i64 (0 : Int)))]) [AObj.own [AV.s (SV.ro (Con.strs t)), AV.s (SV.ro (Con.typ cK a)), AV.s (SV.int IntKind.i64 f)] (179 : Nat), AObj.vec (Con.typ cK []) (181 : Nat)] (hd Try.f81 (11 : Nat)) (Stk.mk none false (0 : Nat) [] (0 : Nat)))))))) := by kernel_rfl
theorem loopRW (t : List ByteArray) (a : Kp) (f n : Int) (s : ByteArray) (l : Kp) (put : Bool) (i : Int) : run P tab0.sum Try.f81 nsRW (cRW t a f n s l put i) inR =
  Tree.ite (decide (i < (↑(List.length a) : Int)))
  (Tree.need ((0 : Int) ≤ i)
    (Tree.need (i < (↑(List.length a) : Int))
      (Tree.ite (decide (kN (el a i) ≥ n)) (Tree.ite (!put) (Tree.need (List.length l + (1 : Nat) ≤ (4294967296 : Nat)) (Tree.need ((0 : Int) ≤ i) (Tree.need (i < (↑(List.length a) : Int)) (Tree.ite (kN (el a i) != n) (Tree.need ((0 : Int) ≤ i) (Tree.need (i < (↑(List.length a) : Int)) (Tree.need ((l ++ [kM n s]).length + (1 : Nat) ≤ (4294967296 : Nat)) (Tree.need (inI64 (i + (1 : Int))) (Tree.at (Cfg.mk (sl (91 : Nat) [((0 : Nat), AV.ptr (0 : Nat) (0 : Nat)), ((1 : Nat), AV.s (SV.int IntKind.i64 n)), ((2 : Nat), AV.s (SV.str s)), ((8 : Nat), AV.vec (1 : Nat)), ((9 : Nat), AV.s (SV.bool true)), ((10 : Nat), AV.s (SV.int IntKind.i64 (i + (1 : Int))))]) [AObj.own [AV.s (SV.ro (Con.strs t)), AV.s (SV.ro (Con.typ cK a)), AV.s (SV.int IntKind.i64 f)] (179 : Nat), AObj.vec (Con.typ cK (l ++ [kM n s] ++ [el a i])) (181 : Nat)] (hd Try.f81 (11 : Nat)) (Stk.mk none false (0 : Nat) [] (0 : Nat)))))))) (Tree.need (inI64 (i + (1 : Int))) (Tree.at (Cfg.mk (sl (91 : Nat) [((0 : Nat), AV.ptr (0 : Nat) (0 : Nat)), ((1 : Nat), AV.s (SV.int IntKind.i64 n)), ((2 : Nat), AV.s (SV.str s)), ((8 : Nat), AV.vec (1 : Nat)), ((9 : Nat), AV.s (SV.bool true)), ((10 : Nat), AV.s (SV.int IntKind.i64 (i + (1 : Int))))]) [AObj.own [AV.s (SV.ro (Con.strs t)), AV.s (SV.ro (Con.typ cK a)), AV.s (SV.int IntKind.i64 f)] (179 : Nat), AObj.vec (Con.typ cK (l ++ [kM n s])) (181 : Nat)] (hd Try.f81 (11 : Nat)) (Stk.mk none false (0 : Nat) [] (0 : Nat))))))))) (Tree.need ((0 : Int) ≤ i) (Tree.need (i < (↑(List.length a) : Int)) (Tree.ite (kN (el a i) != n) (Tree.need ((0 : Int) ≤ i) (Tree.need (i < (↑(List.length a) : Int)) (Tree.need (List.length l + (1 : Nat) ≤ (4294967296 : Nat)) (Tree.need (inI64 (i + (1 : Int))) (Tree.at (Cfg.mk (sl (91 : Nat) [((0 : Nat), AV.ptr (0 : Nat) (0 : Nat)), ((1 : Nat), AV.s (SV.int IntKind.i64 n)), ((2 : Nat), AV.s (SV.str s)), ((8 : Nat), AV.vec (1 : Nat)), ((9 : Nat), AV.s (SV.bool put)), ((10 : Nat), AV.s (SV.int IntKind.i64 (i + (1 : Int))))]) [AObj.own [AV.s (SV.ro (Con.strs t)), AV.s (SV.ro (Con.typ cK a)), AV.s (SV.int IntKind.i64 f)] (179 : Nat), AObj.vec (Con.typ cK (l ++ [el a i])) (181 : Nat)] (hd Try.f81 (11 : Nat)) (Stk.mk none false (0 : Nat) [] (0 : Nat)))))))) (Tree.need (inI64 (i + (1 : Int))) (Tree.at (Cfg.mk (sl (91 : Nat) [((0 : Nat), AV.ptr (0 : Nat) (0 : Nat)), ((1 : Nat), AV.s (SV.int IntKind.i64 n)), ((2 : Nat), AV.s (SV.str s)), ((8 : Nat), AV.vec (1 : Nat)), ((9 : Nat), AV.s (SV.bool put)), ((10 : Nat), AV.s (SV.int IntKind.i64 (i + (1 : Int))))]) [AObj.own [AV.s (SV.ro (Con.strs t)), AV.s (SV.ro (Con.typ cK a)), AV.s (SV.int IntKind.i64 f)] (179 : Nat), AObj.vec (Con.typ cK l) (181 : Nat)] (hd Try.f81 (11 : Nat)) (Stk.mk none false (0 : Nat) [] (0 : Nat)))))))))
        (Tree.need ((0 : Int) ≤ i) (Tree.need (i < (↑(List.length a) : Int)) (Tree.ite (kN (el a i) != n) (Tree.need ((0 : Int) ≤ i) (Tree.need (i < (↑(List.length a) : Int)) (Tree.need (List.length l + (1 : Nat) ≤ (4294967296 : Nat)) (Tree.need (inI64 (i + (1 : Int))) (Tree.at (Cfg.mk (sl (91 : Nat) [((0 : Nat), AV.ptr (0 : Nat) (0 : Nat)), ((1 : Nat), AV.s (SV.int IntKind.i64 n)), ((2 : Nat), AV.s (SV.str s)), ((8 : Nat), AV.vec (1 : Nat)), ((9 : Nat), AV.s (SV.bool put)), ((10 : Nat), AV.s (SV.int IntKind.i64 (i + (1 : Int))))]) [AObj.own [AV.s (SV.ro (Con.strs t)), AV.s (SV.ro (Con.typ cK a)), AV.s (SV.int IntKind.i64 f)] (179 : Nat), AObj.vec (Con.typ cK (l ++ [el a i])) (181 : Nat)] (hd Try.f81 (11 : Nat)) (Stk.mk none false (0 : Nat) [] (0 : Nat)))))))) (Tree.need (inI64 (i + (1 : Int))) (Tree.at (Cfg.mk (sl (91 : Nat) [((0 : Nat), AV.ptr (0 : Nat) (0 : Nat)), ((1 : Nat), AV.s (SV.int IntKind.i64 n)), ((2 : Nat), AV.s (SV.str s)), ((8 : Nat), AV.vec (1 : Nat)), ((9 : Nat), AV.s (SV.bool put)), ((10 : Nat), AV.s (SV.int IntKind.i64 (i + (1 : Int))))]) [AObj.own [AV.s (SV.ro (Con.strs t)), AV.s (SV.ro (Con.typ cK a)), AV.s (SV.int IntKind.i64 f)] (179 : Nat), AObj.vec (Con.typ cK l) (181 : Nat)] (hd Try.f81 (11 : Nat)) (Stk.mk none false (0 : Nat) [] (0 : Nat)))))))))))
  (Tree.at (Cfg.mk (sl (91 : Nat) [((0 : Nat), AV.ptr (0 : Nat) (0 : Nat)), ((1 : Nat), AV.s (SV.int IntKind.i64 n)), ((2 : Nat), AV.s (SV.str s)), ((8 : Nat), AV.vec (1 : Nat)), ((9 : Nat), AV.s (SV.bool put))]) [AObj.own [AV.s (SV.ro (Con.strs t)), AV.s (SV.ro (Con.typ cK a)), AV.s (SV.int IntKind.i64 f)] (179 : Nat), AObj.vec (Con.typ cK l) (181 : Nat)] (hr Try.f81 (18 : Nat)) (Stk.mk none false (0 : Nat) [] (0 : Nat)))) := by kernel_rfl
theorem loopRW18 (t : List ByteArray) (a : Kp) (f n : Int) (s : ByteArray) (l : Kp) (put : Bool) : run P tab0.sum Try.f81 nsRW (cRW18 t a f n s l put) inR =
  Tree.ite (!put) (Tree.need (List.length l + (1 : Nat) ≤ (4294967296 : Nat)) (Tree.ret [AObj.own [AV.s (SV.ro (Con.strs t)), AV.vec (3 : Nat), AV.s (SV.int IntKind.i64 f)] (179 : Nat), AObj.dead, AObj.vec (Con.typ cK [kM n s]) (181 : Nat), AObj.vec (Con.typ cK (l ++ [kM n s])) (181 : Nat)] (AV.s (SV.ilit IntKind.i64 (0 : Int))))) (Tree.ret [AObj.own [AV.s (SV.ro (Con.strs t)), AV.vec (1 : Nat), AV.s (SV.int IntKind.i64 f)] (179 : Nat), AObj.vec (Con.typ cK l) (181 : Nat)] (AV.s (SV.ilit IntKind.i64 (0 : Int)))) := by kernel_rfl
def nsRF : List (Nat × Norm) := [(5, ⟨[], [0, 4], 1, roC⟩)]
noncomputable def cRF (t : List ByteArray) (a : Kp) (f i : Int) : Cfg := ⟨sl 40 [(0, .ptr 0 0), (4, avI i)], [obR t a f], hd Try.f82 5, {}⟩
theorem treeRF (t : List ByteArray) (a : Kp) (f : Int) : run P tab0.sum Try.f82 nsRF (start Try.f82 [.ptr 0 0] [obR t a f]) inR =
  Tree.ite (f == (0 : Int)) (Tree.ret [AObj.own [AV.s (SV.ro (Con.strs t)), AV.s (SV.ro (Con.typ cK a)), AV.s (SV.int IntKind.i64 f)] (179 : Nat)] (AV.s (SV.ilit IntKind.i64 (42 : Int)))) (Tree.ite (decide (f > (0 : Int))) (Tree.need (inI64 (f - (1 : Int))) (Tree.at (Cfg.mk (sl (40 : Nat) [((0 : Nat), AV.ptr (0 : Nat) (0 : Nat)), ((4 : Nat), AV.s (SV.int IntKind.i64 (0 : Int)))]) [AObj.own [AV.s (SV.ro (Con.strs t)), AV.s (SV.ro (Con.typ cK a)), AV.s (SV.int IntKind.i64 (f - (1 : Int)))] (179 : Nat)] (hd Try.f82 (5 : Nat)) (Stk.mk none false (0 : Nat) [] (0 : Nat))))) (Tree.at (Cfg.mk (sl (40 : Nat) [((0 : Nat), AV.ptr (0 : Nat) (0 : Nat)), ((4 : Nat), AV.s (SV.int IntKind.i64 (0 : Int)))]) [AObj.own [AV.s (SV.ro (Con.strs t)), AV.s (SV.ro (Con.typ cK a)), AV.s (SV.int IntKind.i64 f)] (179 : Nat)] (hd Try.f82 (5 : Nat)) (Stk.mk none false (0 : Nat) [] (0 : Nat))))) := by kernel_rfl
abbrev sWi : Spec (List ByteArray × Kp × Int × Int × ByteArray) := ⟨fun (_, _, _, n, s) => [.ptr 0 0, avI n, .s (.str s)], fun (t, a, f, _) => [obR t a f], fun (t, _, _, n, _) => [0 ≤ n, n < (t.length : Int), t.length ≤ 4096], fun (t, a, f, n, s) => [obR (t.set n.toNat s) a f], fun _ => .tup []⟩
theorem treeWi (t : List ByteArray) (a : Kp) (f n : Int) (s : ByteArray) : run P tab0.sum Try.f120 [] (start Try.f120 [.ptr 0 0, avI n, .s (.str s)] [obR t a f]) =
  Tree.need ((0 : Nat) + t.length ≤ (4294967296 : Nat)) (Tree.need ((0 : Int) ≤ n) (Tree.need (n < (↑([] ++ t).length : Int)) (Tree.ret [AObj.own [AV.vec (2 : Nat), AV.s (SV.ro (Con.typ cK a)), AV.s (SV.int IntKind.i64 f)] (179 : Nat), AObj.dead, AObj.vec (Con.strs (([] ++ t).set n.toNat s)) (9 : Nat)] (AV.tup [])))) := by kernel_rfl
def mR : List AV → RM ((List ByteArray × Kp × Int) × List Nat)
  | [.ptr id 0] => .look id fun o => match o with
    | some (.own [.s (.ro (.strs t)), .s (.ro (.typ [.int .i64, .str] a)), f] _) => match f.num? with
      | some (_, _, f) => .ret ((t, a, f), [id])
      | none => .fail "no number"
    | _ => .fail "no disk of the document's"
  | _ => .fail "no disk"
def mWi : List AV → RM ((List ByteArray × Kp × Int × Int × ByteArray) × List Nat)
  | [.ptr id 0, n, .s (.str s)] => (mR [.ptr id 0]).bind fun ((t, a, f), σ) => match n.num? with
    | some (_, _, n) => .ret ((t, a, f, n, s), σ)
    | none => .fail "no number"
  | _ => .fail "no disk"
abbrev sumWi := sumS sWi mWi
def tabRF : Tab := [(120, sumWi)]
abbrev inB : List FuncId := [119]
theorem loopRF (t : List ByteArray) (a : Kp) (f i : Int) : run P tabRF.sum Try.f82 nsRF (cRF t a f i) inB =
  Tree.ite (decide (i < (↑(List.length a) : Int))) (Tree.need ((0 : Int) ≤ i) (Tree.need (i < (↑(List.length a) : Int)) (Tree.need ((0 : Int) ≤ i) (Tree.need (i < (↑(List.length a) : Int)) (Tree.need (Slf (some [AV.ptr (0 : Nat) (0 : Nat), AV.s (SV.int IntKind.i64 (kN (el a i))), AV.s (SV.str (kT (el a i)))])) (Tree.need (Slf (some [AObj.own [AV.s (SV.ro (Con.strs t)), AV.s (SV.ro (Con.typ cK a)), AV.s (SV.int IntKind.i64 f)] (179 : Nat)])) (Tree.need ((0 : Int) ≤ kN (el a i)) (Tree.need (kN (el a i) < (↑t.length : Int)) (Tree.need (t.length ≤ (4096 : Nat)) (Tree.need (inI64 (i + (1 : Int))) (Tree.at (Cfg.mk (sl (40 : Nat) [((0 : Nat), AV.ptr (0 : Nat) (0 : Nat)), ((4 : Nat), AV.s (SV.int IntKind.i64 (i + (1 : Int))))]) [AObj.own [AV.s (SV.ro (Con.strs (t.set (kN (el a i)).toNat (kT (el a i))))), AV.s (SV.ro (Con.typ cK a)), AV.s (SV.int IntKind.i64 f)] (179 : Nat)] (hd Try.f82 (5 : Nat)) (Stk.mk none false (0 : Nat) [] (0 : Nat)))))))))))))) (Tree.ret [AObj.own [AV.s (SV.ro (Con.strs t)), AV.emp, AV.s (SV.int IntKind.i64 f)] (179 : Nat)] (AV.s (SV.ilit IntKind.i64 (0 : Int)))) := by kernel_rfl
theorem treeRF2 (t : List ByteArray) (a : Kp) (f : Int) : run P tabRF.sum Try.f82 nsRF (start Try.f82 [.ptr 0 0] [obR t a f]) inB =
  Tree.ite (f == (0 : Int)) (Tree.ret [AObj.own [AV.s (SV.ro (Con.strs t)), AV.s (SV.ro (Con.typ cK a)), AV.s (SV.int IntKind.i64 f)] (179 : Nat)] (AV.s (SV.ilit IntKind.i64 (42 : Int)))) (Tree.ite (decide (f > (0 : Int))) (Tree.need (inI64 (f - (1 : Int))) (Tree.at (Cfg.mk (sl (40 : Nat) [((0 : Nat), AV.ptr (0 : Nat) (0 : Nat)), ((4 : Nat), AV.s (SV.int IntKind.i64 (0 : Int)))]) [AObj.own [AV.s (SV.ro (Con.strs t)), AV.s (SV.ro (Con.typ cK a)), AV.s (SV.int IntKind.i64 (f - (1 : Int)))] (179 : Nat)] (hd Try.f82 (5 : Nat)) (Stk.mk none false (0 : Nat) [] (0 : Nat))))) (Tree.at (Cfg.mk (sl (40 : Nat) [((0 : Nat), AV.ptr (0 : Nat) (0 : Nat)), ((4 : Nat), AV.s (SV.int IntKind.i64 (0 : Int)))]) [AObj.own [AV.s (SV.ro (Con.strs t)), AV.s (SV.ro (Con.typ cK a)), AV.s (SV.int IntKind.i64 f)] (179 : Nat)] (hd Try.f82 (5 : Nat)) (Stk.mk none false (0 : Nat) [] (0 : Nat))))) := by kernel_rfl
def nsRC : List (Nat × Norm) := [(4, ⟨[], [0, 1, 2, 3, 9], 1, roC⟩)]
noncomputable def cRC (t : List ByteArray) (a : Kp) (f : Int) (keep : List Bool) (torn cut i : Int) : Cfg := ⟨sl 77 [(0, .ptr 0 0), (1, avB keep), (2, avI torn), (3, avI cut), (9, avI i)], [obR t a f], hd Try.f84 4, {}⟩
theorem treeRC (t : List ByteArray) (a : Kp) (f : Int) (keep : List Bool) (torn cut : Int) : run P tabRF.sum Try.f84 nsRC (start Try.f84 [.ptr 0 0, avB keep, avI torn, avI cut] [obR t a f]) inB =
  Tree.ite (decide (cut < (0 : Int))) (Tree.ret [AObj.own [AV.s (SV.ro (Con.strs t)), AV.s (SV.ro (Con.typ cK a)), AV.s (SV.int IntKind.i64 f)] (179 : Nat)] (AV.s (SV.ilit IntKind.i64 (1 : Int)))) (Tree.ite (decide (cut > (64 : Int))) (Tree.ret [AObj.own [AV.s (SV.ro (Con.strs t)), AV.s (SV.ro (Con.typ cK a)), AV.s (SV.int IntKind.i64 f)] (179 : Nat)] (AV.s (SV.ilit IntKind.i64 (1 : Int)))) (Tree.at (Cfg.mk (sl (77 : Nat) [((0 : Nat), AV.ptr (0 : Nat) (0 : Nat)), ((1 : Nat), AV.s (SV.ro (Con.bools keep))), ((2 : Nat), AV.s (SV.int IntKind.i64 torn)), ((3 : Nat), AV.s (SV.int IntKind.i64 cut)), ((9 : Nat), AV.s (SV.int IntKind.i64 (0 : Int)))]) [AObj.own [AV.s (SV.ro (Con.strs t)), AV.s (SV.ro (Con.typ cK a)), AV.s (SV.int IntKind.i64 f)] (179 : Nat)] (hd Try.f84 (4 : Nat)) (Stk.mk none false (0 : Nat) [] (0 : Nat))))) := by kernel_rfl
theorem loopRC (t : List ByteArray) (a : Kp) (f : Int) (keep : List Bool) (torn cut i : Int) : run P tabRF.sum Try.f84 nsRC (cRC t a f keep torn cut i) inB =
  Tree.ite (decide (i < (↑(List.length a) : Int)))
  (Tree.need ((0 : Int) ≤ i)
    (Tree.need (i < (↑(List.length a) : Int)) (Tree.ite (i == torn) (Tree.need ((0 : Int) ≤ (0 : Int)) (Tree.need ((0 : Int) ≤ cut) (Tree.need (cut ≤ (↑(kT (el a i)).size : Int)) (Tree.need ((0 : Int) ≤ kN (el a i)) (Tree.need (kN (el a i) < (↑t.length : Int)) (Tree.need ((0 : Int) ≤ cut) (Tree.need (cut ≤ (↑(t.getD (kN (el a i)).toNat ByteArray.empty).size : Int)) (Tree.need ((↑(t.getD (kN (el a i)).toNat ByteArray.empty).size : Int) ≤ (↑(t.getD (kN (el a i)).toNat ByteArray.empty).size : Int)) (Tree.need (((kT (el a i)).extract (Int.toNat (0 : Int)) cut.toNat).size + ((t.getD (kN (el a i)).toNat ByteArray.empty).extract cut.toNat (↑(t.getD (kN (el a i)).toNat ByteArray.empty).size : Int).toNat).size ≤ (4611686018427387904 : Nat)) (Tree.need (Slf (some [AV.ptr (0 : Nat) (0 : Nat), AV.s (SV.int IntKind.i64 (kN (el a i))), AV.s (SV.str ((kT (el a i)).extract (Int.toNat (0 : Int)) cut.toNat ++ (t.getD (kN (el a i)).toNat ByteArray.empty).extract cut.toNat (↑(t.getD (kN (el a i)).toNat ByteArray.empty).size : Int).toNat))])) (Tree.need (Slf (some [AObj.own [AV.s (SV.ro (Con.strs t)), AV.s (SV.ro (Con.typ cK a)), AV.s (SV.int IntKind.i64 f)] (179 : Nat)])) (Tree.need ((0 : Int) ≤ kN (el a i)) (Tree.need (kN (el a i) < (↑t.length : Int)) (Tree.need (t.length ≤ (4096 : Nat)) (Tree.need (inI64 (i + (1 : Int))) (Tree.at (Cfg.mk (sl (77 : Nat) [((0 : Nat), AV.ptr (0 : Nat) (0 : Nat)), ((1 : Nat), AV.s (SV.ro (Con.bools keep))), ((2 : Nat), AV.s (SV.int IntKind.i64 torn)), ((3 : Nat), AV.s (SV.int IntKind.i64 cut)), ((9 : Nat), AV.s (SV.int IntKind.i64 (i + (1 : Int))))]) [AObj.own [AV.s (SV.ro (Con.strs (t.set (kN (el a i)).toNat ((kT (el a i)).extract (Int.toNat (0 : Int)) cut.toNat ++ (t.getD (kN (el a i)).toNat ByteArray.empty).extract cut.toNat (↑(t.getD (kN (el a i)).toNat ByteArray.empty).size : Int).toNat)))), AV.s (SV.ro (Con.typ cK a)), AV.s (SV.int IntKind.i64 f)] (179 : Nat)] (hd Try.f84 (4 : Nat)) (Stk.mk none false (0 : Nat) [] (0 : Nat))))))))))))))))))) (Tree.ite (decide (i < (↑keep.length : Int))) (Tree.need ((0 : Int) ≤ i) (Tree.need (i < (↑keep.length : Int)) (Tree.ite (keep.getD i.toNat false) (Tree.need (Slf (some [AV.ptr (0 : Nat) (0 : Nat), AV.s (SV.int IntKind.i64 (kN (el a i))), AV.s (SV.str (kT (el a i)))])) (Tree.need (Slf (some [AObj.own [AV.s (SV.ro (Con.strs t)), AV.s (SV.ro (Con.typ cK a)), AV.s (SV.int IntKind.i64 f)] (179 : Nat)])) (Tree.need ((0 : Int) ≤ kN (el a i)) (Tree.need (kN (el a i) < (↑t.length : Int)) (Tree.need (t.length ≤ (4096 : Nat)) (Tree.need (inI64 (i + (1 : Int))) (Tree.at (Cfg.mk (sl (77 : Nat) [((0 : Nat), AV.ptr (0 : Nat) (0 : Nat)), ((1 : Nat), AV.s (SV.ro (Con.bools keep))), ((2 : Nat), AV.s (SV.int IntKind.i64 torn)), ((3 : Nat), AV.s (SV.int IntKind.i64 cut)), ((9 : Nat), AV.s (SV.int IntKind.i64 (i + (1 : Int))))]) [AObj.own [AV.s (SV.ro (Con.strs (t.set (kN (el a i)).toNat (kT (el a i))))), AV.s (SV.ro (Con.typ cK a)), AV.s (SV.int IntKind.i64 f)] (179 : Nat)] (hd Try.f84 (4 : Nat)) (Stk.mk none false (0 : Nat) [] (0 : Nat)))))))))) (Tree.need (inI64 (i + (1 : Int))) (Tree.at (Cfg.mk (sl (77 : Nat) [((0 : Nat), AV.ptr (0 : Nat) (0 : Nat)), ((1 : Nat), AV.s (SV.ro (Con.bools keep))), ((2 : Nat), AV.s (SV.int IntKind.i64 torn)), ((3 : Nat), AV.s (SV.int IntKind.i64 cut)), ((9 : Nat), AV.s (SV.int IntKind.i64 (i + (1 : Int))))]) [AObj.own [AV.s (SV.ro (Con.strs t)), AV.s (SV.ro (Con.typ cK a)), AV.s (SV.int IntKind.i64 f)] (179 : Nat)] (hd Try.f84 (4 : Nat)) (Stk.mk none false (0 : Nat) [] (0 : Nat)))))))) (Tree.need (inI64 (i + (1 : Int))) (Tree.at (Cfg.mk (sl (77 : Nat) [((0 : Nat), AV.ptr (0 : Nat) (0 : Nat)), ((1 : Nat), AV.s (SV.ro (Con.bools keep))), ((2 : Nat), AV.s (SV.int IntKind.i64 torn)), ((3 : Nat), AV.s (SV.int IntKind.i64 cut)), ((9 : Nat), AV.s (SV.int IntKind.i64 (i + (1 : Int))))]) [AObj.own [AV.s (SV.ro (Con.strs t)), AV.s (SV.ro (Con.typ cK a)), AV.s (SV.int IntKind.i64 f)] (179 : Nat)] (hd Try.f84 (4 : Nat)) (Stk.mk none false (0 : Nat) [] (0 : Nat)))))))))
  (Tree.ret [AObj.own [AV.s (SV.ro (Con.strs t)), AV.emp, AV.s (SV.ilit IntKind.i64 (-1 : Int))] (179 : Nat)] (AV.s (SV.ilit IntKind.i64 (0 : Int)))) := by kernel_rfl
theorem treeRFu (t : List ByteArray) (a : Kp) (f n : Int) : run P tab0.sum Try.f83 [] (start Try.f83 [.ptr 0 0, avI n] [obR t a f]) =
  Tree.ite (decide (n < (0 : Int))) (Tree.ret [AObj.own [AV.s (SV.ro (Con.strs t)), AV.s (SV.ro (Con.typ cK a)), AV.s (SV.int IntKind.i64 f)] (179 : Nat)] (AV.s (SV.ilit IntKind.i64 (1 : Int)))) (Tree.ite (f == (0 : Int)) (Tree.ret [AObj.own [AV.s (SV.ro (Con.strs t)), AV.s (SV.ro (Con.typ cK a)), AV.s (SV.int IntKind.i64 f)] (179 : Nat)] (AV.s (SV.ilit IntKind.i64 (42 : Int)))) (Tree.ret [AObj.own [AV.s (SV.ro (Con.strs t)), AV.s (SV.ro (Con.typ cK a)), AV.s (SV.int IntKind.i64 n)] (179 : Nat)] (AV.s (SV.ilit IntKind.i64 (0 : Int))))) := by kernel_rfl
theorem treeRDe (t : List ByteArray) (a : Kp) (f : Int) : run P tab0.sum Try.f115 [] (start Try.f115 [.ptr 0 0] [obR t a f]) =
  Tree.ret [AObj.own [AV.s (SV.ro (Con.strs t)), AV.s (SV.ro (Con.typ cK a)), AV.s (SV.int IntKind.i64 f)] (179 : Nat)] (AV.s (SV.bool (f == (0 : Int)))) := by kernel_rfl
/-! what they do -/
def inL (t : List ByteArray) (n : Int) : Bool := decide (0 ≤ n) && decide (n < (t.length : Int))
def aget (a : Kp) (n : Int) : Option ByteArray := (a.find? fun x => kN x == n).map kT
def rrT (t : List ByteArray) (a : Kp) (n : Int) : ByteArray := if inL t n = true then (aget a n).getD (t.getD n.toNat ByteArray.empty) else ByteArray.empty
def rrE (t : List ByteArray) (n : Int) : Int := if inL t n = true then 0 else 5
def burnR (f : Int) : Int := if f > 0 then f - 1 else f
def wrK (n : Int) (s : ByteArray) : Kp → Bool → Kp × Bool
  | [], p => ([], p)
  | x :: xs, p => ((if kN x ≥ n ∧ p = false then [kM n s] else []) ++ (if kN x ≠ n then [x] else []) ++ (wrK n s xs (p || decide (kN x ≥ n))).1, (wrK n s xs (p || decide (kN x ≥ n))).2)
def wrA (a : Kp) (n : Int) (s : ByteArray) : Kp := (wrK n s a false).1 ++ (if (wrK n s a false).2 = false then [kM n s] else [])
def rwE (t : List ByteArray) (f n : Int) (s : ByteArray) : Int := if inL t n = true then (if s.size = 64 then (if f = 0 then 42 else 0) else 1) else 5
def rwA (t : List ByteArray) (a : Kp) (f n : Int) (s : ByteArray) : Kp := if rwE t f n s = 0 then wrA a n s else a
def rwF (t : List ByteArray) (f n : Int) (s : ByteArray) : Int := if inL t n = true ∧ s.size = 64 then burnR f else f
def putT : List ByteArray → Kp → List ByteArray
  | t, [] => t
  | t, x :: a => putT (t.set (kN x).toNat (kT x)) a
def rfT (t : List ByteArray) (a : Kp) (f : Int) : List ByteArray := if f = 0 then t else putT t a
def rfA (a : Kp) (f : Int) : Kp := if f = 0 then a else []
structure okR (t : List ByteArray) (a : Kp) (f : Int) : Prop where
  t4 : t.length ≤ 4096
  a4 : a.length ≤ 4096
  an : ∀ x ∈ a, 0 ≤ kN x ∧ kN x < (t.length : Int)
  f9 : -1 ≤ f ∧ f ≤ 9223372036854775807
  t64 : ∀ i, i < t.length → (t.getD i ByteArray.empty).size = 64
  a64 : ∀ x ∈ a, (kT x).size = 64
abbrev sRR : Spec (List ByteArray × Kp × Int × Int) := ⟨fun (_, _, _, n) => [.ptr 0 0, avI n], fun (t, a, f, _) => [obR t a f], fun (t, a, f, _) => [okR t a f], fun (t, a, f, _) => [obR t a f], fun (t, a, _, n) => .tup [.s (.str (rrT t a n)), avI (rrE t n)]⟩
abbrev sRW : Spec (List ByteArray × Kp × Int × Int × ByteArray) := ⟨fun (_, _, _, n, s) => [.ptr 0 0, avI n, .s (.str s)], fun (t, a, f, _) => [obR t a f], fun (t, a, f, _) => [okR t a f], fun (t, a, f, n, s) => [obR t (rwA t a f n s) (rwF t f n s)], fun (t, _, f, n, s) => avI (rwE t f n s)⟩
abbrev sRF : Spec (List ByteArray × Kp × Int) := ⟨fun _ => [.ptr 0 0], fun (t, a, f) => [obR t a f], fun (t, a, f) => [okR t a f], fun (t, a, f) => [obR (rfT t a f) (rfA a f) (burnR f)], fun (_, _, f) => avI (flE f)⟩
abbrev sRFu : Spec (List ByteArray × Kp × Int × Int) := ⟨fun (_, _, _, n) => [.ptr 0 0, avI n], fun (t, a, f, _) => [obR t a f], fun _ => [], fun (t, a, f, n) => [obR t a (fuF f n)], fun (_, _, f, n) => avI (fuE f n)⟩
abbrev sRDe : Spec (List ByteArray × Kp × Int) := ⟨fun _ => [.ptr 0 0], fun (t, a, f) => [obR t a f], fun _ => [], fun (t, a, f) => [obR t a f], fun (_, _, f) => .s (.bool (f == 0))⟩
def rcS (keep : List Bool) (torn cut : Int) (old new : ByteArray) (k : Nat) : ByteArray := if (k : Int) = torn then new.extract 0 cut.toNat ++ old.extract cut.toNat 64 else if keep.getD k false = true then new else old
def rcT (keep : List Bool) (torn cut : Int) : Kp → Nat → List ByteArray → List ByteArray
  | [], _, t => t
  | x :: a, k, t => rcT keep torn cut a (k + 1) (t.set (kN x).toNat (rcS keep torn cut (t.getD (kN x).toNat ByteArray.empty) (kT x) k))
def rcH (t : List ByteArray) (a : Kp) (keep : List Bool) (torn cut : Int) : List ByteArray := if okC cut = true then rcT keep torn cut a 0 t else t
def rcA (a : Kp) (cut : Int) : Kp := if okC cut = true then [] else a
abbrev sRC : Spec (List ByteArray × Kp × Int × List Bool × Int × Int) := ⟨fun (_, _, _, keep, torn, cut) => [.ptr 0 0, avB keep, avI torn, avI cut], fun (t, a, f, _) => [obR t a f], fun (t, a, f, _) => [okR t a f], fun (t, a, f, keep, torn, cut) => [obR (rcH t a keep torn cut) (rcA a cut) (crF f cut)], fun (_, _, _, _, _, cut) => avI (crE cut)⟩
theorem wi_ok {Z : Glob} : FnS P Z 120 sWi := by
  refine fnS_of_safe Try.func120 (by kernel_rfl) (fun x => Nat.le_of_ble_eq_true (by kernel_rfl)) ?_
  rintro ⟨(t : List ByteArray), (a : Kp), (f : Int), (n : Int), (s : ByteArray)⟩ ⟨(h0 : 0 ≤ n), (h1 : n < (t.length : Int)), (h2 : t.length ≤ 4096), _⟩ X hX hz
  exact goS hz hX (by simp) Tab.Ok.nil Try.func120 (treeWi t a f n s) ⟨by omega, h0, h1, endC 1 roC rfl (Nat.le_refl _) rfl rfl⟩
theorem inL_iff {t : List ByteArray} {n : Int} : inL t n = true ↔ 0 ≤ n ∧ n < (t.length : Int) := by simp [inL]
theorem rr_ok {Z : Glob} : FnS P Z 86 sRR := by
  refine fnS_of_safe Try.func86 (by kernel_rfl) (fun x => Nat.le_of_ble_eq_true (by kernel_rfl)) ?_
  rintro ⟨(t : List ByteArray), (a : Kp), (f : Int), (n : Int)⟩ ⟨(hd : okR t a f), _⟩ X hX hz
  have hns : ∀ x ∈ nsRR, (sRR.heap (t, a, f, n)).length ≤ x.2.m := by intro y hy; simp [nsRR] at hy; rcases hy with rfl; exact Nat.le_refl _
  have ha := hd.a4
  have bad : ¬ (0 ≤ n ∧ n < (t.length : Int)) → rrT t a n = ByteArray.empty ∧ rrE t n = 5 := fun h => by
    have : ¬ inL t n = true := fun h2 => h (inL_iff.1 h2)
    simp only [rrT, rrE, if_neg this, and_self]
  have loop : 0 ≤ n → n < (t.length : Int) → ∀ (j k : Nat), k + j = a.length → aget a n = aget (a.drop k) n → Safe P 86 X (EndS sRR (t, a, f, n)) (cRR t a f n (k : Int)) := by
    intro h0 h1 j
    have hin := inL_iff.2 ⟨h0, h1⟩
    induction j with
    | zero =>
      intro k hk hg
      refine goS hz hX hns Tab.Ok.nil Try.func86 (loopRR t a f n k) ⟨fun h => absurd (of_decide_eq_true h) (by omega), fun _ => ⟨h0, h1, ?_⟩⟩
      rw [List.drop_eq_nil_of_le (by omega)] at hg
      have e : rrT t a n = t.getD n.toNat ByteArray.empty := by rw [rrT, if_pos hin, hg]; rfl
      have e2 : rrE t n = 0 := by rw [rrE, if_pos hin]
      refine endS 1 rfl (Nat.le_refl _) ?_ rfl
      simp [e, e2, rnS]
    | succ j ih =>
      intro k hk hg
      have hlt : k < a.length := by omega
      rw [List.drop_eq_getElem_cons hlt] at hg
      refine goS hz hX hns Tab.Ok.nil Try.func86 (loopRR t a f n k) ?_
      rw [el_lt hlt]
      generalize a[k] = x at *
      have e2 : rrE t n = 0 := by rw [rrE, if_pos hin]
      repeat' (with_reducible (first | refine h_eq ?_ | refine h_need ?_ ?_ | refine h_dec (fun _ => ?_) (fun _ => ?_) | refine h_beq (fun _ => ?_) (fun _ => ?_) | refine h_bne (fun _ => ?_) (fun _ => ?_) | refine h_tt ?_ | refine h_ff ?_ | refine h_not ?_ | refine h_ite (fun _ => ?_) (fun _ => ?_) | refine h_both (fun _ => ?_) (fun _ => ?_) | refine h_ret ?_ | refine h_at ?_))
      all_goals first | omega | exact ⟨by omega, by omega⟩ | skip
      · rename_i h
        have e : rrT t a n = kT x := by rw [rrT, if_pos hin, hg]; unfold aget; rw [List.find?_cons_of_pos (by simpa using h)]; rfl
        refine endS 1 rfl (Nat.le_refl _) ?_ rfl
        simp [e, e2, rnS]
      · rename_i h
        refine ih (k + 1) (by omega) ?_
        rw [hg]; unfold aget; rw [List.find?_cons_of_neg (by simpa using h)]
  refine goS hz hX hns Tab.Ok.nil Try.func86 (treeRR t a f n) ?_
  repeat' (with_reducible (first | refine h_eq ?_ | refine h_need ?_ ?_ | refine h_dec (fun _ => ?_) (fun _ => ?_) | refine h_beq (fun _ => ?_) (fun _ => ?_) | refine h_bne (fun _ => ?_) (fun _ => ?_) | refine h_tt ?_ | refine h_ff ?_ | refine h_not ?_ | refine h_ite (fun _ => ?_) (fun _ => ?_) | refine h_both (fun _ => ?_) (fun _ => ?_) | refine h_ret ?_ | refine h_at ?_))
  · obtain ⟨e1, e2⟩ := bad (by omega)
    refine endS 1 rfl (Nat.le_refl _) ?_ rfl
    simp [e1, e2, rnS]
  · obtain ⟨e1, e2⟩ := bad (by omega)
    refine endS 1 rfl (Nat.le_refl _) ?_ rfl
    simp [e1, e2, rnS]
  · exact loop (by omega) (by omega) a.length 0 (by omega) rfl
theorem rfu_ok {Z : Glob} : FnS P Z 83 sRFu := by
  refine fnS_of_safe Try.func83 (by kernel_rfl) (fun x => Nat.le_of_ble_eq_true (by kernel_rfl)) ?_
  rintro ⟨(t : List ByteArray), (a : Kp), (f : Int), (n : Int)⟩ _ X hX hz
  refine goS hz hX (by simp) Tab.Ok.nil Try.func83 (treeRFu t a f n) ?_
  repeat' (with_reducible (first | refine h_eq ?_ | refine h_need ?_ ?_ | refine h_dec (fun _ => ?_) (fun _ => ?_) | refine h_beq (fun _ => ?_) (fun _ => ?_) | refine h_bne (fun _ => ?_) (fun _ => ?_) | refine h_tt ?_ | refine h_ff ?_ | refine h_not ?_ | refine h_ite (fun _ => ?_) (fun _ => ?_) | refine h_both (fun _ => ?_) (fun _ => ?_) | refine h_ret ?_ | refine h_at ?_))
  all_goals refine endS 1 rfl (Nat.le_refl _) ?_ ?_ <;> simp [fuE, fuF, rnS, *]
theorem rde_ok {Z : Glob} : FnS P Z 115 sRDe := by
  refine fnS_of_safe Try.func115 (by kernel_rfl) (fun x => Nat.le_of_ble_eq_true (by kernel_rfl)) ?_
  rintro ⟨(t : List ByteArray), (a : Kp), (f : Int)⟩ _ X hX hz
  exact goS hz hX (by simp) Tab.Ok.nil Try.func115 (treeRDe t a f) (endS 1 rfl (Nat.le_refl _) rfl rfl)
/-! Flush, Write -/
theorem putT_len : ∀ (a : Kp) (t : List ByteArray), (putT t a).length = t.length
  | [], t => rfl
  | x :: a, t => (putT_len a _).trans List.length_set
theorem rf_ok {Z : Glob} : FnS P Z 82 sRF := by
  refine fnS_of_safe Try.func82 (by kernel_rfl) (fun x => Nat.le_of_ble_eq_true (by kernel_rfl)) ?_
  rintro ⟨(t : List ByteArray), (a : Kp), (f : Int)⟩ ⟨(hd : okR t a f), _⟩ X hX hz
  have hT : tabRF.Ok P Z := Tab.Ok.cons (wi_ok.sum mWi) Tab.Ok.nil
  have hns : ∀ x ∈ nsRF, (sRF.heap (t, a, f)).length ≤ x.2.m := by intro y hy; simp [nsRF] at hy; rcases hy with rfl; exact Nat.le_refl _
  have ha := hd.a4
  have ht := hd.t4
  have loop : f ≠ 0 → ∀ (j k : Nat) (t' : List ByteArray), k + j = a.length → t'.length = t.length → putT t' (a.drop k) = putT t a → Safe P 82 X (EndS sRF (t, a, f)) (cRF t' a (burnR f) (k : Int)) := by
    intro hf j
    induction j with
    | zero =>
      intro k t' hk hl hp
      refine goS hz hX hns hT Try.func82 (loopRF t' a (burnR f) k) ⟨fun h => absurd (of_decide_eq_true h) (by omega), fun _ => ?_⟩
      rw [List.drop_eq_nil_of_le (by omega)] at hp
      refine endC 1 roC rfl (Nat.le_refl _) ?_ ?_ <;> simp [flE, rfT, rfA, hf, ← hp, putT, rnS]
    | succ j ih =>
      intro k t' hk hl hp
      have hlt : k < a.length := by omega
      have hr := hd.an _ (List.getElem_mem hlt)
      rw [List.drop_eq_getElem_cons hlt] at hp
      refine goS hz hX hns hT Try.func82 (loopRF t' a (burnR f) k) ?_
      rw [el_lt hlt]
      generalize a[k] = x at *
      repeat' (with_reducible (first | refine h_eq ?_ | refine h_need ?_ ?_ | refine h_dec (fun _ => ?_) (fun _ => ?_) | refine h_beq (fun _ => ?_) (fun _ => ?_) | refine h_bne (fun _ => ?_) (fun _ => ?_) | refine h_tt ?_ | refine h_ff ?_ | refine h_not ?_ | refine h_ite (fun _ => ?_) (fun _ => ?_) | refine h_both (fun _ => ?_) (fun _ => ?_) | refine h_ret ?_ | refine h_at ?_))
      all_goals first | omega | exact ⟨by omega, by omega⟩ | skip
      exact ih (k + 1) _ (by omega) (by rw [List.length_set]; exact hl) hp
  have f9 := hd.f9
  by_cases hf : f = 0
  · refine goS hz hX hns hT Try.func82 (treeRF2 t a f) ?_
    repeat' (with_reducible (first | refine h_eq ?_ | refine h_need ?_ ?_ | refine h_dec (fun _ => ?_) (fun _ => ?_) | refine h_beq (fun _ => ?_) (fun _ => ?_) | refine h_bne (fun _ => ?_) (fun _ => ?_) | refine h_tt ?_ | refine h_ff ?_ | refine h_not ?_ | refine h_ite (fun _ => ?_) (fun _ => ?_) | refine h_both (fun _ => ?_) (fun _ => ?_) | refine h_ret ?_ | refine h_at ?_))
    all_goals first | omega | skip
    refine endS 1 rfl (Nat.le_refl _) ?_ ?_ <;> simp [flE, rfT, rfA, burnR, hf, rnS]
  · have := loop hf a.length 0 t (by omega) rfl rfl
    refine goS hz hX hns hT Try.func82 (treeRF2 t a f) ?_
    unfold burnR at this
    repeat' (with_reducible (first | refine h_eq ?_ | refine h_need ?_ ?_ | refine h_dec (fun _ => ?_) (fun _ => ?_) | refine h_beq (fun _ => ?_) (fun _ => ?_) | refine h_bne (fun _ => ?_) (fun _ => ?_) | refine h_tt ?_ | refine h_ff ?_ | refine h_not ?_ | refine h_ite (fun _ => ?_) (fun _ => ?_) | refine h_both (fun _ => ?_) (fun _ => ?_) | refine h_ret ?_ | refine h_at ?_))
    all_goals first | omega | exact ⟨by omega, by omega⟩ | (simp_all; done) | skip
    · rw [if_pos (by assumption)] at this; exact this
    · rw [if_neg (by assumption)] at this; exact this
theorem rw_ok {Z : Glob} : FnS P Z 81 sRW := by
  refine fnS_of_safe Try.func81 (by kernel_rfl) (fun x => Nat.le_of_ble_eq_true (by kernel_rfl)) ?_
  rintro ⟨(t : List ByteArray), (a : Kp), (f : Int), (n : Int), (s : ByteArray)⟩ ⟨(hd : okR t a f), _⟩ X hX hz
  have hns : ∀ x ∈ nsRW, (sRW.heap (t, a, f, n, s)).length ≤ x.2.m := by intro y hy; simp [nsRW] at hy; rcases hy with rfl | rfl <;> exact Nat.le_refl _
  have ha := hd.a4
  have f9 := hd.f9
  have loop : inL t n = true → s.size = 64 → f ≠ 0 → ∀ (j k : Nat) (l : Kp) (put : Bool), k + j = a.length → l.length ≤ 2 * k → l ++ (wrK n s (a.drop k) put).1 = (wrK n s a false).1 → (wrK n s (a.drop k) put).2 = (wrK n s a false).2 →
      Safe P 81 X (EndS sRW (t, a, f, n, s)) (cRW t a (burnR f) n s l put (k : Int)) := by
    intro hin hs hf j
    have eE : rwE t f n s = 0 := by simp [rwE, hin, hs, hf]
    have eF : rwF t f n s = burnR f := by simp [rwF, hin, hs]
    have eA : rwA t a f n s = wrA a n s := by simp [rwA, eE]
    induction j with
    | zero =>
      intro k l put hk hl h1 h2
      rw [List.drop_eq_nil_of_le (by omega)] at h1 h2
      simp only [wrK, List.append_nil] at h1 h2
      refine goS hz hX hns Tab.Ok.nil Try.func81 (loopRW t a (burnR f) n s l put k) ⟨fun h => absurd (of_decide_eq_true h) (by omega), fun _ => ?_⟩
      show Safe P _ X _ (cRW18 t a (burnR f) n s l put)
      refine goS hz hX hns Tab.Ok.nil Try.func81 (loopRW18 t a (burnR f) n s l put) ?_
      repeat' (with_reducible (first | refine h_eq ?_ | refine h_need ?_ ?_ | refine h_dec (fun _ => ?_) (fun _ => ?_) | refine h_beq (fun _ => ?_) (fun _ => ?_) | refine h_bne (fun _ => ?_) (fun _ => ?_) | refine h_tt ?_ | refine h_ff ?_ | refine h_not ?_ | refine h_ite (fun _ => ?_) (fun _ => ?_) | refine h_both (fun _ => ?_) (fun _ => ?_) | refine h_ret ?_ | refine h_at ?_))
      all_goals first | omega | skip
      · rename_i hp
        refine endC 1 roC rfl (Nat.le_refl _) ?_ ?_ <;> simp [eE, eF, eA, wrA, ← h1, ← h2, hp, rnS]
      · rename_i hp
        refine endC 1 roC rfl (Nat.le_refl _) ?_ ?_ <;> simp [eE, eF, eA, wrA, ← h1, ← h2, hp, rnS]
    | succ j ih =>
      intro k l put hk hl h1 h2
      have hlt : k < a.length := by omega
      rw [List.drop_eq_getElem_cons hlt] at h1 h2
      refine goS hz hX hns Tab.Ok.nil Try.func81 (loopRW t a (burnR f) n s l put k) ?_
      rw [el_lt hlt]
      generalize a[k] = x at *
      simp only [wrK] at h1 h2
      have next := fun l' put' => ih (k + 1) l' put' (by omega)
      repeat' (with_reducible (first | refine h_eq ?_ | refine h_need ?_ ?_ | refine h_dec (fun _ => ?_) (fun _ => ?_) | refine h_beq (fun _ => ?_) (fun _ => ?_) | refine h_bne (fun _ => ?_) (fun _ => ?_) | refine h_tt ?_ | refine h_ff ?_ | refine h_not ?_ | refine h_ite (fun _ => ?_) (fun _ => ?_) | refine h_both (fun _ => ?_) (fun _ => ?_) | refine h_ret ?_ | refine h_at ?_))
      all_goals first | omega | exact ⟨by omega, by omega⟩ | (simp only [List.length_append, List.length_cons, List.length_nil]; omega) | skip
      all_goals refine next _ _ ?_ ?_ ?_
      all_goals first
        | (simp only [List.length_append, List.length_cons, List.length_nil]; omega)
        | omega
        | (rw [← h1]; clear h1 h2 next ih; simp [*]; done)
        | (rw [← h2]; clear h1 h2 next ih; simp [*]; done)
  have bad : ¬ (inL t n = true ∧ s.size = 64 ∧ f ≠ 0) → rwE t f n s ≠ 0 ∧ rwA t a f n s = a ∧ rwF t f n s = f := fun h => by
    have e : rwE t f n s ≠ 0 := by
      unfold rwE
      split
      · split
        · split
          · decide
          · exact absurd ⟨by assumption, by assumption, by assumption⟩ h
        · decide
      · decide
    refine ⟨e, by rw [rwA, if_neg e], ?_⟩
    unfold rwF burnR
    split
    · rename_i hh
      have : f = 0 := Classical.byContradiction fun hf => h ⟨hh.1, hh.2, hf⟩
      rw [if_neg (by omega)]
    · rfl
  have lp := fun h1 h2 h3 => loop h1 h2 h3 a.length 0 [] false (by omega) (Nat.le_refl _) rfl rfl
  refine goS hz hX hns Tab.Ok.nil Try.func81 (treeRW t a f n s) ?_
  repeat' (with_reducible (first | refine h_eq ?_ | refine h_need ?_ ?_ | refine h_dec (fun _ => ?_) (fun _ => ?_) | refine h_beq (fun _ => ?_) (fun _ => ?_) | refine h_bne (fun _ => ?_) (fun _ => ?_) | refine h_tt ?_ | refine h_ff ?_ | refine h_not ?_ | refine h_ite (fun _ => ?_) (fun _ => ?_) | refine h_both (fun _ => ?_) (fun _ => ?_) | refine h_ret ?_ | refine h_at ?_))
  all_goals first | omega | exact ⟨by omega, by omega⟩ | skip
  · obtain ⟨e1, e2, e3⟩ := bad (fun h => by have := inL_iff.1 h.1; omega)
    have e : rwE t f n s = 5 := by rw [rwE, if_neg (fun h => by have := inL_iff.1 h; omega)]
    refine endC 1 roC rfl (Nat.le_refl _) ?_ ?_ <;> simp [e, e2, e3, rnS]
  · obtain ⟨e1, e2, e3⟩ := bad (fun h => by have := inL_iff.1 h.1; omega)
    have e : rwE t f n s = 5 := by rw [rwE, if_neg (fun h => by have := inL_iff.1 h; omega)]
    refine endC 1 roC rfl (Nat.le_refl _) ?_ ?_ <;> simp [e, e2, e3, rnS]
  · have hin : inL t n = true := inL_iff.2 ⟨by omega, by omega⟩
    have hs : s.size ≠ 64 := by omega
    obtain ⟨e1, e2, e3⟩ := bad (fun h => hs h.2.1)
    have e : rwE t f n s = 1 := by rw [rwE, if_pos hin, if_neg hs]
    refine endC 1 roC rfl (Nat.le_refl _) ?_ ?_ <;> simp [e, e2, e3, rnS]
  · have hin : inL t n = true := inL_iff.2 ⟨by omega, by omega⟩
    have hs : s.size = 64 := by omega
    obtain ⟨e1, e2, e3⟩ := bad (fun h => h.2.2 (by assumption))
    have e : rwE t f n s = 42 := by rw [rwE, if_pos hin, if_pos hs, if_pos (by assumption)]
    refine endC 1 roC rfl (Nat.le_refl _) ?_ ?_ <;> simp [e, e2, e3, rnS]
  · have := lp (inL_iff.2 ⟨by omega, by omega⟩) (by omega) (by assumption)
    unfold burnR at this
    rw [if_pos (by assumption)] at this
    exact this
  · have := lp (inL_iff.2 ⟨by omega, by omega⟩) (by omega) (by assumption)
    unfold burnR at this
    rw [if_neg (by assumption)] at this
    exact this
/-! Crash -/
theorem getD_set_size {t : List ByteArray} {j : Nat} {s : ByteArray} (h : ∀ i, i < t.length → (t.getD i ByteArray.empty).size = 64) (hs : s.size = 64) : ∀ i, i < (t.set j s).length → ((t.set j s).getD i ByteArray.empty).size = 64 := by
  intro i hi
  rw [List.length_set] at hi
  by_cases e : i = j
  · subst e; rw [arr_set_self hi]; exact hs
  · rw [arr_set_ne e]; exact h i hi
theorem rcS_size {keep : List Bool} {torn cut : Int} {old new : ByteArray} {k : Nat} (ho : old.size = 64) (hn : new.size = 64) (h0 : 0 ≤ cut) (h1 : cut ≤ 64) : (rcS keep torn cut old new k).size = 64 := by
  unfold rcS
  split
  · rw [ByteArray.size_append, ByteArray.size_extract, ByteArray.size_extract]; omega
  · split
    · exact hn
    · exact ho
theorem set_same {t : List ByteArray} {i : Nat} : t.set i (t.getD i ByteArray.empty) = t := by
  rcases Nat.lt_or_ge i t.length with h | h
  · rw [getD_lt h]; exact List.set_getElem_self h
  · exact List.set_eq_of_length_le h
theorem rc_ok {Z : Glob} : FnS P Z 84 sRC := by
  refine fnS_of_safe Try.func84 (by kernel_rfl) (fun x => Nat.le_of_ble_eq_true (by kernel_rfl)) ?_
  rintro ⟨(t : List ByteArray), (a : Kp), (f : Int), (keep : List Bool), (torn : Int), (cut : Int)⟩ ⟨(hd : okR t a f), _⟩ X hX hz
  have hT : tabRF.Ok P Z := Tab.Ok.cons (wi_ok.sum mWi) Tab.Ok.nil
  have hns : ∀ x ∈ nsRC, (sRC.heap (t, a, f, keep, torn, cut)).length ≤ x.2.m := by intro y hy; simp [nsRC] at hy; rcases hy with rfl; exact Nat.le_refl _
  have ha := hd.a4
  have ht := hd.t4
  have loop : 0 ≤ cut → cut ≤ 64 → ∀ (j k : Nat) (t' : List ByteArray), k + j = a.length → t'.length = t.length → (∀ i, i < t'.length → (t'.getD i ByteArray.empty).size = 64) → rcT keep torn cut (a.drop k) k t' = rcT keep torn cut a 0 t →
      Safe P 84 X (EndS sRC (t, a, f, keep, torn, cut)) (cRC t' a f keep torn cut (k : Int)) := by
    intro h0 h1 j
    have hc : okC cut = true := by simp [okC, h0, h1]
    induction j with
    | zero =>
      intro k t' hk hl h64 hp
      refine goS hz hX hns hT Try.func84 (loopRC t' a f keep torn cut k) ⟨fun h => absurd (of_decide_eq_true h) (by omega), fun _ => ?_⟩
      rw [List.drop_eq_nil_of_le (by omega)] at hp
      refine endC 1 roC rfl (Nat.le_refl _) ?_ ?_ <;> simp [crE, rcH, rcA, crF, hc, ← hp, rcT, rnS]
    | succ j ih =>
      intro k t' hk hl h64 hp
      have hlt : k < a.length := by omega
      have hr := hd.an _ (List.getElem_mem hlt)
      have hs := hd.a64 _ (List.getElem_mem hlt)
      rw [List.drop_eq_getElem_cons hlt] at hp
      refine goS hz hX hns hT Try.func84 (loopRC t' a f keep torn cut k) ?_
      rw [el_lt hlt]
      generalize a[k] = x at *
      have ho := h64 (kN x).toNat (by omega)
      have next := ih (k + 1) (t'.set (kN x).toNat (rcS keep torn cut (t'.getD (kN x).toNat ByteArray.empty) (kT x) k)) (by omega) (by rw [List.length_set]; exact hl) (getD_set_size h64 (rcS_size ho hs h0 h1)) hp
      have e64 : ((t'.getD (kN x).toNat ByteArray.empty).size : Int).toNat = 64 := by omega
      have ek : (k : Int).toNat = k := Int.toNat_natCast k
      have hka : keep.length ≤ k → keep.getD k false = false := fun h => by simp [List.getD, List.getElem?_eq_none h]
      have q1 : ((kT x).extract (Int.toNat 0) cut.toNat).size ≤ 64 := by rw [ByteArray.size_extract]; omega
      have q2 : ((t'.getD (kN x).toNat ByteArray.empty).extract cut.toNat 64).size ≤ 64 := by rw [ByteArray.size_extract]; omega
      rw [e64, ek]
      unfold rcS at next
      have nx1 : (k : Int) = torn → Safe P 84 X (EndS sRC (t, a, f, keep, torn, cut)) (cRC (t'.set (kN x).toNat ((kT x).extract 0 cut.toNat ++ (t'.getD (kN x).toNat ByteArray.empty).extract cut.toNat 64)) a f keep torn cut ((k + 1 : Nat) : Int)) := fun h => by rw [if_pos h] at next; exact next
      have nx2 : ¬ (k : Int) = torn → keep.getD k false = true → Safe P 84 X (EndS sRC (t, a, f, keep, torn, cut)) (cRC (t'.set (kN x).toNat (kT x)) a f keep torn cut ((k + 1 : Nat) : Int)) := fun h h2 => by rw [if_neg h, if_pos h2] at next; exact next
      have nx3 : ¬ (k : Int) = torn → keep.getD k false = false → Safe P 84 X (EndS sRC (t, a, f, keep, torn, cut)) (cRC t' a f keep torn cut ((k + 1 : Nat) : Int)) := fun h h2 => by rw [if_neg h, if_neg (by rw [h2]; simp), set_same] at next; exact next
      clear next ih hp
      repeat' (with_reducible (first | refine h_eq ?_ | refine h_need ?_ ?_ | refine h_dec (fun _ => ?_) (fun _ => ?_) | refine h_beq (fun _ => ?_) (fun _ => ?_) | refine h_bne (fun _ => ?_) (fun _ => ?_) | refine h_tt ?_ | refine h_ff ?_ | refine h_not ?_ | refine h_ite (fun _ => ?_) (fun _ => ?_) | refine h_both (fun _ => ?_) (fun _ => ?_) | refine h_ret ?_ | refine h_at ?_))
      all_goals first | omega | exact ⟨by omega, by omega⟩ | exact nx1 (by assumption) | exact nx2 (by assumption) (by assumption) | exact nx3 (by assumption) (by first | assumption | exact hka (by omega))
  refine goS hz hX hns hT Try.func84 (treeRC t a f keep torn cut) ?_
  repeat' (with_reducible (first | refine h_eq ?_ | refine h_need ?_ ?_ | refine h_dec (fun _ => ?_) (fun _ => ?_) | refine h_beq (fun _ => ?_) (fun _ => ?_) | refine h_bne (fun _ => ?_) (fun _ => ?_) | refine h_tt ?_ | refine h_ff ?_ | refine h_not ?_ | refine h_ite (fun _ => ?_) (fun _ => ?_) | refine h_both (fun _ => ?_) (fun _ => ?_) | refine h_ret ?_ | refine h_at ?_))
  · have hc : okC cut = false := by simp [okC]; omega
    refine endC 1 roC rfl (Nat.le_refl _) ?_ ?_ <;> simp [crE, rcH, rcA, crF, hc, rnS]
  · have hc : okC cut = false := by simp [okC]; omega
    refine endC 1 roC rfl (Nat.le_refl _) ?_ ?_ <;> simp [crE, rcH, rcA, crF, hc, rnS]
  · exact loop (by omega) (by omega) a.length 0 t (by omega) rfl hd.t64 rfl
end Ds

namespace Ds
open Go Go.Sx Go.Proofs Lf
def mRR : List AV → RM ((List ByteArray × Kp × Int × Int) × List Nat)
  | [.ptr id 0, n] => (mR [.ptr id 0]).bind fun ((t, a, f), σ) => match n.num? with
    | some (_, _, n) => .ret ((t, a, f, n), σ)
    | none => .fail "no number"
  | _ => .fail "no disk"
def mRC : List AV → RM ((List ByteArray × Kp × Int × List Bool × Int × Int) × List Nat)
  | [.ptr id 0, .s (.ro (.bools ks)), t, c] => (mR [.ptr id 0]).bind fun ((t0, a, f), σ) => match t.num?, c.num? with
    | some (_, _, t), some (_, _, c) => .ret ((t0, a, f, ks, t, c), σ)
    | _, _ => .fail "no number"
  | _ => .fail "no disk"
def tabRf : Tab := [(60, sumWh), (81, sumS sRW mWi), (82, sumS sRF mR), (83, sumS sRFu mRR), (84, sumS sRC mRC)]
def sfT (t : List ByteArray) (a : Kp) (f k n : Int) (ks : List Bool) (c : Int) : List ByteArray := if k = 0 then t else if k = 1 then rfT t a f else if k = 2 then t else rcH t a ks n c
def sfA (t : List ByteArray) (a : Kp) (f k n : Int) (s : ByteArray) (c : Int) : Kp := if k = 0 then rwA t a f n (whS s c) else if k = 1 then rfA a f else if k = 2 then a else rcA a c
def sfF (t : List ByteArray) (f k n : Int) (s : ByteArray) (c : Int) : Int := if k = 0 then rwF t f n (whS s c) else if k = 1 then burnR f else if k = 2 then fuF f n else crF f c
def sfE (t : List ByteArray) (f k n : Int) (s : ByteArray) (c : Int) : Int := if k = 0 then rwE t f n (whS s c) else if k = 1 then flE f else if k = 2 then fuE f n else crE c
theorem treeRf (t : List ByteArray) (a : Kp) (f : Int) (k n : Int) (s : ByteArray) (ks : List Bool) (c : Int) : run P tabRf.sum Try.f70 [] (start Try.f70 [avS k n s ks c, .ptr 0 0] [obR t a f]) =
  Tree.ite (k == (0 : Int)) (Tree.need (Slf (some [AV.ptr (0 : Nat) (0 : Nat), AV.s (SV.int IntKind.i64 n), AV.s (SV.str (whS s c))])) (Tree.need (Slf (some [AObj.own [AV.s (SV.ro (Con.strs t)), AV.s (SV.ro (Con.typ cK a)), AV.s (SV.int IntKind.i64 f)] (179 : Nat)])) (Tree.need (okR t a f) (Tree.ret [AObj.own [AV.s (SV.ro (Con.strs t)), AV.s (SV.ro (Con.typ cK (rwA t a f n (whS s c)))), AV.s (SV.int IntKind.i64 (rwF t f n (whS s c)))] (179 : Nat), AObj.own [AV.s (SV.int IntKind.u8 k), AV.s (SV.int IntKind.i64 n), AV.s (SV.str s), AV.s (SV.ro (Con.bools ks)), AV.s (SV.int IntKind.i64 c)] (91 : Nat)] (AV.s (SV.int IntKind.i64 (rwE t f n (whS s c)))))))) (Tree.ite (k == (1 : Int)) (Tree.need (Slf (some [AV.ptr (0 : Nat) (0 : Nat)])) (Tree.need (Slf (some [AObj.own [AV.s (SV.ro (Con.strs t)), AV.s (SV.ro (Con.typ cK a)), AV.s (SV.int IntKind.i64 f)] (179 : Nat)])) (Tree.need (okR t a f) (Tree.ret [AObj.own [AV.s (SV.ro (Con.strs (rfT t a f))), AV.s (SV.ro (Con.typ cK (rfA a f))), AV.s (SV.int IntKind.i64 (burnR f))] (179 : Nat), AObj.own [AV.s (SV.int IntKind.u8 k), AV.s (SV.int IntKind.i64 n), AV.s (SV.str s), AV.s (SV.ro (Con.bools ks)), AV.s (SV.int IntKind.i64 c)] (91 : Nat)] (AV.s (SV.int IntKind.i64 (flE f))))))) (Tree.ite (k == (2 : Int)) (Tree.need (Slf (some [AV.ptr (0 : Nat) (0 : Nat), AV.s (SV.int IntKind.i64 n)])) (Tree.need (Slf (some [AObj.own [AV.s (SV.ro (Con.strs t)), AV.s (SV.ro (Con.typ cK a)), AV.s (SV.int IntKind.i64 f)] (179 : Nat)])) (Tree.ret [AObj.own [AV.s (SV.ro (Con.strs t)), AV.s (SV.ro (Con.typ cK a)), AV.s (SV.int IntKind.i64 (fuF f n))] (179 : Nat), AObj.own [AV.s (SV.int IntKind.u8 k), AV.s (SV.int IntKind.i64 n), AV.s (SV.str s), AV.s (SV.ro (Con.bools ks)), AV.s (SV.int IntKind.i64 c)] (91 : Nat)] (AV.s (SV.int IntKind.i64 (fuE f n)))))) (Tree.need (Slf (some [AV.ptr (0 : Nat) (0 : Nat), AV.s (SV.ro (Con.bools ks)), AV.s (SV.int IntKind.i64 n), AV.s (SV.int IntKind.i64 c)])) (Tree.need (Slf (some [AObj.own [AV.s (SV.ro (Con.strs t)), AV.s (SV.ro (Con.typ cK a)), AV.s (SV.int IntKind.i64 f)] (179 : Nat)])) (Tree.need (okR t a f) (Tree.ret [AObj.own [AV.s (SV.ro (Con.strs (rcH t a ks n c))), AV.s (SV.ro (Con.typ cK (rcA a c))), AV.s (SV.int IntKind.i64 (crF f c))] (179 : Nat), AObj.own [AV.s (SV.int IntKind.u8 k), AV.s (SV.int IntKind.i64 n), AV.s (SV.str s), AV.s (SV.ro (Con.bools ks)), AV.s (SV.int IntKind.i64 c)] (91 : Nat)] (AV.s (SV.int IntKind.i64 (crE c))))))))) := by kernel_rfl
abbrev sRf : Spec (List ByteArray × Kp × Int × Int × Int × ByteArray × List Bool × Int) := ⟨fun (_, _, _, k, n, s, ks, c) => [avS k n s ks c, .ptr 0 0], fun (t, a, f, _) => [obR t a f], fun (t, a, f, _) => [okR t a f],
  fun (t, a, f, k, n, s, ks, c) => [obR (sfT t a f k n ks c) (sfA t a f k n s c) (sfF t f k n s c)], fun (t, _, f, k, n, s, _, c) => avI (sfE t f k n s c)⟩
/-! like -/
def tabLi : Tab := [(61, sumAs), (73, sumSe), (64, sumDe), (58, sumRd), (115, sumS sRDe mR), (86, sumS sRR mRR)]
abbrev hLi (th : Th) (m : As) (fu : Int) (t : List ByteArray) (a : Kp) (f : Int) : List AObj := hD th m fu ++ [obR t a f]
def nsLi : List (Nat × Norm) := [(5, ⟨[], [0, 1, 5, 6], 4, []⟩), (10, ⟨[], [0, 1, 7], 4, []⟩)]
noncomputable def cLi5 (th : Th) (m : As) (fu : Int) (t : List ByteArray) (a : Kp) (f : Int) (l : List Int) (i : Int) : Cfg := ⟨sl 87 [(0, .ptr 0 0), (1, .ptr 3 0), (5, .vec 4), (6, avI i)], hLi th m fu t a f ++ [.vec (.ints .i64 l) 3], hd Try.f71 5, {}⟩
noncomputable def cLi10 (th : Th) (m : As) (fu : Int) (t : List ByteArray) (a : Kp) (f n : Int) : Cfg := ⟨sl 87 [(0, .ptr 0 0), (1, .ptr 3 0), (7, avI n)], hLi th m fu t a f, hd Try.f71 10, {}⟩
theorem treeLi (th : Th) (m : As) (fu : Int) (t : List ByteArray) (a : Kp) (f : Int) : run P tabLi.sum Try.f71 nsLi (start Try.f71 [.ptr 0 0, .ptr 3 0] (hLi th m fu t a f)) =
  Tree.need (Slf (some [AV.ptr (0 : Nat) (0 : Nat)])) (Tree.need (Slf (some [AObj.own [AV.vec (1 : Nat), AV.mapv (2 : Nat), AV.s (SV.int IntKind.i64 fu)] (145 : Nat), AObj.vec (Con.typ [CK.arr IntKind.u8 (64 : Nat)] th) (169 : Nat), AObj.map (CK.arr IntKind.u8 (64 : Nat)) m])) (Tree.need (okD th m fu) (Tree.need (Slf (some [AV.ptr (0 : Nat) (0 : Nat)])) (Tree.need (Slf (some [AObj.own [AV.vec (1 : Nat), AV.mapv (2 : Nat), AV.s (SV.int IntKind.i64 fu)] (145 : Nat), AObj.vec (Con.typ [CK.arr IntKind.u8 (64 : Nat)] th) (169 : Nat), AObj.map (CK.arr IntKind.u8 (64 : Nat)) m])) (Tree.ite ((↑(List.length th) : Int) != (↑t.length : Int)) (Tree.ret [AObj.own [AV.vec (1 : Nat), AV.mapv (2 : Nat), AV.s (SV.int IntKind.i64 fu)] (145 : Nat), AObj.vec (Con.typ [CK.arr IntKind.u8 (64 : Nat)] th) (169 : Nat), AObj.map (CK.arr IntKind.u8 (64 : Nat)) m, AObj.own [AV.s (SV.ro (Con.strs t)), AV.s (SV.ro (Con.typ cK a)), AV.s (SV.int IntKind.i64 f)] (179 : Nat), AObj.vec (Con.ints IntKind.i64 (asK m)) (3 : Nat)] (AV.s (SV.blit false))) (Tree.need (Slf (some [AV.ptr (0 : Nat) (0 : Nat)])) (Tree.need (Slf (some [AObj.own [AV.vec (1 : Nat), AV.mapv (2 : Nat), AV.s (SV.int IntKind.i64 fu)] (145 : Nat), AObj.vec (Con.typ [CK.arr IntKind.u8 (64 : Nat)] th) (169 : Nat), AObj.map (CK.arr IntKind.u8 (64 : Nat)) m])) (Tree.need (Slf (some [AV.ptr (0 : Nat) (0 : Nat)])) (Tree.need (Slf (some [AObj.own [AV.s (SV.ro (Con.strs t)), AV.s (SV.ro (Con.typ cK a)), AV.s (SV.int IntKind.i64 f)] (179 : Nat)])) (Tree.ite (!(fu == (0 : Int)) == (f == (0 : Int))) (Tree.ret [AObj.own [AV.vec (1 : Nat), AV.mapv (2 : Nat), AV.s (SV.int IntKind.i64 fu)] (145 : Nat), AObj.vec (Con.typ [CK.arr IntKind.u8 (64 : Nat)] th) (169 : Nat), AObj.map (CK.arr IntKind.u8 (64 : Nat)) m, AObj.own [AV.s (SV.ro (Con.strs t)), AV.s (SV.ro (Con.typ cK a)), AV.s (SV.int IntKind.i64 f)] (179 : Nat), AObj.vec (Con.ints IntKind.i64 (asK m)) (3 : Nat)] (AV.s (SV.blit false))) (Tree.ite ((↑(asK m).length : Int) != (↑(List.length a) : Int)) (Tree.ret [AObj.own [AV.vec (1 : Nat), AV.mapv (2 : Nat), AV.s (SV.int IntKind.i64 fu)] (145 : Nat), AObj.vec (Con.typ [CK.arr IntKind.u8 (64 : Nat)] th) (169 : Nat), AObj.map (CK.arr IntKind.u8 (64 : Nat)) m, AObj.own [AV.s (SV.ro (Con.strs t)), AV.s (SV.ro (Con.typ cK a)), AV.s (SV.int IntKind.i64 f)] (179 : Nat), AObj.vec (Con.ints IntKind.i64 (asK m)) (3 : Nat)] (AV.s (SV.blit false))) (Tree.at (Cfg.mk (sl (87 : Nat) [((0 : Nat), AV.ptr (0 : Nat) (0 : Nat)), ((1 : Nat), AV.ptr (3 : Nat) (0 : Nat)), ((5 : Nat), AV.vec (4 : Nat)), ((6 : Nat), AV.s (SV.int IntKind.i64 (0 : Int)))]) [AObj.own [AV.vec (1 : Nat), AV.mapv (2 : Nat), AV.s (SV.int IntKind.i64 fu)] (145 : Nat), AObj.vec (Con.typ [CK.arr IntKind.u8 (64 : Nat)] th) (169 : Nat), AObj.map (CK.arr IntKind.u8 (64 : Nat)) m, AObj.own [AV.s (SV.ro (Con.strs t)), AV.s (SV.ro (Con.typ cK a)), AV.s (SV.int IntKind.i64 f)] (179 : Nat), AObj.vec (Con.ints IntKind.i64 (asK m)) (3 : Nat)] (hd Try.f71 (5 : Nat)) (Stk.mk none false (0 : Nat) [] (0 : Nat))))))))))))))) := by kernel_rfl
theorem loopLi5 (th : Th) (m : As) (fu : Int) (t : List ByteArray) (a : Kp) (f : Int) (l : List Int) (i : Int) : run P tabLi.sum Try.f71 nsLi (cLi5 th m fu t a f l i) =
  Tree.ite (decide (i < (↑l.length : Int))) (Tree.need ((0 : Int) ≤ i) (Tree.need (i < (↑l.length : Int)) (Tree.need ((0 : Int) ≤ i) (Tree.need (i < (↑(List.length a) : Int)) (Tree.ite (l.getD i.toNat (0 : Int) != kN (el a i)) (Tree.ret [AObj.own [AV.vec (1 : Nat), AV.mapv (2 : Nat), AV.s (SV.int IntKind.i64 fu)] (145 : Nat), AObj.vec (Con.typ [CK.arr IntKind.u8 (64 : Nat)] th) (169 : Nat), AObj.map (CK.arr IntKind.u8 (64 : Nat)) m, AObj.own [AV.s (SV.ro (Con.strs t)), AV.s (SV.ro (Con.typ cK a)), AV.s (SV.int IntKind.i64 f)] (179 : Nat), AObj.vec (Con.ints IntKind.i64 l) (3 : Nat)] (AV.s (SV.blit false))) (Tree.need (inI64 (i + (1 : Int))) (Tree.at (Cfg.mk (sl (87 : Nat) [((0 : Nat), AV.ptr (0 : Nat) (0 : Nat)), ((1 : Nat), AV.ptr (3 : Nat) (0 : Nat)), ((5 : Nat), AV.vec (4 : Nat)), ((6 : Nat), AV.s (SV.int IntKind.i64 (i + (1 : Int))))]) [AObj.own [AV.vec (1 : Nat), AV.mapv (2 : Nat), AV.s (SV.int IntKind.i64 fu)] (145 : Nat), AObj.vec (Con.typ [CK.arr IntKind.u8 (64 : Nat)] th) (169 : Nat), AObj.map (CK.arr IntKind.u8 (64 : Nat)) m, AObj.own [AV.s (SV.ro (Con.strs t)), AV.s (SV.ro (Con.typ cK a)), AV.s (SV.int IntKind.i64 f)] (179 : Nat), AObj.vec (Con.ints IntKind.i64 l) (3 : Nat)] (hd Try.f71 (5 : Nat)) (Stk.mk none false (0 : Nat) [] (0 : Nat)))))))))) (Tree.at (Cfg.mk (sl (87 : Nat) [((0 : Nat), AV.ptr (0 : Nat) (0 : Nat)), ((1 : Nat), AV.ptr (3 : Nat) (0 : Nat)), ((7 : Nat), AV.s (SV.int IntKind.i64 (-1 : Int)))]) [AObj.own [AV.vec (1 : Nat), AV.mapv (2 : Nat), AV.s (SV.int IntKind.i64 fu)] (145 : Nat), AObj.vec (Con.typ [CK.arr IntKind.u8 (64 : Nat)] th) (169 : Nat), AObj.map (CK.arr IntKind.u8 (64 : Nat)) m, AObj.own [AV.s (SV.ro (Con.strs t)), AV.s (SV.ro (Con.typ cK a)), AV.s (SV.int IntKind.i64 f)] (179 : Nat)] (hd Try.f71 (10 : Nat)) (Stk.mk none false (0 : Nat) [] (0 : Nat)))) := by kernel_rfl
theorem loopLi10 (th : Th) (m : As) (fu : Int) (t : List ByteArray) (a : Kp) (f n : Int) : run P tabLi.sum Try.f71 nsLi (cLi10 th m fu t a f n) =
  Tree.ite (decide (n ≤ (↑t.length : Int))) (Tree.need (Slf (some [AV.ptr (0 : Nat) (0 : Nat), AV.s (SV.int IntKind.i64 n)])) (Tree.need (Slf (some [AObj.own [AV.vec (1 : Nat), AV.mapv (2 : Nat), AV.s (SV.int IntKind.i64 fu)] (145 : Nat), AObj.vec (Con.typ [CK.arr IntKind.u8 (64 : Nat)] th) (169 : Nat), AObj.map (CK.arr IntKind.u8 (64 : Nat)) m])) (Tree.need (okD th m fu) (Tree.need (Slf (some [AV.ptr (0 : Nat) (0 : Nat), AV.s (SV.int IntKind.i64 n)])) (Tree.need (Slf (some [AObj.own [AV.s (SV.ro (Con.strs t)), AV.s (SV.ro (Con.typ cK a)), AV.s (SV.int IntKind.i64 f)] (179 : Nat)])) (Tree.need (okR t a f) (Tree.ite (!decide (rdS th m n = rrT t a n)) (Tree.ret [AObj.own [AV.vec (1 : Nat), AV.mapv (2 : Nat), AV.s (SV.int IntKind.i64 fu)] (145 : Nat), AObj.vec (Con.typ [CK.arr IntKind.u8 (64 : Nat)] th) (169 : Nat), AObj.map (CK.arr IntKind.u8 (64 : Nat)) m, AObj.own [AV.s (SV.ro (Con.strs t)), AV.s (SV.ro (Con.typ cK a)), AV.s (SV.int IntKind.i64 f)] (179 : Nat)] (AV.s (SV.blit false))) (Tree.ite (rdE th n != rrE t n) (Tree.ret [AObj.own [AV.vec (1 : Nat), AV.mapv (2 : Nat), AV.s (SV.int IntKind.i64 fu)] (145 : Nat), AObj.vec (Con.typ [CK.arr IntKind.u8 (64 : Nat)] th) (169 : Nat), AObj.map (CK.arr IntKind.u8 (64 : Nat)) m, AObj.own [AV.s (SV.ro (Con.strs t)), AV.s (SV.ro (Con.typ cK a)), AV.s (SV.int IntKind.i64 f)] (179 : Nat)] (AV.s (SV.blit false))) (Tree.need (inI64 (n + (1 : Int))) (Tree.at (Cfg.mk (sl (87 : Nat) [((0 : Nat), AV.ptr (0 : Nat) (0 : Nat)), ((1 : Nat), AV.ptr (3 : Nat) (0 : Nat)), ((7 : Nat), AV.s (SV.int IntKind.i64 (n + (1 : Int))))]) [AObj.own [AV.vec (1 : Nat), AV.mapv (2 : Nat), AV.s (SV.int IntKind.i64 fu)] (145 : Nat), AObj.vec (Con.typ [CK.arr IntKind.u8 (64 : Nat)] th) (169 : Nat), AObj.map (CK.arr IntKind.u8 (64 : Nat)) m, AObj.own [AV.s (SV.ro (Con.strs t)), AV.s (SV.ro (Con.typ cK a)), AV.s (SV.int IntKind.i64 f)] (179 : Nat)] (hd Try.f71 (10 : Nat)) (Stk.mk none false (0 : Nat) [] (0 : Nat))))))))))))) (Tree.ret [AObj.own [AV.vec (1 : Nat), AV.mapv (2 : Nat), AV.s (SV.int IntKind.i64 fu)] (145 : Nat), AObj.vec (Con.typ [CK.arr IntKind.u8 (64 : Nat)] th) (169 : Nat), AObj.map (CK.arr IntKind.u8 (64 : Nat)) m, AObj.own [AV.s (SV.ro (Con.strs t)), AV.s (SV.ro (Con.typ cK a)), AV.s (SV.int IntKind.i64 f)] (179 : Nat)] (AV.s (SV.blit true))) := by kernel_rfl
theorem rf2_ok {Z : Glob} : FnS P Z 70 sRf := by
  refine fnS_of_safe Try.func70 (by kernel_rfl) (fun x => Nat.le_of_ble_eq_true (by kernel_rfl)) ?_
  rintro ⟨(t : List ByteArray), (a : Kp), (f : Int), (k : Int), (n : Int), (s : ByteArray), (ks : List Bool), (c : Int)⟩ ⟨(hd : okR t a f), _⟩ X hX hz
  have hT : tabRf.Ok P Z := Tab.Ok.cons wh_ok.sum (Tab.Ok.cons (rw_ok.sum mWi) (Tab.Ok.cons (rf_ok.sum mR) (Tab.Ok.cons (rfu_ok.sum mRR) (Tab.Ok.cons (rc_ok.sum mRC) Tab.Ok.nil))))
  refine goS hz hX (by simp) hT Try.func70 (treeRf t a f k n s ks c) ?_
  repeat' (with_reducible (first | refine h_eq ?_ | refine h_need ?_ ?_ | refine h_dec (fun _ => ?_) (fun _ => ?_) | refine h_beq (fun _ => ?_) (fun _ => ?_) | refine h_bne (fun _ => ?_) (fun _ => ?_) | refine h_tt ?_ | refine h_ff ?_ | refine h_not ?_ | refine h_ite (fun _ => ?_) (fun _ => ?_) | refine h_both (fun _ => ?_) (fun _ => ?_) | refine h_ret ?_ | refine h_at ?_))
  all_goals first | assumption | omega | (exact ⟨by omega, by omega⟩) | skip
  all_goals refine endS 1 rfl (Nat.le_refl _) ?_ ?_ <;> simp [sfE, sfT, sfA, sfF, rnS, *]
end Ds

namespace Ds
open Go Go.Sx Go.Proofs Lf
theorem bytes_len (l : List Int) : (bytesStr l).size = l.length := by
  show (l.map _).toArray.size = _
  simp
theorem bytes_append (a b : List Int) : bytesStr (a ++ b) = bytesStr a ++ bytesStr b := by
  apply ByteArray.ext
  rw [ByteArray.data_append]
  show (List.map _ (a ++ b)).toArray = (List.map _ a).toArray ++ (List.map _ b).toArray
  rw [List.map_append, List.append_toArray]
theorem bytes_extract (l : List Int) (i j : Nat) : (bytesStr l).extract i j = bytesStr ((l.take j).drop i) := by
  apply ByteArray.ext
  rw [ByteArray.data_extract]
  show (List.map _ l).toArray.extract i j = (List.map _ _).toArray
  rw [List.extract_toArray, List.map_drop, List.map_take, List.extract_eq_take_drop]
  congr 1
  rw [List.drop_take]
theorem bytes_torn {old new : List Int} (ho : old.length = 64) (hn : new.length = 64) {cut : Nat} (hc : cut ≤ 64) : bytesStr (over old 0 cut new) = (bytesStr new).extract 0 cut ++ (bytesStr old).extract cut 64 := by
  rw [bytes_extract, bytes_extract, ← bytes_append]
  congr 1
  simp only [over, List.take_zero, List.nil_append, List.drop_zero, Nat.zero_add]
  rw [List.take_of_length_le (l := old) (by omega)]
theorem asK_perm (m : As) : (asK m).Perm (m.map (·.1)) := by unfold asK; rw [srtI_eq]; exact srtZ_perm _
theorem asK_nodup {n : Nat} {m : As} (h : okM n m) : (asK m).Nodup := (asK_perm m).nodup_iff.2 h.1
theorem asK_lt {n : Nat} {m : As} (h : okM n m) : (asK m).Pairwise (fun x y => x < y) := by
  have h1 : (asK m).Pairwise (fun x y => decide (x ≤ y) = true) := by unfold asK; rw [srtI_eq]; exact srtZ_sorted _
  refine List.Pairwise.imp₂ (fun a b (hab : decide (a ≤ b) = true) (hne : a ≠ b) => ?_) h1 (asK_nodup h)
  have := of_decide_eq_true hab
  omega
theorem asK_len (m : As) : (asK m).length = m.length := by rw [(asK_perm m).length_eq, List.length_map]
/-! the document's disk of a disk -/
def tOf (th : Th) : List ByteArray := th.map fun x => bytesStr (arrOf x)
def gK (m : As) (n : Int) : CL cK := kM n (bytesStr (nowA m n))
def aOf (m : As) : Kp := (asK m).map (gK m)
theorem tOf_len (th : Th) : (tOf th).length = th.length := List.length_map _
theorem tOf_get {th : Th} {i : Nat} (h : i < th.length) : (tOf th).getD i ByteArray.empty = bytesStr (arrOf (th.getD i (CL.d cS))) := by
  rw [getD_lt (by rw [tOf_len]; exact h), getD_lt h]
  simp [tOf]
theorem inL_of (th : Th) (n : Int) : inL (tOf th) n = inTh th n := by unfold inL inTh; rw [tOf_len]
theorem okR_of {th : Th} {m : As} {fu : Int} (h : okD th m fu) : okR (tOf th) (aOf m) fu := by
  have hm := keys_len h.m h.t.1
  refine ⟨by rw [tOf_len]; exact h.t.1, by rw [aOf, List.length_map, asK_len]; exact hm, fun x hx => ?_, h.f, fun i hi => ?_, fun x hx => ?_⟩
  · obtain ⟨n, hn, rfl⟩ := List.mem_map.1 hx
    rw [tOf_len]
    exact (nowA_len h.m hn).2
  · rw [tOf_len] at hi
    rw [tOf_get hi, bytes_len]
    exact h.t.2 i hi
  · obtain ⟨n, hn, rfl⟩ := List.mem_map.1 hx
    show (bytesStr (nowA m n)).size = 64
    rw [bytes_len]
    exact (nowA_len h.m hn).1
theorem mem_asK {m : As} {n : Int} : n ∈ asK m ↔ ∃ p ∈ m, p.1 = n := by rw [(asK_perm m).mem_iff, List.mem_map]
theorem find_map (m : As) (n : Int) : ∀ L : List Int, (L.map (gK m)).find? (fun x => kN x == n) = if n ∈ L then some (gK m n) else none
  | [] => rfl
  | y :: L => by
    rw [List.map_cons, List.find?_cons]
    by_cases e : y = n
    · subst e
      rw [show (kN (gK m y) == y) = true from by simp [gK], if_pos List.mem_cons_self]
    · rw [show (kN (gK m y) == n) = false from by simpa [gK] using e]
      simp only []
      rw [find_map m n L]
      by_cases h : n ∈ L
      · rw [if_pos h, if_pos (List.mem_cons_of_mem _ h)]
      · rw [if_neg h, if_neg (fun h2 => (List.mem_cons.1 h2).elim (fun e2 => e e2.symm) h)]
theorem mget_ask {m : As} (h : (m.map (·.1)).Nodup) {n : Int} : (n ∈ asK m → mget m n = some (nowA m n)) ∧ (n ∉ asK m → mget m n = none) := by
  refine ⟨fun hm => ?_, fun hm => mget_none fun p hp e => hm (mem_asK.2 ⟨p, hp, e⟩)⟩
  obtain ⟨p, hp, rfl⟩ := mem_asK.1 hm
  unfold nowA
  rw [mget_of h hp]
  rfl
theorem rd_of {th : Th} {m : As} {fu : Int} (h : okD th m fu) (n : Int) : rrT (tOf th) (aOf m) n = rdS th m n ∧ rrE (tOf th) n = rdE th n := by
  refine ⟨?_, by unfold rrE rdE; rw [inL_of]⟩
  unfold rrT rdS
  rw [inL_of]
  split
  · rename_i hi
    obtain ⟨h0, h1⟩ := inTh_iff.1 hi
    unfold aget aOf nowS
    rw [find_map]
    by_cases hm : n ∈ asK m
    · rw [if_pos hm, (mget_ask h.m.1).1 hm]
      rfl
    · rw [if_neg hm, (mget_ask h.m.1).2 hm]
      exact tOf_get (by omega)
  · rfl
theorem burn_of {f : Int} (h : okF f) : burnR f = burnF f := by
  unfold okF at h
  unfold burnR burnF imax
  repeat' split
  all_goals omega
theorem rwE_of (th : Th) (f n : Int) (s : ByteArray) : rwE (tOf th) f n s = wrE th f n s := by unfold rwE wrE; rw [inL_of]
theorem tOf_set (th : Th) (i : Nat) (ws : List Int) : tOf (th.set i (toArr ws)) = (tOf th).set i (bytesStr ws) := by
  unfold tOf
  rw [List.map_set]
  rfl
theorem crStep_of {th : Th} {m : As} (ht : okT th) {keep : List Bool} {torn cut : Int} (h0 : 0 ≤ cut) (h1 : cut ≤ 64) {k : Nat} {n : Int} (hn : (nowA m n).length = 64 ∧ 0 ≤ n ∧ n < (th.length : Int)) :
    (tOf th).set n.toNat (rcS keep torn cut ((tOf th).getD n.toNat ByteArray.empty) (bytesStr (nowA m n)) k) = tOf (crStep keep torn cut m th k n) := by
  have hl : n.toNat < th.length := by omega
  rw [tOf_get hl]
  unfold rcS crStep
  split
  · rw [tOf_set, bytes_torn (ht.2 _ hl) hn.1 (by omega)]
  · split
    · rw [tOf_set]
    · rw [← tOf_get hl]; exact set_same
theorem crT_of {m : As} {keep : List Bool} {torn cut : Int} (h0 : 0 ≤ cut) (h1 : cut ≤ 64) : ∀ (L : List Int) (k : Nat) (th : Th), okT th → (∀ n ∈ L, (nowA m n).length = 64 ∧ 0 ≤ n ∧ n < (th.length : Int)) →
    rcT keep torn cut (L.map (gK m)) k (tOf th) = tOf (crT keep torn cut m L k th)
  | [], k, th, _, _ => rfl
  | n :: L, k, th, ht, hL => by
    have hn := hL n List.mem_cons_self
    show rcT keep torn cut (L.map (gK m)) (k + 1) ((tOf th).set n.toNat (rcS keep torn cut ((tOf th).getD n.toNat ByteArray.empty) (bytesStr (nowA m n)) k)) = tOf (crT keep torn cut m L (k + 1) (crStep keep torn cut m th k n))
    rw [crStep_of ht h0 h1 hn]
    exact crT_of h0 h1 L (k + 1) _ (crStep_ok ht hn.2.1 hn.2.2 h0 h1 hn.1) fun x hx => by rw [crStep_len]; exact hL x (List.mem_cons_of_mem _ hx)
theorem rcH_of {th : Th} {m : As} {fu : Int} (h : okD th m fu) (keep : List Bool) (torn cut : Int) : rcH (tOf th) (aOf m) keep torn cut = tOf (crH th m keep torn cut) := by
  unfold rcH crH
  split
  · rename_i hc
    obtain ⟨h0, h1⟩ := okC_iff.1 hc
    exact crT_of h0 h1 _ _ _ h.t fun n hn => nowA_len h.m hn
  · rfl
theorem aOf_nil : aOf [] = [] := rfl
theorem putT_get (m : As) : ∀ (L : List Int), L.Nodup → (∀ n ∈ L, 0 ≤ n) → ∀ (t : List ByteArray) (i : Nat), i < t.length → (putT t (L.map (gK m))).getD i ByteArray.empty = if (i : Int) ∈ L then bytesStr (nowA m (i : Int)) else t.getD i ByteArray.empty
  | [], _, _, t, i, hi => rfl
  | n :: L, hn, h0, t, i, hi => by
    obtain ⟨hn1, hn2⟩ := List.nodup_cons.1 hn
    show (putT (t.set n.toNat (bytesStr (nowA m n))) (L.map (gK m))).getD i ByteArray.empty = _
    rw [putT_get m L hn2 (fun x hx => h0 x (List.mem_cons_of_mem _ hx)) _ i (by rw [List.length_set]; exact hi)]
    have hn0 := h0 n List.mem_cons_self
    by_cases e : (i : Int) = n
    · have e' : n.toNat = i := by omega
      rw [if_neg (by rw [e]; exact hn1), if_pos (by rw [e]; exact List.mem_cons_self), e', arr_set_self hi, e]
    · rw [arr_set_ne (by omega)]
      by_cases hm : (i : Int) ∈ L
      · rw [if_pos hm, if_pos (List.mem_cons_of_mem _ hm)]
      · rw [if_neg hm, if_neg (fun h => (List.mem_cons.1 h).elim e hm)]
theorem rfT_of {th : Th} {m : As} {fu : Int} (h : okD th m fu) : rfT (tOf th) (aOf m) fu = tOf (flT th m fu) := by
  unfold rfT flT
  split
  · rfl
  · refine List.ext_getElem (by rw [putT_len, tOf_len, tOf_len, ovl_len]) fun i h1 h2 => ?_
    have hi : i < th.length := by rw [putT_len, tOf_len] at h1; exact h1
    have := putT_get m (asK m) (asK_nodup h.m) (fun n hn => (nowA_len h.m hn).2.1) (tOf th) i (by rw [tOf_len]; exact hi)
    rw [← getD_lt h1 (d := ByteArray.empty), ← getD_lt h2 (d := ByteArray.empty), tOf_get (by rw [ovl_len]; exact hi), ovl_get hi]
    refine this.trans ?_
    unfold nowS
    by_cases hm : (i : Int) ∈ asK m
    · rw [if_pos hm, (mget_ask h.m.1).1 hm]
    · rw [if_neg hm, (mget_ask h.m.1).2 hm, tOf_get hi, Int.toNat_natCast]
end Ds

namespace Ds
open Go Go.Sx Go.Proofs Lf
def insK (n : Int) : List Int → List Int
  | [] => [n]
  | y :: l => if y ≥ n then (if y = n then y :: l else n :: y :: l) else y :: insK n l
theorem wrK_true (n : Int) (s : ByteArray) : ∀ l : Kp, (∀ x ∈ l, kN x ≠ n) → wrK n s l true = (l, true)
  | [], _ => rfl
  | x :: l, h => by
    unfold wrK
    simp only [Bool.true_or]
    rw [wrK_true n s l fun y hy => h y (List.mem_cons_of_mem _ hy), if_neg (by simp), if_pos (h x List.mem_cons_self)]
    rfl
theorem wrA_ins (m m' : As) (n : Int) (s : ByteArray) (hn : gK m' n = kM n s) : ∀ L : List Int, L.Pairwise (fun x y => x < y) → (∀ x ∈ L, x ≠ n → gK m' x = gK m x) → wrA (L.map (gK m)) n s = (insK n L).map (gK m')
  | [], _, _ => by
    show [kM n s] = [gK m' n]
    rw [hn]
  | y :: L, hL, hg => by
    obtain ⟨h1, h2⟩ := List.pairwise_cons.1 hL
    have ky : kN (gK m y) = y := rfl
    by_cases hy : y ≥ n
    · have hne : ∀ x ∈ L, x ≠ n := fun x hx => by have := h1 x hx; omega
      have hrest : L.map (gK m') = L.map (gK m) := List.map_congr_left fun x hx => hg x (List.mem_cons_of_mem _ hx) (hne x hx)
      have e1 : wrK n s (L.map (gK m)) true = (L.map (gK m), true) := wrK_true n s _ fun x hx => by
        obtain ⟨z, hz, rfl⟩ := List.mem_map.1 hx
        exact hne z hz
      have e2 : (false || decide (kN (gK m y) ≥ n)) = true := by rw [ky]; simpa using hy
      unfold wrA insK
      rw [List.map_cons]
      simp only [wrK]
      rw [e2, e1, if_pos ⟨by rw [ky]; exact hy, trivial⟩, if_pos hy, ky]
      simp only [Bool.true_eq_false, if_false, List.append_nil]
      by_cases e : y = n
      · rw [if_neg (fun h => h e), if_pos e, List.map_cons, hrest, e, hn]
        rfl
      · rw [if_pos e, if_neg e, List.map_cons, List.map_cons, hrest, hn, hg y List.mem_cons_self e]
        rfl
    · have ih := wrA_ins m m' n s hn L h2 fun x hx => hg x (List.mem_cons_of_mem _ hx)
      have e2 : (false || decide (kN (gK m y) ≥ n)) = false := by rw [ky]; simpa using hy
      have ei : insK n (y :: L) = y :: insK n L := by rw [insK, if_neg hy]
      rw [ei, List.map_cons, List.map_cons, hg y List.mem_cons_self (by omega), ← ih]
      unfold wrA
      simp only [wrK]
      rw [e2, if_neg (fun h => hy (by have := h.1; rw [ky] at this; exact this)), ky, if_pos (show y ≠ n by omega)]
      simp
theorem insK_mem (n : Int) : ∀ L : List Int, L.Pairwise (fun x y => x < y) → n ∈ L → insK n L = L
  | [], _, h => by cases h
  | y :: L, hL, h => by
    obtain ⟨h1, h2⟩ := List.pairwise_cons.1 hL
    unfold insK
    by_cases e : y = n
    · rw [if_pos (by omega), if_pos e]
    · have hm : n ∈ L := (List.mem_cons.1 h).resolve_left fun h => e h.symm
      have := h1 n hm
      rw [if_neg (by omega), insK_mem n L h2 hm]
theorem insK_not (n : Int) : ∀ L : List Int, n ∉ L → insK n L = insZ n L
  | [], _ => rfl
  | y :: L, h => by
    have e : y ≠ n := fun e => h (e ▸ List.mem_cons_self)
    unfold insK insZ
    by_cases hy : y ≥ n
    · rw [if_pos hy, if_neg e, decide_eq_true hy, cond_true]
    · rw [if_neg hy, decide_eq_false hy, cond_false, insK_not n L fun hm => h (List.mem_cons_of_mem _ hm)]
theorem asK_put {N : Nat} {m : As} (h : okM N m) (n : Int) (v : kS.V) : asK (mput m n v) = insK n (asK m) := by
  by_cases hm : n ∈ asK m
  · rw [insK_mem n _ (asK_lt h) hm]
    unfold asK
    have hh : mhas m n = true := by rw [mget_has, (mget_ask h.1).1 hm]; rfl
    unfold mput
    rw [if_pos hh, map_keys_put]
  · rw [insK_not n _ hm]
    have hh : mhas m n = false := by rw [mget_has, (mget_ask h.1).2 hm]; rfl
    have e : mput m n v = m ++ [(n, v)] := by unfold mput; rw [if_neg (by rw [hh]; simp)]
    unfold asK
    rw [e, List.map_append, srtI_eq]
    have hp : (m.map (·.1) ++ [n]).Perm (n :: m.map (·.1)) := List.perm_append_singleton _ _
    rw [show (List.map (fun x : Int × kS.V => x.1) [(n, v)]) = [n] from rfl, srtZ_of hp, ← srtI_eq]
    rfl
theorem nowA_put {m : As} (h : (m.map (·.1)).Nodup) (n x : Int) (v : kS.V) : nowA (mput m n v) x = if x = n then v else nowA m x := by
  have e := mget_put h (n := n) (x := x) (v := v)
  show (mget (mput m n v) x).getD kS.d = _
  rw [e]
  by_cases hx : x = n
  · rw [if_pos hx]; exact (if_pos hx).symm
  · rw [if_neg hx]; exact (if_neg hx).symm
theorem rwA_of {th : Th} {m : As} {fu : Int} (h : okD th m fu) (n : Int) (s : ByteArray) : rwA (tOf th) (aOf m) fu n s = aOf (wrM th m fu n s) := by
  unfold rwA wrM
  rw [rwE_of]
  split
  · have hv := fun x => nowA_put h.m.1 n x (strInts s)
    refine Eq.trans (wrA_ins m (mput m n (strInts s)) n s ?_ _ (asK_lt h.m) fun x _ hx => ?_) (congrArg (List.map (gK (mput m n (strInts s)))) (asK_put h.m n (strInts s))).symm
    · exact (congrArg (fun z => kM n (bytesStr z)) ((hv n).trans (if_pos rfl))).trans (congrArg (kM n) (bytes_strInts s))
    · exact congrArg (fun z => kM x (bytesStr z)) ((hv x).trans (if_neg hx))
  · rfl
theorem rwF_of {th : Th} {fu : Int} (h : okF fu) (n : Int) (s : ByteArray) : rwF (tOf th) fu n s = wrF th fu n s := by
  unfold rwF wrF
  rw [inL_of, burn_of h]
theorem st_of {th : Th} {m : As} {fu : Int} (h : okD th m fu) (k n : Int) (s : ByteArray) (ks : List Bool) (c : Int) :
    sfT (tOf th) (aOf m) fu k n ks c = tOf (stT th m fu k n ks c) ∧ sfA (tOf th) (aOf m) fu k n s c = aOf (stM th m fu k n s c) ∧ sfF (tOf th) fu k n s c = stF th fu k n s c ∧ sfE (tOf th) fu k n s c = stE fu k n th s c := by
  refine ⟨?_, ?_, ?_, ?_⟩
  · unfold sfT stT
    repeat' split
    all_goals first | rfl | exact rfT_of h | exact rcH_of h _ _ _
  · unfold sfA stM
    repeat' split
    all_goals first | rfl | exact rwA_of h _ _ | (unfold rfA flM; split <;> rfl) | (unfold rcA crM; split <;> rfl)
  · unfold sfF stF
    repeat' split
    all_goals first | rfl | exact rwF_of h.f _ _ | exact burn_of h.f
  · unfold sfE stE
    repeat' split
    all_goals first | rfl | exact rwE_of _ _ _ _
/-! like -/
abbrev sLi : Spec (Th × As × Int) := ⟨fun _ => [.ptr 0 0, .ptr 3 0], fun (th, m, fu) => hLi th m fu (tOf th) (aOf m) fu, fun (th, m, fu) => [okD th m fu], fun (th, m, fu) => hLi th m fu (tOf th) (aOf m) fu, fun _ => .s (.bool true)⟩
theorem li_ok {Z : Glob} : FnS P Z 71 sLi := by
  refine fnS_of_safe Try.func71 (by kernel_rfl) (fun x => Nat.le_of_ble_eq_true (by kernel_rfl)) ?_
  rintro ⟨(th : Th), (m : As), (fu : Int)⟩ ⟨(hd : okD th m fu), _⟩ X hX hz
  have hT : tabLi.Ok P Z := Tab.Ok.cons (aside_ok.sum mAs) (Tab.Ok.cons (sectors_ok.sum mAs) (Tab.Ok.cons (dead_ok.sum mAs) (Tab.Ok.cons (read_ok.sum mRd) (Tab.Ok.cons (rde_ok.sum mR) (Tab.Ok.cons (rr_ok.sum mRR) Tab.Ok.nil)))))
  have hns : ∀ x ∈ nsLi, (sLi.heap (th, m, fu)).length ≤ x.2.m := by intro y hy; simp [nsLi] at hy; rcases hy with rfl | rfl <;> exact Nat.le_refl _
  have hr := okR_of hd
  have hl := tOf_len th
  have h4 := hd.t.1
  have hm := keys_len hd.m hd.t.1
  rw [← asK_len] at hm
  have hal : (aOf m).length = (asK m).length := List.length_map _
  have two : ∀ (j : Nat) (n : Int), n + j = th.length + 1 → -1 ≤ n → Safe P 71 X (EndS sLi (th, m, fu)) (cLi10 th m fu (tOf th) (aOf m) fu n) := by
    intro j
    induction j with
    | zero =>
      intro n hn h1
      exact goS hz hX hns hT Try.func71 (loopLi10 th m fu (tOf th) (aOf m) fu n) ⟨fun h => absurd (of_decide_eq_true h) (by omega), fun _ => endS 4 rfl (Nat.le_refl _) rfl rfl⟩
    | succ j ih =>
      intro n hn h1
      obtain ⟨e1, e2⟩ := rd_of hd n
      have next := ih (n + 1) (by omega) (by omega)
      refine goS hz hX hns hT Try.func71 (loopLi10 th m fu (tOf th) (aOf m) fu n) ?_
      rw [e1, e2]
      repeat' (with_reducible (first | refine h_eq ?_ | refine h_need ?_ ?_ | refine h_dec (fun _ => ?_) (fun _ => ?_) | refine h_beq (fun _ => ?_) (fun _ => ?_) | refine h_bne (fun _ => ?_) (fun _ => ?_) | refine h_tt ?_ | refine h_ff ?_ | refine h_not ?_ | refine h_ite (fun _ => ?_) (fun _ => ?_) | refine h_both (fun _ => ?_) (fun _ => ?_) | refine h_ret ?_ | refine h_at ?_))
      all_goals first | trivial | assumption | omega | exact ⟨by omega, by omega⟩ | exact next | exact absurd rfl (by assumption)
  have one : ∀ (j k : Nat), k + j = (asK m).length → Safe P 71 X (EndS sLi (th, m, fu)) (cLi5 th m fu (tOf th) (aOf m) fu (asK m) (k : Int)) := by
    intro j
    induction j with
    | zero =>
      intro k hk
      refine goS hz hX hns hT Try.func71 (loopLi5 th m fu (tOf th) (aOf m) fu (asK m) k) ⟨fun h => absurd (of_decide_eq_true h) (by omega), fun _ => ?_⟩
      exact two (th.length + 2) (-1) (by omega) (by omega)
    | succ j ih =>
      intro k hk
      have hlt : k < (asK m).length := by omega
      have next := ih (k + 1) (by omega)
      have hg : kN (el (aOf m) (k : Int)) = (asK m).getD k 0 := by
        rw [el_lt (by rw [hal]; exact hlt), getD_lt hlt]
        simp [aOf, gK]
      refine goS hz hX hns hT Try.func71 (loopLi5 th m fu (tOf th) (aOf m) fu (asK m) k) ?_
      rw [hg, Int.toNat_natCast]
      repeat' (with_reducible (first | refine h_eq ?_ | refine h_need ?_ ?_ | refine h_dec (fun _ => ?_) (fun _ => ?_) | refine h_beq (fun _ => ?_) (fun _ => ?_) | refine h_bne (fun _ => ?_) (fun _ => ?_) | refine h_tt ?_ | refine h_ff ?_ | refine h_not ?_ | refine h_ite (fun _ => ?_) (fun _ => ?_) | refine h_both (fun _ => ?_) (fun _ => ?_) | refine h_ret ?_ | refine h_at ?_))
      all_goals first | trivial | assumption | omega | exact ⟨by omega, by omega⟩ | exact next | exact absurd rfl (by assumption)
  refine goS hz hX hns hT Try.func71 (treeLi th m fu (tOf th) (aOf m) fu) ?_
  have o := one (asK m).length 0 (by omega)
  repeat' (with_reducible (first | refine h_eq ?_ | refine h_need ?_ ?_ | refine h_dec (fun _ => ?_) (fun _ => ?_) | refine h_beq (fun _ => ?_) (fun _ => ?_) | refine h_bne (fun _ => ?_) (fun _ => ?_) | refine h_tt ?_ | refine h_ff ?_ | refine h_not ?_ | refine h_ite (fun _ => ?_) (fun _ => ?_) | refine h_both (fun _ => ?_) (fun _ => ?_) | refine h_ret ?_ | refine h_at ?_))
  all_goals first | trivial | assumption | omega | exact o | (exfalso; simp_all; done)
end Ds

namespace Ds
open Go Go.Sx Go.Proofs Lf
def mLi : List AV → RM ((Th × As × Int) × List Nat)
  | [a, .ptr id 0] => (mAs [a]).bind fun (x, σ) => .ret (x, σ ++ [id])
  | _ => .fail "no disks"
def mRf : List AV → RM ((List ByteArray × Kp × Int × Int × Int × ByteArray × List Bool × Int) × List Nat)
  | [.agg [.s (.int _ k), .s (.int _ n), .s (.str s), .s (.ro (.bools ks)), .s (.int _ c)], .ptr id 0] => (mR [.ptr id 0]).bind fun ((t, a, f), σ) => .ret ((t, a, f, k, n, s, ks, c), σ)
  | _ => .fail "no step"
def tabPl : Tab := (70, sumS sRf mRf) :: (71, sumS sLi mLi) :: tabLw
abbrev hPl (th : Th) (m : As) (fu : Int) (t : List ByteArray) (a : Kp) (f : Int) : List AObj := [obD 2 3 fu, obR t a f, .vec (.typ cS th) eS, .map kS m]
abbrev fNw : FuncId := 68
def nsPl : List (Nat × Norm) := [(8, ⟨[], [1, 5, 7, 9], 0, [(1, 0, true, .strs [], 9), (1, 1, true, .typ cK [], eK)]⟩), ((fNw + 1) * 100000 + 5, ⟨[], [0, 4, 5, 28, 32, 33], 0, []⟩)]
noncomputable def cPl (l : List (CL cSt)) (th : Th) (m : As) (fu : Int) (t : List ByteArray) (a : Kp) (f i : Int) : Cfg := ⟨sl 83 [(1, avSteps l), (5, .ptr 0 0), (7, .ptr 1 0), (9, avI i)], hPl th m fu t a f, hd Try.f15 8, {}⟩
noncomputable def cNw (l : List (CL cSt)) (sec : Int) (zs : List ByteArray) (th : Th) (m : As) (fu i : Int) : Cfg := ⟨sl 110 [(0, avI sec), (4, .vec 0), (5, avI i), (28, avSteps l), (32, .ptr 1 0), (33, avI 0)], [.vec (.strs zs) 9, obD 2 3 fu, .vec (.typ cS th) eS, .map kS m],
  hd Try.f68 5, ⟨some fNw, false, 0, [inCall Try.f15 none 4 1 false 0], 0⟩⟩
abbrev inP : List FuncId := [28, fNw]
theorem treePl (sec : Int) (l : List (CL cSt)) : run P tabPl.sum Try.f15 nsPl (start Try.f15 [avI sec, avSteps l] []) inP =
  Tree.need (Slf (some [AV.s (SV.ro (Con.typ cSt l))])) (Tree.need NoObj (Tree.need (l.length ≤ (9223372036854775807 : Nat)) (Tree.both True (l.length - (300 : Nat) = (0 : Nat)) (Tree.ret [] (AV.s (SV.blit true))) (Tree.ite (decide (sec > (40 : Int))) (Tree.ret [] (AV.s (SV.blit true))) (Tree.ite (decide (sec < (1 : Int))) (Tree.ite (decide (sec < (1 : Int))) (Tree.ret [] (AV.s (SV.blit true))) (Tree.ite (decide (sec > (4096 : Int))) (Tree.ret [] (AV.s (SV.blit true))) (Tree.need ((0 : Int) ≤ sec) (Tree.need (sec ≤ sec) (Tree.need (sec ≤ (1073741824 : Int)) (Tree.at (Cfg.mk (sl (110 : Nat) [((0 : Nat), AV.s (SV.int IntKind.i64 sec)), ((4 : Nat), AV.vec (0 : Nat)), ((5 : Nat), AV.s (SV.int IntKind.i64 (0 : Int))), ((28 : Nat), AV.s (SV.ro (Con.typ cSt l))), ((32 : Nat), AV.s SV.nilp), ((33 : Nat), AV.s (SV.int IntKind.i64 (1 : Int)))]) [AObj.vec (Con.strs (List.replicate sec.toNat ByteArray.empty)) (9 : Nat)] (hd Try.f68 (5 : Nat)) (Stk.mk (some (68 : Nat)) false (0 : Nat) [inCall Try.f15 none (4 : Nat) (1 : Nat) false (0 : Nat)] (0 : Nat))))))))) (Tree.ite (decide (sec > (4096 : Int))) (Tree.ite (decide (sec < (1 : Int))) (Tree.ret [] (AV.s (SV.blit true))) (Tree.ite (decide (sec > (4096 : Int))) (Tree.ret [] (AV.s (SV.blit true))) (Tree.need ((0 : Int) ≤ sec) (Tree.need (sec ≤ sec) (Tree.need (sec ≤ (1073741824 : Int)) (Tree.at (Cfg.mk (sl (110 : Nat) [((0 : Nat), AV.s (SV.int IntKind.i64 sec)), ((4 : Nat), AV.vec (0 : Nat)), ((5 : Nat), AV.s (SV.int IntKind.i64 (0 : Int))), ((28 : Nat), AV.s (SV.ro (Con.typ cSt l))), ((32 : Nat), AV.s SV.nilp), ((33 : Nat), AV.s (SV.int IntKind.i64 (1 : Int)))]) [AObj.vec (Con.strs (List.replicate sec.toNat ByteArray.empty)) (9 : Nat)] (hd Try.f68 (5 : Nat)) (Stk.mk (some (68 : Nat)) false (0 : Nat) [inCall Try.f15 none (4 : Nat) (1 : Nat) false (0 : Nat)] (0 : Nat))))))))) (Tree.need ((0 : Int) ≤ sec) (Tree.need (sec ≤ sec) (Tree.need (sec ≤ (1073741824 : Int)) (Tree.ite (decide (sec < (1 : Int))) (Tree.ret [AObj.vec (Con.typ [CK.arr IntKind.u8 (64 : Nat)] (List.replicate sec.toNat (CL.d [CK.arr IntKind.u8 (64 : Nat)]))) (169 : Nat), AObj.map (CK.arr IntKind.u8 (64 : Nat)) [], AObj.own [AV.vec (0 : Nat), AV.mapv (1 : Nat), AV.s (SV.ilit IntKind.i64 (-1 : Int))] (145 : Nat)] (AV.s (SV.blit false))) (Tree.ite (decide (sec > (4096 : Int))) (Tree.ret [AObj.vec (Con.typ [CK.arr IntKind.u8 (64 : Nat)] (List.replicate sec.toNat (CL.d [CK.arr IntKind.u8 (64 : Nat)]))) (169 : Nat), AObj.map (CK.arr IntKind.u8 (64 : Nat)) [], AObj.own [AV.vec (0 : Nat), AV.mapv (1 : Nat), AV.s (SV.ilit IntKind.i64 (-1 : Int))] (145 : Nat)] (AV.s (SV.blit false))) (Tree.need ((0 : Int) ≤ sec) (Tree.need (sec ≤ sec) (Tree.need (sec ≤ (1073741824 : Int)) (Tree.at (Cfg.mk (sl (110 : Nat) [((0 : Nat), AV.s (SV.int IntKind.i64 sec)), ((4 : Nat), AV.vec (0 : Nat)), ((5 : Nat), AV.s (SV.int IntKind.i64 (0 : Int))), ((28 : Nat), AV.s (SV.ro (Con.typ cSt l))), ((32 : Nat), AV.ptr (1 : Nat) (0 : Nat)), ((33 : Nat), AV.s (SV.int IntKind.i64 (0 : Int)))]) [AObj.vec (Con.strs (List.replicate sec.toNat ByteArray.empty)) (9 : Nat), AObj.own [AV.vec (2 : Nat), AV.mapv (3 : Nat), AV.s (SV.int IntKind.i64 (-1 : Int))] (145 : Nat), AObj.vec (Con.typ [CK.arr IntKind.u8 (64 : Nat)] (List.replicate sec.toNat (CL.d [CK.arr IntKind.u8 (64 : Nat)]))) (169 : Nat), AObj.map (CK.arr IntKind.u8 (64 : Nat)) []] (hd Try.f68 (5 : Nat)) (Stk.mk (some (68 : Nat)) false (0 : Nat) [inCall Try.f15 none (4 : Nat) (1 : Nat) false (0 : Nat)] (0 : Nat)))))))))))))))))) := by kernel_rfl
theorem loopNw (l : List (CL cSt)) (sec : Int) (zs : List ByteArray) (th : Th) (m : As) (fu i : Int) : run P tabPl.sum Try.f15 nsPl (cNw l sec zs th m fu i) inP =
  Tree.ite (decide (i < sec)) (Tree.need ((0 : Int) ≤ (64 : Int)) (Tree.need ((64 : Int) ≤ (64 : Int)) (Tree.need ((64 : Int) ≤ (1073741824 : Int)) (Tree.need ((0 : Int) ≤ i) (Tree.need (i < (↑zs.length : Int)) (Tree.need (inI64 (i + (1 : Int))) (Tree.at (Cfg.mk (sl (110 : Nat) [((0 : Nat), AV.s (SV.int IntKind.i64 sec)), ((4 : Nat), AV.vec (0 : Nat)), ((5 : Nat), AV.s (SV.int IntKind.i64 (i + (1 : Int)))), ((28 : Nat), AV.s (SV.ro (Con.typ cSt l))), ((32 : Nat), AV.ptr (1 : Nat) (0 : Nat)), ((33 : Nat), AV.s (SV.int IntKind.i64 (0 : Int)))]) [AObj.vec (Con.strs (zs.set i.toNat (bytesStr (List.replicate (Int.toNat (64 : Int)) (0 : Int))))) (9 : Nat), AObj.own [AV.vec (2 : Nat), AV.mapv (3 : Nat), AV.s (SV.int IntKind.i64 fu)] (145 : Nat), AObj.vec (Con.typ [CK.arr IntKind.u8 (64 : Nat)] th) (169 : Nat), AObj.map (CK.arr IntKind.u8 (64 : Nat)) m] (hd Try.f68 (5 : Nat)) (Stk.mk (some (68 : Nat)) false (0 : Nat) [inCall Try.f15 none (4 : Nat) (1 : Nat) false (0 : Nat)] (0 : Nat)))))))))) (Tree.ite false (Tree.ite true (Tree.ret [AObj.vec (Con.strs zs) (9 : Nat), AObj.own [AV.vec (2 : Nat), AV.mapv (3 : Nat), AV.s (SV.int IntKind.i64 fu)] (145 : Nat), AObj.vec (Con.typ [CK.arr IntKind.u8 (64 : Nat)] th) (169 : Nat), AObj.map (CK.arr IntKind.u8 (64 : Nat)) m, AObj.own [AV.vec (0 : Nat), AV.emp, AV.s (SV.ilit IntKind.i64 (-1 : Int))] (179 : Nat)] (AV.s (SV.blit false))) (Tree.ret [AObj.vec (Con.strs zs) (9 : Nat), AObj.own [AV.vec (2 : Nat), AV.mapv (3 : Nat), AV.s (SV.int IntKind.i64 fu)] (145 : Nat), AObj.vec (Con.typ [CK.arr IntKind.u8 (64 : Nat)] th) (169 : Nat), AObj.map (CK.arr IntKind.u8 (64 : Nat)) m, AObj.own [AV.vec (0 : Nat), AV.emp, AV.s (SV.ilit IntKind.i64 (-1 : Int))] (179 : Nat)] (AV.s (SV.blit false)))) (Tree.ite false (Tree.ite true (Tree.ret [AObj.vec (Con.strs zs) (9 : Nat), AObj.own [AV.vec (2 : Nat), AV.mapv (3 : Nat), AV.s (SV.int IntKind.i64 fu)] (145 : Nat), AObj.vec (Con.typ [CK.arr IntKind.u8 (64 : Nat)] th) (169 : Nat), AObj.map (CK.arr IntKind.u8 (64 : Nat)) m, AObj.own [AV.vec (0 : Nat), AV.emp, AV.s (SV.ilit IntKind.i64 (-1 : Int))] (179 : Nat)] (AV.s (SV.blit false))) (Tree.ret [AObj.vec (Con.strs zs) (9 : Nat), AObj.own [AV.vec (2 : Nat), AV.mapv (3 : Nat), AV.s (SV.int IntKind.i64 fu)] (145 : Nat), AObj.vec (Con.typ [CK.arr IntKind.u8 (64 : Nat)] th) (169 : Nat), AObj.map (CK.arr IntKind.u8 (64 : Nat)) m, AObj.own [AV.vec (0 : Nat), AV.emp, AV.s (SV.ilit IntKind.i64 (-1 : Int))] (179 : Nat)] (AV.s (SV.blit false)))) (Tree.at (Cfg.mk (sl (83 : Nat) [((1 : Nat), AV.s (SV.ro (Con.typ cSt l))), ((5 : Nat), AV.ptr (0 : Nat) (0 : Nat)), ((7 : Nat), AV.ptr (1 : Nat) (0 : Nat)), ((9 : Nat), AV.s (SV.int IntKind.i64 (0 : Int)))]) [AObj.own [AV.vec (2 : Nat), AV.mapv (3 : Nat), AV.s (SV.int IntKind.i64 fu)] (145 : Nat), AObj.own [AV.s (SV.ro (Con.strs zs)), AV.s (SV.ro (Con.typ cK [])), AV.s (SV.int IntKind.i64 (-1 : Int))] (179 : Nat), AObj.vec (Con.typ [CK.arr IntKind.u8 (64 : Nat)] th) (169 : Nat), AObj.map (CK.arr IntKind.u8 (64 : Nat)) m] (hd Try.f15 (8 : Nat)) (Stk.mk none false (0 : Nat) [] (0 : Nat)))))) := by kernel_rfl
theorem loopPl (l : List (CL cSt)) (th : Th) (m : As) (fu : Int) (t : List ByteArray) (a : Kp) (f i : Int) : run P tabPl.sum Try.f15 nsPl (cPl l th m fu t a f i) inP =
  Tree.ite (decide (i < (↑l.length : Int)))
  (Tree.need (Slf (some [AV.ptr (0 : Nat) (0 : Nat)]))
    (Tree.need (Slf (some [AObj.own [AV.vec (1 : Nat), AV.mapv (2 : Nat), AV.s (SV.int IntKind.i64 fu)] (145 : Nat), AObj.vec (Con.typ [CK.arr IntKind.u8 (64 : Nat)] th) (169 : Nat), AObj.map (CK.arr IntKind.u8 (64 : Nat)) m]))
      (Tree.need (okD th m fu)
        (Tree.need (Slf (some [AV.ptr (0 : Nat) (0 : Nat), AV.s (SV.int IntKind.i64 (9 : Int))]))
          (Tree.need (Slf (some [AObj.own [AV.vec (1 : Nat), AV.mapv (2 : Nat), AV.s (SV.int IntKind.i64 fu)] (145 : Nat), AObj.vec (Con.typ [CK.arr IntKind.u8 (64 : Nat)] th) (169 : Nat), AObj.map (CK.arr IntKind.u8 (64 : Nat)) m]))
            (Tree.need ((0 : Int) ≤ (64 : Int))
              (Tree.need ((64 : Int) ≤ (64 : Int))
                (Tree.need ((64 : Int) ≤ (1073741824 : Int))
                  (Tree.need (Slf (some [AV.ptr (0 : Nat) (0 : Nat), AV.s (SV.int IntKind.i64 (0 : Int)), AV.s (SV.str (bytesStr (List.replicate (Int.toNat (64 : Int)) (0 : Int))))]))
                    (Tree.need (Slf (some [AObj.own [AV.vec (1 : Nat), AV.mapv (2 : Nat), AV.s (SV.int IntKind.i64 (fuF fu (9 : Int)))] (145 : Nat), AObj.vec (Con.typ [CK.arr IntKind.u8 (64 : Nat)] th) (169 : Nat), AObj.map (CK.arr IntKind.u8 (64 : Nat)) m]))
                      (Tree.need (okD th m (fuF fu (9 : Int)))
                        (Tree.need (Slf (some [AV.ptr (0 : Nat) (0 : Nat)]))
                          (Tree.need (Slf (some [AObj.own [AV.vec (1 : Nat), AV.mapv (2 : Nat), AV.s (SV.int IntKind.i64 (wrF th (fuF fu (9 : Int)) (0 : Int) (bytesStr (List.replicate (Int.toNat (64 : Int)) (0 : Int)))))] (145 : Nat), AObj.vec (Con.typ [CK.arr IntKind.u8 (64 : Nat)] th) (169 : Nat), AObj.map (CK.arr IntKind.u8 (64 : Nat)) (wrM th m (fuF fu (9 : Int)) (0 : Int) (bytesStr (List.replicate (Int.toNat (64 : Int)) (0 : Int))))]))
                            (Tree.need (okD th (wrM th m (fuF fu (9 : Int)) (0 : Int) (bytesStr (List.replicate (Int.toNat (64 : Int)) (0 : Int)))) (wrF th (fuF fu (9 : Int)) (0 : Int) (bytesStr (List.replicate (Int.toNat (64 : Int)) (0 : Int)))))
                              (Tree.need (Slf (some [AV.ptr (0 : Nat) (0 : Nat), AV.s (SV.int IntKind.i64 (1 : Int)), AV.s (SV.str (whS (ByteArray.mk #[(99 : UInt8), (111 : UInt8), (112 : UInt8), (121 : UInt8)]) (0 : Int)))]))
                                (Tree.need (Slf (some [AObj.own [AV.vec (1 : Nat), AV.mapv (2 : Nat), AV.s (SV.int IntKind.i64 (burnF (wrF th (fuF fu (9 : Int)) (0 : Int) (bytesStr (List.replicate (Int.toNat (64 : Int)) (0 : Int))))))] (145 : Nat), AObj.vec (Con.typ [CK.arr IntKind.u8 (64 : Nat)] (flT th (wrM th m (fuF fu (9 : Int)) (0 : Int) (bytesStr (List.replicate (Int.toNat (64 : Int)) (0 : Int)))) (wrF th (fuF fu (9 : Int)) (0 : Int) (bytesStr (List.replicate (Int.toNat (64 : Int)) (0 : Int)))))) (169 : Nat), AObj.map (CK.arr IntKind.u8 (64 : Nat)) (flM (wrM th m (fuF fu (9 : Int)) (0 : Int) (bytesStr (List.replicate (Int.toNat (64 : Int)) (0 : Int)))) (wrF th (fuF fu (9 : Int)) (0 : Int) (bytesStr (List.replicate (Int.toNat (64 : Int)) (0 : Int)))))]))
                                  (Tree.need (okD (flT th (wrM th m (fuF fu (9 : Int)) (0 : Int) (bytesStr (List.replicate (Int.toNat (64 : Int)) (0 : Int)))) (wrF th (fuF fu (9 : Int)) (0 : Int) (bytesStr (List.replicate (Int.toNat (64 : Int)) (0 : Int))))) (flM (wrM th m (fuF fu (9 : Int)) (0 : Int) (bytesStr (List.replicate (Int.toNat (64 : Int)) (0 : Int)))) (wrF th (fuF fu (9 : Int)) (0 : Int) (bytesStr (List.replicate (Int.toNat (64 : Int)) (0 : Int))))) (burnF (wrF th (fuF fu (9 : Int)) (0 : Int) (bytesStr (List.replicate (Int.toNat (64 : Int)) (0 : Int))))))
                                    (Tree.need ((0 : Int) ≤ i)
                                      (Tree.need (i < (↑l.length : Int))
                                        (Tree.need (Slf (some [AV.agg [AV.s (SV.int IntKind.u8 (stK (el l i))), AV.s (SV.int IntKind.i64 (stN (el l i))), AV.s (SV.str (stS (el l i))), AV.s (SV.ro (Con.bools (stB (el l i)))), AV.s (SV.int IntKind.i64 (stC (el l i)))], AV.ptr (0 : Nat) (0 : Nat)]))
                                          (Tree.need (Slf (some [AObj.own [AV.vec (1 : Nat), AV.mapv (2 : Nat), AV.s (SV.int IntKind.i64 fu)] (145 : Nat), AObj.vec (Con.typ [CK.arr IntKind.u8 (64 : Nat)] th) (169 : Nat), AObj.map (CK.arr IntKind.u8 (64 : Nat)) m]))
                                            (Tree.need (okD th m fu)
                                              (Tree.need ((0 : Int) ≤ i)
                                                (Tree.need (i < (↑l.length : Int))
                                                  (Tree.need (Slf (some [AV.agg [AV.s (SV.int IntKind.u8 (stK (el l i))), AV.s (SV.int IntKind.i64 (stN (el l i))), AV.s (SV.str (stS (el l i))), AV.s (SV.ro (Con.bools (stB (el l i)))), AV.s (SV.int IntKind.i64 (stC (el l i)))], AV.ptr (0 : Nat) (0 : Nat)]))
                                                    (Tree.need (Slf (some [AObj.own [AV.s (SV.ro (Con.strs t)), AV.s (SV.ro (Con.typ cK a)), AV.s (SV.int IntKind.i64 f)] (179 : Nat)]))
                                                      (Tree.need (okR t a f)
                                                        (Tree.ite (stE fu (stK (el l i)) (stN (el l i)) th (stS (el l i)) (stC (el l i)) != sfE t f (stK (el l i)) (stN (el l i)) (stS (el l i)) (stC (el l i))) (Tree.ret [AObj.own [AV.vec (2 : Nat), AV.mapv (3 : Nat), AV.s (SV.int IntKind.i64 (stF th fu (stK (el l i)) (stN (el l i)) (stS (el l i)) (stC (el l i))))] (145 : Nat), AObj.own [AV.s (SV.ro (Con.strs (sfT t a f (stK (el l i)) (stN (el l i)) (stB (el l i)) (stC (el l i))))), AV.s (SV.ro (Con.typ cK (sfA t a f (stK (el l i)) (stN (el l i)) (stS (el l i)) (stC (el l i))))), AV.s (SV.int IntKind.i64 (sfF t f (stK (el l i)) (stN (el l i)) (stS (el l i)) (stC (el l i))))] (179 : Nat), AObj.vec (Con.typ [CK.arr IntKind.u8 (64 : Nat)] (stT th m fu (stK (el l i)) (stN (el l i)) (stB (el l i)) (stC (el l i)))) (169 : Nat), AObj.map (CK.arr IntKind.u8 (64 : Nat)) (stM th m fu (stK (el l i)) (stN (el l i)) (stS (el l i)) (stC (el l i))), AObj.own [AV.vec (5 : Nat), AV.mapv (6 : Nat), AV.s (SV.int IntKind.i64 (wrF (flT th (wrM th m (fuF fu (9 : Int)) (0 : Int) (bytesStr (List.replicate (Int.toNat (64 : Int)) (0 : Int)))) (wrF th (fuF fu (9 : Int)) (0 : Int) (bytesStr (List.replicate (Int.toNat (64 : Int)) (0 : Int))))) (burnF (wrF th (fuF fu (9 : Int)) (0 : Int) (bytesStr (List.replicate (Int.toNat (64 : Int)) (0 : Int))))) (1 : Int) (whS (ByteArray.mk #[(99 : UInt8), (111 : UInt8), (112 : UInt8), (121 : UInt8)]) (0 : Int))))] (145 : Nat), AObj.vec (Con.typ [CK.arr IntKind.u8 (64 : Nat)] (flT th (wrM th m (fuF fu (9 : Int)) (0 : Int) (bytesStr (List.replicate (Int.toNat (64 : Int)) (0 : Int)))) (wrF th (fuF fu (9 : Int)) (0 : Int) (bytesStr (List.replicate (Int.toNat (64 : Int)) (0 : Int)))))) (169 : Nat), AObj.map (CK.arr IntKind.u8 (64 : Nat)) (wrM (flT th (wrM th m (fuF fu (9 : Int)) (0 : Int) (bytesStr (List.replicate (Int.toNat (64 : Int)) (0 : Int)))) (wrF th (fuF fu (9 : Int)) (0 : Int) (bytesStr (List.replicate (Int.toNat (64 : Int)) (0 : Int))))) (flM (wrM th m (fuF fu (9 : Int)) (0 : Int) (bytesStr (List.replicate (Int.toNat (64 : Int)) (0 : Int)))) (wrF th (fuF fu (9 : Int)) (0 : Int) (bytesStr (List.replicate (Int.toNat (64 : Int)) (0 : Int))))) (burnF (wrF th (fuF fu (9 : Int)) (0 : Int) (bytesStr (List.replicate (Int.toNat (64 : Int)) (0 : Int))))) (1 : Int) (whS (ByteArray.mk #[(99 : UInt8), (111 : UInt8), (112 : UInt8), (121 : UInt8)]) (0 : Int))), AObj.vec (Con.ints IntKind.u8 (List.replicate (Int.toNat (64 : Int)) (0 : Int))) (5 : Nat)] (AV.s (SV.blit false)))
                                                          (Tree.need (Slf (some [AV.ptr (0 : Nat) (0 : Nat), AV.ptr (3 : Nat) (0 : Nat)]))
                                                            (Tree.need (some [AObj.own [AV.vec (1 : Nat), AV.mapv (2 : Nat), AV.s (SV.int IntKind.i64 (stF th fu (stK (el l i)) (stN (el l i)) (stS (el l i)) (stC (el l i))))] (145 : Nat), AObj.vec (Con.typ [CK.arr IntKind.u8 (64 : Nat)] (stT th m fu (stK (el l i)) (stN (el l i)) (stB (el l i)) (stC (el l i)))) (169 : Nat), AObj.map (CK.arr IntKind.u8 (64 : Nat)) (stM th m fu (stK (el l i)) (stN (el l i)) (stS (el l i)) (stC (el l i))), AObj.own [AV.s (SV.ro (Con.strs (sfT t a f (stK (el l i)) (stN (el l i)) (stB (el l i)) (stC (el l i))))), AV.s (SV.ro (Con.typ cK (sfA t a f (stK (el l i)) (stN (el l i)) (stS (el l i)) (stC (el l i))))), AV.s (SV.int IntKind.i64 (sfF t f (stK (el l i)) (stN (el l i)) (stS (el l i)) (stC (el l i))))] (179 : Nat)] = some [AObj.own [AV.vec (1 : Nat), AV.mapv (2 : Nat), AV.s (SV.int IntKind.i64 (stF th fu (stK (el l i)) (stN (el l i)) (stS (el l i)) (stC (el l i))))] (145 : Nat), AObj.vec (Con.typ [CK.arr IntKind.u8 (64 : Nat)] (stT th m fu (stK (el l i)) (stN (el l i)) (stB (el l i)) (stC (el l i)))) (169 : Nat), AObj.map (CK.arr IntKind.u8 (64 : Nat)) (stM th m fu (stK (el l i)) (stN (el l i)) (stS (el l i)) (stC (el l i))), AObj.own [AV.s (SV.ro (Con.strs (tOf (stT th m fu (stK (el l i)) (stN (el l i)) (stB (el l i)) (stC (el l i)))))), AV.s (SV.ro (Con.typ cK (aOf (stM th m fu (stK (el l i)) (stN (el l i)) (stS (el l i)) (stC (el l i)))))), AV.s (SV.int IntKind.i64 (stF th fu (stK (el l i)) (stN (el l i)) (stS (el l i)) (stC (el l i))))] (179 : Nat)])
                                                              (Tree.need (okD (stT th m fu (stK (el l i)) (stN (el l i)) (stB (el l i)) (stC (el l i))) (stM th m fu (stK (el l i)) (stN (el l i)) (stS (el l i)) (stC (el l i))) (stF th fu (stK (el l i)) (stN (el l i)) (stS (el l i)) (stC (el l i)))) (Tree.ite false (Tree.ret [AObj.own [AV.vec (2 : Nat), AV.mapv (3 : Nat), AV.s (SV.int IntKind.i64 (stF th fu (stK (el l i)) (stN (el l i)) (stS (el l i)) (stC (el l i))))] (145 : Nat), AObj.own [AV.s (SV.ro (Con.strs (tOf (stT th m fu (stK (el l i)) (stN (el l i)) (stB (el l i)) (stC (el l i)))))), AV.s (SV.ro (Con.typ cK (aOf (stM th m fu (stK (el l i)) (stN (el l i)) (stS (el l i)) (stC (el l i)))))), AV.s (SV.int IntKind.i64 (stF th fu (stK (el l i)) (stN (el l i)) (stS (el l i)) (stC (el l i))))] (179 : Nat), AObj.vec (Con.typ [CK.arr IntKind.u8 (64 : Nat)] (stT th m fu (stK (el l i)) (stN (el l i)) (stB (el l i)) (stC (el l i)))) (169 : Nat), AObj.map (CK.arr IntKind.u8 (64 : Nat)) (stM th m fu (stK (el l i)) (stN (el l i)) (stS (el l i)) (stC (el l i))), AObj.own [AV.vec (5 : Nat), AV.mapv (6 : Nat), AV.s (SV.int IntKind.i64 (wrF (flT th (wrM th m (fuF fu (9 : Int)) (0 : Int) (bytesStr (List.replicate (Int.toNat (64 : Int)) (0 : Int)))) (wrF th (fuF fu (9 : Int)) (0 : Int) (bytesStr (List.replicate (Int.toNat (64 : Int)) (0 : Int))))) (burnF (wrF th (fuF fu (9 : Int)) (0 : Int) (bytesStr (List.replicate (Int.toNat (64 : Int)) (0 : Int))))) (1 : Int) (whS (ByteArray.mk #[(99 : UInt8), (111 : UInt8), (112 : UInt8), (121 : UInt8)]) (0 : Int))))] (145 : Nat), AObj.vec (Con.typ [CK.arr IntKind.u8 (64 : Nat)] (flT th (wrM th m (fuF fu (9 : Int)) (0 : Int) (bytesStr (List.replicate (Int.toNat (64 : Int)) (0 : Int)))) (wrF th (fuF fu (9 : Int)) (0 : Int) (bytesStr (List.replicate (Int.toNat (64 : Int)) (0 : Int)))))) (169 : Nat), AObj.map (CK.arr IntKind.u8 (64 : Nat)) (wrM (flT th (wrM th m (fuF fu (9 : Int)) (0 : Int) (bytesStr (List.replicate (Int.toNat (64 : Int)) (0 : Int)))) (wrF th (fuF fu (9 : Int)) (0 : Int) (bytesStr (List.replicate (Int.toNat (64 : Int)) (0 : Int))))) (flM (wrM th m (fuF fu (9 : Int)) (0 : Int) (bytesStr (List.replicate (Int.toNat (64 : Int)) (0 : Int)))) (wrF th (fuF fu (9 : Int)) (0 : Int) (bytesStr (List.replicate (Int.toNat (64 : Int)) (0 : Int))))) (burnF (wrF th (fuF fu (9 : Int)) (0 : Int) (bytesStr (List.replicate (Int.toNat (64 : Int)) (0 : Int))))) (1 : Int) (whS (ByteArray.mk #[(99 : UInt8), (111 : UInt8), (112 : UInt8), (121 : UInt8)]) (0 : Int))), AObj.vec (Con.ints IntKind.u8 (List.replicate (Int.toNat (64 : Int)) (0 : Int))) (5 : Nat)] (AV.s (SV.blit false))) (Tree.need (inI64 (i + (1 : Int))) (Tree.at (Cfg.mk (sl (83 : Nat) [((1 : Nat), AV.s (SV.ro (Con.typ cSt l))), ((5 : Nat), AV.ptr (0 : Nat) (0 : Nat)), ((7 : Nat), AV.ptr (1 : Nat) (0 : Nat)), ((9 : Nat), AV.s (SV.int IntKind.i64 (i + (1 : Int))))]) [AObj.own [AV.vec (2 : Nat), AV.mapv (3 : Nat), AV.s (SV.int IntKind.i64 (stF th fu (stK (el l i)) (stN (el l i)) (stS (el l i)) (stC (el l i))))] (145 : Nat), AObj.own [AV.s (SV.ro (Con.strs (tOf (stT th m fu (stK (el l i)) (stN (el l i)) (stB (el l i)) (stC (el l i)))))), AV.s (SV.ro (Con.typ cK (aOf (stM th m fu (stK (el l i)) (stN (el l i)) (stS (el l i)) (stC (el l i)))))), AV.s (SV.int IntKind.i64 (stF th fu (stK (el l i)) (stN (el l i)) (stS (el l i)) (stC (el l i))))] (179 : Nat), AObj.vec (Con.typ [CK.arr IntKind.u8 (64 : Nat)] (stT th m fu (stK (el l i)) (stN (el l i)) (stB (el l i)) (stC (el l i)))) (169 : Nat), AObj.map (CK.arr IntKind.u8 (64 : Nat)) (stM th m fu (stK (el l i)) (stN (el l i)) (stS (el l i)) (stC (el l i)))] (hd Try.f15 (8 : Nat)) (Stk.mk none false (0 : Nat) [] (0 : Nat)))))))))))))))))))))))))))))))))))))
  (Tree.need (Slf (some [AV.ptr (0 : Nat) (0 : Nat)])) (Tree.need (Slf (some [AObj.own [AV.vec (1 : Nat), AV.mapv (2 : Nat), AV.s (SV.int IntKind.i64 fu)] (145 : Nat), AObj.vec (Con.typ [CK.arr IntKind.u8 (64 : Nat)] th) (169 : Nat), AObj.map (CK.arr IntKind.u8 (64 : Nat)) m])) (Tree.need (okD th m fu) (Tree.need (Slf (some [AV.ptr (0 : Nat) (0 : Nat), AV.ptr (3 : Nat) (0 : Nat)])) (Tree.need (some [AObj.own [AV.vec (1 : Nat), AV.mapv (2 : Nat), AV.s (SV.int IntKind.i64 fu)] (145 : Nat), AObj.vec (Con.typ [CK.arr IntKind.u8 (64 : Nat)] th) (169 : Nat), AObj.map (CK.arr IntKind.u8 (64 : Nat)) m, AObj.own [AV.s (SV.ro (Con.strs t)), AV.s (SV.ro (Con.typ cK a)), AV.s (SV.int IntKind.i64 f)] (179 : Nat)] = some [AObj.own [AV.vec (1 : Nat), AV.mapv (2 : Nat), AV.s (SV.int IntKind.i64 fu)] (145 : Nat), AObj.vec (Con.typ [CK.arr IntKind.u8 (64 : Nat)] th) (169 : Nat), AObj.map (CK.arr IntKind.u8 (64 : Nat)) m, AObj.own [AV.s (SV.ro (Con.strs (tOf th))), AV.s (SV.ro (Con.typ cK (aOf m))), AV.s (SV.int IntKind.i64 fu)] (179 : Nat)]) (Tree.need (okD th m fu) (Tree.ret [AObj.own [AV.vec (2 : Nat), AV.mapv (3 : Nat), AV.s (SV.int IntKind.i64 fu)] (145 : Nat), AObj.own [AV.s (SV.ro (Con.strs (tOf th))), AV.s (SV.ro (Con.typ cK (aOf m))), AV.s (SV.int IntKind.i64 fu)] (179 : Nat), AObj.vec (Con.typ [CK.arr IntKind.u8 (64 : Nat)] th) (169 : Nat), AObj.map (CK.arr IntKind.u8 (64 : Nat)) m, AObj.own [AV.vec (5 : Nat), AV.mapv (6 : Nat), AV.s (SV.int IntKind.i64 fu)] (145 : Nat), AObj.vec (Con.typ [CK.arr IntKind.u8 (64 : Nat)] th) (169 : Nat), AObj.map (CK.arr IntKind.u8 (64 : Nat)) m] (AV.s (SV.bool true))))))))) := by kernel_rfl
theorem rep_set {α : Type} (z e : α) (k j : Nat) : (List.replicate k z ++ List.replicate (j + 1) e).set k z = List.replicate (k + 1) z ++ List.replicate j e := by
  rw [List.set_append_right _ _ (by simp), List.length_replicate, Nat.sub_self, List.replicate_succ, List.set_cons_zero, List.replicate_succ' (n := k), List.append_assoc]
  rfl
theorem tabPl_ok {Z : Glob} : tabPl.Ok P Z := Tab.Ok.cons (rf2_ok.sum mRf) (Tab.Ok.cons (li_ok.sum mLi) tabLw_ok)
theorem diskPlays_ok {Z : Glob} : FnOk P Z 15 [tInt, tSteps] [tBool] (preWf _) (fun _ => (true, ())) := by
  refine fnOk_of_safe Try.func15 (by kernel_rfl) (by kernel_rfl) ?_
  rintro ⟨(sec : Int), (l : List (CL cSt)), ⟨⟩⟩ ⟨_, (hl : l.length ≤ maxLen), _⟩ ⟨⟨hsec, hwl, _⟩, _⟩ X hX hz
  have hN := okSt_wf hwl
  show Safe P 15 X (Ends [tBool] (true, ())) _
  have hl2 : l.length ≤ 9223372036854775807 := by unfold maxLen at hl; omega
  have hT : tabPl.Ok P Z := tabPl_ok
  have loop : ∀ (j k : Nat) (th : Th) (m : As) (fu : Int), k + j = l.length → okD th m fu → Safe P 15 X (Ends [tBool] (true, ())) (cPl l th m fu (tOf th) (aOf m) fu (k : Int)) := by
    intro j
    induction j with
    | zero =>
      intro k th m fu hk hd
      refine go hz hX hT Try.func15 (loopPl l th m fu (tOf th) (aOf m) fu k) ?_
      repeat' (with_reducible (first | refine h_eq ?_ | refine h_need ?_ ?_ | refine h_dec (fun _ => ?_) (fun _ => ?_) | refine h_beq (fun _ => ?_) (fun _ => ?_) | refine h_bne (fun _ => ?_) (fun _ => ?_) | refine h_tt ?_ | refine h_ff ?_ | refine h_not ?_ | refine h_ite (fun _ => ?_) (fun _ => ?_) | refine h_both (fun _ => ?_) (fun _ => ?_) | refine h_ret ?_ | refine h_at ?_))
      all_goals first | rfl | trivial | assumption | omega | exact ends_b | exact ends_bl
    | succ j ih =>
      intro k th m fu hk hd
      have hlt : k < l.length := by omega
      refine go hz hX hT Try.func15 (loopPl l th m fu (tOf th) (aOf m) fu k) ?_
      have hx := hN _ (List.getElem_mem hlt)
      rw [← el_lt hlt] at hx
      generalize el l (k : Int) = x at *
      have hd' := ok_st (k := stK x) (n := stN x) (c := stC x) (s := stS x) (ks := stB x) hd hx.n.2
      have next := ih (k + 1) _ _ _ (by omega) hd'
      obtain ⟨e1, e2, e3, e4⟩ := st_of hd (stK x) (stN x) (stS x) (stB x) (stC x)
      rw [e1, e2, e3, e4]
      have hr := okR_of hd
      have h1 := ok_fu (n := 9) hd (by omega)
      have h2 := fun s => ok_wr (n := 0) (s := s) h1
      have h3 := fun s => ok_fl (h2 s)
      clear e1 e2 e3 e4 ih
      repeat' (with_reducible (first | refine h_eq ?_ | refine h_need ?_ ?_ | refine h_dec (fun _ => ?_) (fun _ => ?_) | refine h_beq (fun _ => ?_) (fun _ => ?_) | refine h_bne (fun _ => ?_) (fun _ => ?_) | refine h_tt ?_ | refine h_ff ?_ | refine h_not ?_ | refine h_ite (fun _ => ?_) (fun _ => ?_) | refine h_both (fun _ => ?_) (fun _ => ?_) | refine h_ret ?_ | refine h_at ?_))
      all_goals first | rfl | trivial | assumption | exact h2 _ | exact h3 _ | omega | exact ⟨by omega, by omega⟩ | exact next | exact absurd rfl (by assumption)
  have new : ∀ (N : Nat), (N : Int) = sec → N ≤ 40 → ∀ (j k : Nat), k + j = N → Safe P 15 X (Ends [tBool] (true, ())) (cNw l sec (List.replicate k (bytesStr (List.replicate 64 0)) ++ List.replicate j ByteArray.empty) (List.replicate N (CL.d cS)) [] (-1) (k : Int)) := by
    intro N hs hN4 j
    induction j with
    | zero =>
      intro k hk
      refine go hz hX hT Try.func15 (loopNw l sec _ _ [] (-1) k) ?_
      have e : List.replicate k (bytesStr (List.replicate 64 0)) ++ List.replicate 0 ByteArray.empty = tOf (List.replicate N (CL.d cS)) := by
        rw [show k = N from by omega]
        simp only [tOf, List.map_replicate, List.replicate_zero, List.append_nil]
        rfl
      rw [e]
      have := loop l.length 0 (List.replicate N (CL.d cS)) [] (-1) (by omega) (ok_new (by omega))
      repeat' (with_reducible (first | refine h_eq ?_ | refine h_need ?_ ?_ | refine h_dec (fun _ => ?_) (fun _ => ?_) | refine h_beq (fun _ => ?_) (fun _ => ?_) | refine h_bne (fun _ => ?_) (fun _ => ?_) | refine h_tt ?_ | refine h_ff ?_ | refine h_not ?_ | refine h_ite (fun _ => ?_) (fun _ => ?_) | refine h_both (fun _ => ?_) (fun _ => ?_) | refine h_ret ?_ | refine h_at ?_))
      all_goals first | omega | exact this
    | succ j ih =>
      intro k hk
      have next := ih (k + 1) (by omega)
      have es := rep_set (bytesStr (List.replicate 64 0)) ByteArray.empty k j
      refine go hz hX hT Try.func15 (loopNw l sec _ _ [] (-1) k) ⟨fun _ => ⟨by omega, by omega, by omega, by omega, by simp; omega, ⟨by omega, by omega⟩, ?_⟩, fun h => absurd (of_decide_eq_false h) (by omega)⟩
      rw [Int.toNat_natCast]
      show Safe P 15 X (Ends [tBool] (true, ())) (cNw l sec ((List.replicate k (bytesStr (List.replicate 64 0)) ++ List.replicate (j + 1) ByteArray.empty).set k (bytesStr (List.replicate 64 0))) _ [] (-1) _)
      rw [es]
      exact next
  refine go hz hX hT Try.func15 (treePl sec l) ?_
  repeat' (with_reducible (first | refine h_eq ?_ | refine h_need ?_ ?_ | refine h_dec (fun _ => ?_) (fun _ => ?_) | refine h_beq (fun _ => ?_) (fun _ => ?_) | refine h_bne (fun _ => ?_) (fun _ => ?_) | refine h_tt ?_ | refine h_ff ?_ | refine h_not ?_ | refine h_ite (fun _ => ?_) (fun _ => ?_) | refine h_both (fun _ => ?_) (fun _ => ?_) | refine h_ret ?_ | refine h_at ?_))
  all_goals first | omega | exact ends_b | exact ends_bl | skip
  have := new sec.toNat (by omega) (by omega) sec.toNat 0 (by omega)
  exact this
end Ds
