/- Lemmas: D10, D11, D12, D13, D14. -/
import Derived.Test.YtjmdfmafnenjnaaPD

namespace Ds
open Go Go.Sx Go.Proofs Lf
abbrev stK (x : CL cSt) : Int := x.1
abbrev stN (x : CL cSt) : Int := x.2.1
abbrev stS (x : CL cSt) : ByteArray := x.2.2.1
abbrev stB (x : CL cSt) : List Bool := x.2.2.2.1
abbrev stC (x : CL cSt) : Int := x.2.2.2.2.1
def mLg : List AV → RM (List (CL cSt) × List Nat)
  | [.s (.ro (.typ [.int .u8, .int .i64, .str, .bools, .int .i64] l))] => .ret (l, [])
  | _ => .fail "no steps"
abbrev sumLg := sumS sLg mLg
abbrev sumWk := sumOf [] [tBool] (fun _ => []) (fun _ => (true, ()))
def tabLw : Tab := [(56, sumWk), (57, sumLg), (58, sumRd), (59, sumDo), (60, sumWh), (69, sumFu), (64, sumDe), (62, sumCo),
  (61, sumAs), (63, sumCr), (65, sumFl), (66, sumWr), (67, sumOfF)]
abbrev avSteps (l : List (CL cSt)) : AV := .s (.ro (.typ cSt l))
abbrev avI (n : Int) : AV := .s (.int .i64 n)
/-! DiskReads -/
def nsDr : List (Nat × Norm) := [(7, ⟨[], [1, 2, 7, 9], 0, []⟩)]
noncomputable def cDr (l : List (CL cSt)) (n : Int) (th : Th) (m : As) (fu i : Int) : Cfg := ⟨sl 101 [(1, avSteps l), (2, avI n), (7, .ptr 0 0), (9, avI i)], hD th m fu, hd Try.f12 7, {}⟩
theorem treeDr (sec : Int) (l : List (CL cSt)) (n : Int) : run P tabLw.sum Try.f12 nsDr (start Try.f12 [avI sec, avSteps l, avI n] []) [28] =
  Tree.ite false (Tree.ret [] (AV.s (SV.bool true))) (Tree.need (@Slf (Option (List AV)) (some [AV.s (SV.ro (Con.typ cSt l))])) (Tree.need NoObj (Tree.need (l.length ≤ (9223372036854775807 : Nat)) (Tree.both True (l.length - (300 : Nat) = (0 : Nat)) (Tree.ret [] (AV.s (SV.bool true))) (Tree.ite (decide (sec > (60 : Int))) (Tree.ret [] (AV.s (SV.bool true))) (Tree.ite (decide (sec < (1 : Int))) (Tree.ret [] (AV.s (SV.blit true))) (Tree.ite (decide (sec > (4096 : Int))) (Tree.ret [] (AV.s (SV.blit true))) (Tree.need ((0 : Int) ≤ sec) (Tree.need (sec ≤ sec) (Tree.need (sec ≤ (1073741824 : Int)) (Tree.at (Cfg.mk (sl (101 : Nat) [((1 : Nat), AV.s (SV.ro (Con.typ cSt l))), ((2 : Nat), AV.s (SV.int IntKind.i64 n)), ((7 : Nat), AV.ptr (0 : Nat) (0 : Nat)), ((9 : Nat), AV.s (SV.int IntKind.i64 (0 : Int)))]) [AObj.own [AV.vec (1 : Nat), AV.mapv (2 : Nat), AV.s (SV.int IntKind.i64 (-1 : Int))] (145 : Nat), AObj.vec (Con.typ [CK.arr IntKind.u8 (64 : Nat)] (List.replicate sec.toNat (CL.d [CK.arr IntKind.u8 (64 : Nat)]))) (169 : Nat), AObj.map (CK.arr IntKind.u8 (64 : Nat)) []] (hd Try.f12 (7 : Nat)) (Stk.mk none false (0 : Nat) [] (0 : Nat)))))))))))))) := by kernel_rfl
theorem loopDr (l : List (CL cSt)) (n : Int) (th : Th) (m : As) (fu i : Int) : run P tabLw.sum Try.f12 nsDr (cDr l n th m fu i) [28] =
  Tree.ite (decide (i < (↑l.length : Int)))
  (Tree.need ((0 : Int) ≤ i)
    (Tree.need (i < (↑l.length : Int))
      (Tree.ite (decide (stK (el l i) > (2 : Int))) (Tree.need (inI64 (i + (1 : Int))) (Tree.at (Cfg.mk (sl (101 : Nat) [((1 : Nat), AV.s (SV.ro (Con.typ cSt l))), ((2 : Nat), AV.s (SV.int IntKind.i64 n)), ((7 : Nat), AV.ptr (0 : Nat) (0 : Nat)), ((9 : Nat), AV.s (SV.int IntKind.i64 (i + (1 : Int))))]) [AObj.own [AV.vec (1 : Nat), AV.mapv (2 : Nat), AV.s (SV.int IntKind.i64 fu)] (145 : Nat), AObj.vec (Con.typ [CK.arr IntKind.u8 (64 : Nat)] th) (169 : Nat), AObj.map (CK.arr IntKind.u8 (64 : Nat)) m] (hd Try.f12 (7 : Nat)) (Stk.mk none false (0 : Nat) [] (0 : Nat)))))
        (Tree.need (@Slf (Option (List AV)) (some [AV.ptr (0 : Nat) (0 : Nat), AV.s (SV.int IntKind.i64 n)]))
          (Tree.need (@Slf (Option (List AObj)) (some [AObj.own [AV.vec (1 : Nat), AV.mapv (2 : Nat), AV.s (SV.int IntKind.i64 fu)] (145 : Nat), AObj.vec (Con.typ [CK.arr IntKind.u8 (64 : Nat)] th) (169 : Nat), AObj.map (CK.arr IntKind.u8 (64 : Nat)) m]))
            (Tree.need (okD th m fu)
              (Tree.need ((0 : Int) ≤ i)
                (Tree.need (i < (↑l.length : Int))
                  (Tree.need (@Slf (Option (List AV)) (some [AV.agg [AV.s (SV.int IntKind.u8 (stK (el l i))), AV.s (SV.int IntKind.i64 (stN (el l i))), AV.s (SV.str (stS (el l i))), AV.s (SV.ro (Con.bools (stB (el l i)))), AV.s (SV.int IntKind.i64 (stC (el l i)))], AV.ptr (0 : Nat) (0 : Nat)]))
                    (Tree.need (@Slf (Option (List AObj)) (some [AObj.own [AV.vec (1 : Nat), AV.mapv (2 : Nat), AV.s (SV.int IntKind.i64 fu)] (145 : Nat), AObj.vec (Con.typ [CK.arr IntKind.u8 (64 : Nat)] th) (169 : Nat), AObj.map (CK.arr IntKind.u8 (64 : Nat)) m]))
                      (Tree.need (okD th m fu)
                        (Tree.need (@Slf (Option (List AV)) (some [AV.ptr (0 : Nat) (0 : Nat), AV.s (SV.int IntKind.i64 n)]))
                          (Tree.need (@Slf (Option (List AObj)) (some [AObj.own [AV.vec (1 : Nat), AV.mapv (2 : Nat), AV.s (SV.int IntKind.i64 (stF th fu (stK (el l i)) (stN (el l i)) (stS (el l i)) (stC (el l i))))] (145 : Nat), AObj.vec (Con.typ [CK.arr IntKind.u8 (64 : Nat)] (stT th m fu (stK (el l i)) (stN (el l i)) (stB (el l i)) (stC (el l i)))) (169 : Nat), AObj.map (CK.arr IntKind.u8 (64 : Nat)) (stM th m fu (stK (el l i)) (stN (el l i)) (stS (el l i)) (stC (el l i)))]))
                            (Tree.need (okD (stT th m fu (stK (el l i)) (stN (el l i)) (stB (el l i)) (stC (el l i))) (stM th m fu (stK (el l i)) (stN (el l i)) (stS (el l i)) (stC (el l i))) (stF th fu (stK (el l i)) (stN (el l i)) (stS (el l i)) (stC (el l i))))
                              (Tree.ite (rdE th n != rdE (stT th m fu (stK (el l i)) (stN (el l i)) (stB (el l i)) (stC (el l i))) n) (Tree.ret [AObj.own [AV.vec (1 : Nat), AV.mapv (2 : Nat), AV.s (SV.int IntKind.i64 (stF th fu (stK (el l i)) (stN (el l i)) (stS (el l i)) (stC (el l i))))] (145 : Nat), AObj.vec (Con.typ [CK.arr IntKind.u8 (64 : Nat)] (stT th m fu (stK (el l i)) (stN (el l i)) (stB (el l i)) (stC (el l i)))) (169 : Nat), AObj.map (CK.arr IntKind.u8 (64 : Nat)) (stM th m fu (stK (el l i)) (stN (el l i)) (stS (el l i)) (stC (el l i)))] (AV.s (SV.blit false)))
                                (Tree.need ((0 : Int) ≤ i)
                                  (Tree.need (i < (↑l.length : Int))
                                    (Tree.ite (stK (el l i) == (0 : Int))
                                      (Tree.need ((0 : Int) ≤ i)
                                        (Tree.need (i < (↑l.length : Int))
                                          (Tree.ite (stN (el l i) == n) (Tree.ite (stE fu (stK (el l i)) (stN (el l i)) th (stS (el l i)) (stC (el l i)) == (0 : Int)) (Tree.need ((0 : Int) ≤ i) (Tree.need (i < (↑l.length : Int)) (Tree.need ((0 : Int) ≤ i) (Tree.need (i < (↑l.length : Int)) (Tree.ite (!decide (rdS (stT th m fu (stK (el l i)) (stN (el l i)) (stB (el l i)) (stC (el l i))) (stM th m fu (stK (el l i)) (stN (el l i)) (stS (el l i)) (stC (el l i))) n = whS (stS (el l i)) (stC (el l i)))) (Tree.ret [AObj.own [AV.vec (1 : Nat), AV.mapv (2 : Nat), AV.s (SV.int IntKind.i64 (stF th fu (stK (el l i)) (stN (el l i)) (stS (el l i)) (stC (el l i))))] (145 : Nat), AObj.vec (Con.typ [CK.arr IntKind.u8 (64 : Nat)] (stT th m fu (stK (el l i)) (stN (el l i)) (stB (el l i)) (stC (el l i)))) (169 : Nat), AObj.map (CK.arr IntKind.u8 (64 : Nat)) (stM th m fu (stK (el l i)) (stN (el l i)) (stS (el l i)) (stC (el l i)))] (AV.s (SV.blit false))) (Tree.need (inI64 (i + (1 : Int))) (Tree.at (Cfg.mk (sl (101 : Nat) [((1 : Nat), AV.s (SV.ro (Con.typ cSt l))), ((2 : Nat), AV.s (SV.int IntKind.i64 n)), ((7 : Nat), AV.ptr (0 : Nat) (0 : Nat)), ((9 : Nat), AV.s (SV.int IntKind.i64 (i + (1 : Int))))]) [AObj.own [AV.vec (1 : Nat), AV.mapv (2 : Nat), AV.s (SV.int IntKind.i64 (stF th fu (stK (el l i)) (stN (el l i)) (stS (el l i)) (stC (el l i))))] (145 : Nat), AObj.vec (Con.typ [CK.arr IntKind.u8 (64 : Nat)] (stT th m fu (stK (el l i)) (stN (el l i)) (stB (el l i)) (stC (el l i)))) (169 : Nat), AObj.map (CK.arr IntKind.u8 (64 : Nat)) (stM th m fu (stK (el l i)) (stN (el l i)) (stS (el l i)) (stC (el l i)))] (hd Try.f12 (7 : Nat)) (Stk.mk none false (0 : Nat) [] (0 : Nat)))))))))) (Tree.ite (!decide (rdS (stT th m fu (stK (el l i)) (stN (el l i)) (stB (el l i)) (stC (el l i))) (stM th m fu (stK (el l i)) (stN (el l i)) (stS (el l i)) (stC (el l i))) n = rdS th m n)) (Tree.ret [AObj.own [AV.vec (1 : Nat), AV.mapv (2 : Nat), AV.s (SV.int IntKind.i64 (stF th fu (stK (el l i)) (stN (el l i)) (stS (el l i)) (stC (el l i))))] (145 : Nat), AObj.vec (Con.typ [CK.arr IntKind.u8 (64 : Nat)] (stT th m fu (stK (el l i)) (stN (el l i)) (stB (el l i)) (stC (el l i)))) (169 : Nat), AObj.map (CK.arr IntKind.u8 (64 : Nat)) (stM th m fu (stK (el l i)) (stN (el l i)) (stS (el l i)) (stC (el l i)))] (AV.s (SV.blit false))) (Tree.need (inI64 (i + (1 : Int))) (Tree.at (Cfg.mk (sl (101 : Nat) [((1 : Nat), AV.s (SV.ro (Con.typ cSt l))), ((2 : Nat), AV.s (SV.int IntKind.i64 n)), ((7 : Nat), AV.ptr (0 : Nat) (0 : Nat)), ((9 : Nat), AV.s (SV.int IntKind.i64 (i + (1 : Int))))]) [AObj.own [AV.vec (1 : Nat), AV.mapv (2 : Nat), AV.s (SV.int IntKind.i64 (stF th fu (stK (el l i)) (stN (el l i)) (stS (el l i)) (stC (el l i))))] (145 : Nat), AObj.vec (Con.typ [CK.arr IntKind.u8 (64 : Nat)] (stT th m fu (stK (el l i)) (stN (el l i)) (stB (el l i)) (stC (el l i)))) (169 : Nat), AObj.map (CK.arr IntKind.u8 (64 : Nat)) (stM th m fu (stK (el l i)) (stN (el l i)) (stS (el l i)) (stC (el l i)))] (hd Try.f12 (7 : Nat)) (Stk.mk none false (0 : Nat) [] (0 : Nat)))))))
                                            (Tree.ite (!decide (rdS (stT th m fu (stK (el l i)) (stN (el l i)) (stB (el l i)) (stC (el l i))) (stM th m fu (stK (el l i)) (stN (el l i)) (stS (el l i)) (stC (el l i))) n = rdS th m n)) (Tree.ret [AObj.own [AV.vec (1 : Nat), AV.mapv (2 : Nat), AV.s (SV.int IntKind.i64 (stF th fu (stK (el l i)) (stN (el l i)) (stS (el l i)) (stC (el l i))))] (145 : Nat), AObj.vec (Con.typ [CK.arr IntKind.u8 (64 : Nat)] (stT th m fu (stK (el l i)) (stN (el l i)) (stB (el l i)) (stC (el l i)))) (169 : Nat), AObj.map (CK.arr IntKind.u8 (64 : Nat)) (stM th m fu (stK (el l i)) (stN (el l i)) (stS (el l i)) (stC (el l i)))] (AV.s (SV.blit false))) (Tree.need (inI64 (i + (1 : Int))) (Tree.at (Cfg.mk (sl (101 : Nat) [((1 : Nat), AV.s (SV.ro (Con.typ cSt l))), ((2 : Nat), AV.s (SV.int IntKind.i64 n)), ((7 : Nat), AV.ptr (0 : Nat) (0 : Nat)), ((9 : Nat), AV.s (SV.int IntKind.i64 (i + (1 : Int))))]) [AObj.own [AV.vec (1 : Nat), AV.mapv (2 : Nat), AV.s (SV.int IntKind.i64 (stF th fu (stK (el l i)) (stN (el l i)) (stS (el l i)) (stC (el l i))))] (145 : Nat), AObj.vec (Con.typ [CK.arr IntKind.u8 (64 : Nat)] (stT th m fu (stK (el l i)) (stN (el l i)) (stB (el l i)) (stC (el l i)))) (169 : Nat), AObj.map (CK.arr IntKind.u8 (64 : Nat)) (stM th m fu (stK (el l i)) (stN (el l i)) (stS (el l i)) (stC (el l i)))] (hd Try.f12 (7 : Nat)) (Stk.mk none false (0 : Nat) [] (0 : Nat)))))))))
                                      (Tree.ite (!decide (rdS (stT th m fu (stK (el l i)) (stN (el l i)) (stB (el l i)) (stC (el l i))) (stM th m fu (stK (el l i)) (stN (el l i)) (stS (el l i)) (stC (el l i))) n = rdS th m n)) (Tree.ret [AObj.own [AV.vec (1 : Nat), AV.mapv (2 : Nat), AV.s (SV.int IntKind.i64 (stF th fu (stK (el l i)) (stN (el l i)) (stS (el l i)) (stC (el l i))))] (145 : Nat), AObj.vec (Con.typ [CK.arr IntKind.u8 (64 : Nat)] (stT th m fu (stK (el l i)) (stN (el l i)) (stB (el l i)) (stC (el l i)))) (169 : Nat), AObj.map (CK.arr IntKind.u8 (64 : Nat)) (stM th m fu (stK (el l i)) (stN (el l i)) (stS (el l i)) (stC (el l i)))] (AV.s (SV.blit false))) (Tree.need (inI64 (i + (1 : Int))) (Tree.at (Cfg.mk (sl (101 : Nat) [((1 : Nat), AV.s (SV.ro (Con.typ cSt l))), ((2 : Nat), AV.s (SV.int IntKind.i64 n)), ((7 : Nat), AV.ptr (0 : Nat) (0 : Nat)), ((9 : Nat), AV.s (SV.int IntKind.i64 (i + (1 : Int))))]) [AObj.own [AV.vec (1 : Nat), AV.mapv (2 : Nat), AV.s (SV.int IntKind.i64 (stF th fu (stK (el l i)) (stN (el l i)) (stS (el l i)) (stC (el l i))))] (145 : Nat), AObj.vec (Con.typ [CK.arr IntKind.u8 (64 : Nat)] (stT th m fu (stK (el l i)) (stN (el l i)) (stB (el l i)) (stC (el l i)))) (169 : Nat), AObj.map (CK.arr IntKind.u8 (64 : Nat)) (stM th m fu (stK (el l i)) (stN (el l i)) (stS (el l i)) (stC (el l i)))] (hd Try.f12 (7 : Nat)) (Stk.mk none false (0 : Nat) [] (0 : Nat))))))))))))))))))))))))
  (Tree.ret [AObj.own [AV.vec (1 : Nat), AV.mapv (2 : Nat), AV.s (SV.int IntKind.i64 fu)] (145 : Nat), AObj.vec (Con.typ [CK.arr IntKind.u8 (64 : Nat)] th) (169 : Nat), AObj.map (CK.arr IntKind.u8 (64 : Nat)) m] (AV.s (SV.blit true))) := by kernel_rfl
theorem el_lt {cs : List CK} {l : List (CL cs)} {k : Nat} (h : k < l.length) : el l (k : Int) = l[k] := by
  show l.getD (k : Int).toNat _ = _
  rw [Int.toNat_natCast]; exact getD_lt h
/-! what a step leaves of a disk -/
theorem ok_new {n : Nat} (h : n ≤ 4096) : okD (List.replicate n (CL.d cS)) [] (-1) := by
  refine ⟨⟨by simpa using h, fun i hi => ?_⟩, ⟨by simp, fun p hp => by cases hp⟩, by omega, by omega⟩
  simp only [List.length_replicate] at hi
  rw [getD_lt (by simpa using hi), List.getElem_replicate]
  rfl
theorem mput_keys {m : As} (h : (m.map (·.1)).Nodup) {n : Int} {v : kS.V} : ((mput m n v).map (·.1)).Nodup := by
  unfold mput
  split
  · rw [map_keys_put]; exact h
  · rename_i hn
    have hn : ∀ p ∈ m, p.1 ≠ n := fun p hp e => hn (by simp only [mhas, List.any_eq_true, beq_iff_eq]; exact ⟨p, hp, e⟩)
    rw [List.map_append, List.nodup_append]
    refine ⟨h, by simp, fun a ha b hb => ?_⟩
    simp only [List.map_cons, List.map_nil, List.mem_singleton] at hb
    obtain ⟨p, hp, rfl⟩ := List.mem_map.1 ha
    rw [hb]; exact hn p hp
theorem ok_burn {fu : Int} (h : okF fu) : okF (burnF fu) := by
  unfold okF burnF imax at *
  split
  · omega
  · split <;> omega
theorem ok_wr {th : Th} {m : As} {fu n : Int} {s : ByteArray} (h : okD th m fu) : okD th (wrM th m fu n s) (wrF th fu n s) := by
  refine ⟨h.t, ?_, ?_⟩
  · unfold wrM
    split
    · rename_i he
      have hin : inTh th n = true ∧ s.size = 64 := by
        unfold wrE at he
        repeat' split at he
        all_goals first | (cases he; done) | exact ⟨by assumption, by assumption⟩
      obtain ⟨h0, h1⟩ := inTh_iff.1 hin.1
      refine ⟨mput_keys h.m.1, fun p hp => ?_⟩
      rcases mput_key p hp with hp | rfl
      · exact h.m.2 p hp
      · exact ⟨h0, h1, by show (strInts s).length = 64; rw [strInts_len]; exact hin.2⟩
    · exact h.m
  · unfold wrF
    split
    · exact ok_burn h.f
    · exact h.f
theorem ok_ovl {th : Th} {m : As} (h : okT th) (hm : okM th.length m) : okT (ovl th m) := by
  refine ⟨by rw [ovl_len]; exact h.1, fun i hi => ?_⟩
  rw [ovl_len] at hi
  rw [ovl_get hi]
  exact nowS_len (fu := 0) ⟨h, hm, by omega, by omega⟩ (inTh_iff.2 ⟨by omega, by omega⟩)
theorem ok_fl {th : Th} {m : As} {fu : Int} (h : okD th m fu) : okD (flT th m fu) (flM m fu) (burnF fu) := by
  unfold flT flM
  split
  · exact ⟨h.t, h.m, ok_burn h.f⟩
  · exact ⟨ok_ovl h.t h.m, ⟨by simp, fun p hp => by cases hp⟩, ok_burn h.f⟩
theorem ok_fu {th : Th} {m : As} {fu n : Int} (h : okD th m fu) (hn : n ≤ 9223372036854775807) : okD th m (fuF fu n) := by
  refine ⟨h.t, h.m, ?_⟩
  have := h.f
  unfold okF fuF at *
  split
  · exact this
  · split <;> omega
theorem crT_len {keep : List Bool} {torn cut : Int} {m : As} : ∀ (l : List Int) (k : Nat) (th : Th), (crT keep torn cut m l k th).length = th.length
  | [], k, th => rfl
  | n :: l, k, th => (crT_len l (k + 1) _).trans crStep_len
theorem crT_ok {keep : List Bool} {torn cut : Int} {m : As} (hc : 0 ≤ cut) (hc2 : cut ≤ 64) : ∀ (l : List Int) (k : Nat) (th : Th), okT th → (∀ x ∈ l, (nowA m x).length = 64 ∧ 0 ≤ x ∧ x < (th.length : Int)) → okT (crT keep torn cut m l k th)
  | [], k, th, h, _ => h
  | n :: l, k, th, h, hl => by
    obtain ⟨h1, h2, h3⟩ := hl n List.mem_cons_self
    refine crT_ok hc hc2 l (k + 1) _ (crStep_ok h h2 h3 hc hc2 h1) fun x hx => ?_
    rw [crStep_len]
    exact hl x (List.mem_cons_of_mem _ hx)
theorem okC_iff {cut : Int} : okC cut = true ↔ 0 ≤ cut ∧ cut ≤ 64 := by simp [okC]
theorem ok_cr {th : Th} {m : As} {fu torn cut : Int} {keep : List Bool} (h : okD th m fu) : okD (crH th m keep torn cut) (crM m cut) (crF fu cut) := by
  unfold crH crM crF
  split
  · rename_i hc
    obtain ⟨h0, h1⟩ := okC_iff.1 hc
    exact ⟨crT_ok h0 h1 _ _ _ h.t fun x hx => nowA_len h.m hx, ⟨by simp, fun p hp => by cases hp⟩, by omega, by omega⟩
  · exact h
theorem stT_len {th : Th} {m : As} {fu k n c : Int} {ks : List Bool} : (stT th m fu k n ks c).length = th.length := by
  unfold stT flT crH
  repeat' split
  all_goals first | rfl | exact ovl_len _ _ | exact crT_len _ _ _
theorem ok_st {th : Th} {m : As} {fu k n c : Int} {s : ByteArray} {ks : List Bool} (h : okD th m fu) (hn : n ≤ 9223372036854775807) : okD (stT th m fu k n ks c) (stM th m fu k n s c) (stF th fu k n s c) := by
  unfold stT stM stF
  repeat' split
  all_goals first | exact ok_wr h | exact ok_fl h | exact ok_fu h hn | exact ok_cr h
/-! what is read behind it -/
theorem bytes_strInts (s : ByteArray) : bytesStr (strInts s) = s := by
  obtain ⟨⟨l⟩⟩ := s
  simp only [bytesStr, strInts, List.map_map]
  congr 2
  refine (List.map_congr_left fun b _ => ?_).trans (List.map_id l)
  simp
theorem mget_put {m : As} (h : (m.map (·.1)).Nodup) {n x : Int} {v : kS.V} : mget (mput m n v) x = if x = n then some v else mget m x := by
  split
  · rename_i e
    subst e
    have hm : (x, v) ∈ mput m x v := by
      unfold mput
      split
      · rename_i hh
        simp only [mhas, List.any_eq_true, beq_iff_eq] at hh
        obtain ⟨p, hp, e⟩ := hh
        exact List.mem_map.2 ⟨p, hp, by rw [if_pos (by simpa using e)]⟩
      · exact List.mem_append_right _ List.mem_cons_self
    exact mget_of (mput_keys h) hm
  · rename_i e
    cases hg : mget m x with
    | none =>
      refine mget_none fun p hp ep => ?_
      rcases mput_key p hp with hp | rfl
      · have := mget_of h hp
        rw [ep, hg] at this
        cases this
      · exact e ep.symm
    | some u =>
      have hu := mget_mem hg
      refine mget_of (mput_keys h) (p := (x, u)) ?_
      unfold mput
      split
      · exact List.mem_map.2 ⟨_, hu, by rw [if_neg (by simpa using e)]⟩
      · exact List.mem_append_left _ hu
theorem nowS_put {th : Th} {m : As} (h : (m.map (·.1)).Nodup) {n x : Int} {v : List Int} : nowS th (mput m n v) x = if x = n then v else nowS th m x := by
  have e := mget_put h (n := n) (x := x) (v := v)
  unfold nowS
  by_cases hx : x = n
  · rw [if_pos hx] at e ⊢
    rw [e]
  · rw [if_neg hx] at e ⊢
    rw [e]
theorem nowS_ovl {th : Th} {m : As} {x : Int} (h : inTh th x = true) : nowS (ovl th m) [] x = nowS th m x := by
  obtain ⟨h0, h1⟩ := inTh_iff.1 h
  have : nowS (ovl th m) [] x = arrOf ((ovl th m).getD x.toNat (CL.d cS)) := rfl
  rw [this, ovl_get (by omega)]
  congr 1
  omega
theorem inTh_len {th th' : Th} (h : th'.length = th.length) (x : Int) : inTh th' x = inTh th x := by unfold inTh; rw [h]
theorem wrE_zero {th : Th} {fu n : Int} {s : ByteArray} : wrE th fu n s = 0 ↔ inTh th n = true ∧ s.size = 64 ∧ fu ≠ 0 := by
  unfold wrE
  constructor
  · intro h
    repeat' split at h
    all_goals first | (cases h; done) | exact ⟨by assumption, by assumption, by assumption⟩
  · rintro ⟨h1, h2, h3⟩
    simp [h1, h2, h3]
theorem rd_wr {th : Th} {m : As} {fu n x : Int} {s : ByteArray} (h : okD th m fu) : rdS th (wrM th m fu n s) x = if wrE th fu n s = 0 ∧ x = n then s else rdS th m x := by
  unfold wrM
  by_cases he : wrE th fu n s = 0
  · rw [if_pos he]
    obtain ⟨h1, h2, _⟩ := wrE_zero.1 he
    unfold rdS
    rw [nowS_put h.m.1]
    by_cases hx : x = n
    · subst hx
      rw [if_pos h1, if_pos rfl, if_pos ⟨he, rfl⟩, bytes_strInts]
    · simp only [if_neg hx, hx, and_false, if_false]
  · simp only [if_neg he, he, false_and, if_false]
theorem rd_fl {th : Th} {m : As} {fu x : Int} : rdS (flT th m fu) (flM m fu) x = rdS th m x := by
  unfold flT flM
  split
  · rfl
  · unfold rdS
    rw [inTh_len (ovl_len th m)]
    split
    · rename_i hh; rw [nowS_ovl hh]
    · rfl
theorem tabLw_ok {Z : Glob} : tabLw.Ok P Z := Tab.Ok.cons wk_ok.sum (Tab.Ok.cons (lg_ok.sum mLg) (Tab.Ok.cons (read_ok.sum mRd) (Tab.Ok.cons (do_ok.sum mDo) (Tab.Ok.cons wh_ok.sum (Tab.Ok.cons (fuse_ok.sum mFu) (Tab.Ok.cons (dead_ok.sum mAs) (Tab.Ok.cons (copy_ok.sum mAs)
  (Tab.Ok.cons (aside_ok.sum mAs) (Tab.Ok.cons (sumFrz_ok (crash_ok.sum mCr) 1 (.bools [])) (Tab.Ok.cons (flush_ok.sum mAs) (Tab.Ok.cons (write_ok.sum mWr) (Tab.Ok.cons of_ok.sum Tab.Ok.nil))))))))))))
abbrev preWf (ts : List Ty) : AL ts → List Prop := fun x => [AL.wf ts x]
theorem i64_wf {n : Int} (h : (Lit.int .i64 n).wf = true) : -9223372036854775808 ≤ n ∧ n ≤ 9223372036854775807 := by
  simp only [Lit.wf, Bool.and_eq_true, decide_eq_true_eq] at h
  exact h
theorem u8_wf {n : Int} (h : (Lit.int .u8 n).wf = true) : 0 ≤ n ∧ n ≤ 255 := by
  simp only [Lit.wf, Bool.and_eq_true, decide_eq_true_eq] at h
  exact h
structure okSt (x : CL cSt) : Prop where
  k : 0 ≤ stK x ∧ stK x ≤ 255
  n : -9223372036854775808 ≤ stN x ∧ stN x ≤ 9223372036854775807
theorem okSt_wf {l : List (CL cSt)} (h : ∀ y ∈ l, CL.wf cSt y) : ∀ x ∈ l, okSt x := fun x hx => ⟨u8_wf (h x hx).1, i64_wf (h x hx).2.1⟩
theorem diskReads_ok {Z : Glob} : FnOk P Z 12 [tInt, tSteps, tInt] [tBool] (preWf _) (fun _ => (true, ())) := by
  refine fnOk_of_safe Try.func12 (by kernel_rfl) (by kernel_rfl) ?_
  rintro ⟨(sec : Int), (l : List (CL cSt)), (n : Int), ⟨⟩⟩ ⟨_, (hl : l.length ≤ maxLen), _⟩ ⟨⟨hsec, hwl, _⟩, _⟩ X hX hz
  have hN := okSt_wf hwl
  show Safe P 12 X (Ends [tBool] (true, ())) _
  have hl2 : l.length ≤ 9223372036854775807 := by unfold maxLen at hl; omega
  have hT : tabLw.Ok P Z := tabLw_ok
  have loop : ∀ (j k : Nat) (th : Th) (m : As) (fu : Int), k + j = l.length → okD th m fu → Safe P 12 X (Ends [tBool] (true, ())) (cDr l n th m fu (k : Int)) := by
    intro j
    induction j with
    | zero =>
      intro k th m fu hk hd
      refine go hz hX hT Try.func12 (loopDr l n th m fu k) ?_
      repeat' (with_reducible (first | refine h_eq ?_ | refine h_need ?_ ?_ | refine h_dec (fun _ => ?_) (fun _ => ?_) | refine h_beq (fun _ => ?_) (fun _ => ?_) | refine h_bne (fun _ => ?_) (fun _ => ?_) | refine h_tt ?_ | refine h_ff ?_ | refine h_not ?_ | refine h_ite (fun _ => ?_) (fun _ => ?_) | refine h_both (fun _ => ?_) (fun _ => ?_) | refine h_ret ?_ | refine h_at ?_))
      all_goals first | omega | exact ends_bl
    | succ j ih =>
      intro k th m fu hk hd
      have hlt : k < l.length := by omega
      refine go hz hX hT Try.func12 (loopDr l n th m fu k) ?_
      have hx := hN _ (List.getElem_mem hlt)
      rw [← el_lt hlt] at hx
      generalize el l (k : Int) = x at *
      have hd' := ok_st (k := stK x) (n := stN x) (c := stC x) (s := stS x) (ks := stB x) hd hx.n.2
      have next := ih (k + 1) _ _ _ (by omega) hd'
      have next0 := ih (k + 1) _ _ _ (by omega) hd
      have hE : rdE (stT th m fu (stK x) (stN x) (stB x) (stC x)) n = rdE th n := by unfold rdE; rw [inTh_len stT_len]
      have same : ¬ stK x > 2 → ¬ (stK x = 0 ∧ stN x = n ∧ stE fu (stK x) (stN x) th (stS x) (stC x) = 0) → rdS (stT th m fu (stK x) (stN x) (stB x) (stC x)) (stM th m fu (stK x) (stN x) (stS x) (stC x)) n = rdS th m n := by
        intro h1 h2
        have h0 := hx.k.1
        unfold stT stM
        by_cases k0 : stK x = 0
        · rw [if_pos k0, if_pos k0, rd_wr hd, if_neg]
          rintro ⟨e1, e2⟩
          exact h2 ⟨k0, e2.symm, by unfold stE; rw [if_pos k0]; exact e1⟩
        · rw [if_neg k0, if_neg k0]
          by_cases k1 : stK x = 1
          · rw [if_pos k1, if_pos k1, rd_fl]
          · rw [if_neg k1, if_neg k1, if_pos (by omega), if_pos (by omega)]
      have wr : stK x = 0 → stN x = n → stE fu (stK x) (stN x) th (stS x) (stC x) = 0 → rdS (stT th m fu (stK x) (stN x) (stB x) (stC x)) (stM th m fu (stK x) (stN x) (stS x) (stC x)) n = whS (stS x) (stC x) := by
        intro k0 e1 e2
        unfold stE at e2
        rw [if_pos k0] at e2
        unfold stT stM
        rw [if_pos k0, if_pos k0, rd_wr hd, if_pos ⟨e2, e1.symm⟩]
      repeat' (with_reducible (first | refine h_eq ?_ | refine h_need ?_ ?_ | refine h_dec (fun _ => ?_) (fun _ => ?_) | refine h_beq (fun _ => ?_) (fun _ => ?_) | refine h_bne (fun _ => ?_) (fun _ => ?_) | refine h_tt ?_ | refine h_ff ?_ | refine h_not ?_ | refine h_ite (fun _ => ?_) (fun _ => ?_) | refine h_both (fun _ => ?_) (fun _ => ?_) | refine h_ret ?_ | refine h_at ?_))
      all_goals first | omega | exact ⟨by omega, by omega⟩ | assumption | exact next | exact next0 | (exfalso; simp_all; done) | skip
  refine go hz hX hT Try.func12 (treeDr sec l n) ?_
  repeat' (with_reducible (first | refine h_eq ?_ | refine h_need ?_ ?_ | refine h_dec (fun _ => ?_) (fun _ => ?_) | refine h_beq (fun _ => ?_) (fun _ => ?_) | refine h_bne (fun _ => ?_) (fun _ => ?_) | refine h_tt ?_ | refine h_ff ?_ | refine h_not ?_ | refine h_ite (fun _ => ?_) (fun _ => ?_) | refine h_both (fun _ => ?_) (fun _ => ?_) | refine h_ret ?_ | refine h_at ?_))
  all_goals first | omega | exact ends_b | exact ends_bl | skip
  have := loop l.length 0 (List.replicate sec.toNat (CL.d cS)) [] (-1) (by omega) (ok_new (by omega))
  exact this
end Ds

namespace Ds
open Go Go.Sx Go.Proofs Lf
/-! ### Same -/
abbrev arrS (x : CL cS) : List Int := x.1
abbrev fEq : FuncId := 116
def nsEq : List (Nat × Norm) := [(4, ⟨[], [0, 1, 12, 13], 2, []⟩)]
noncomputable def cEq (th th' : Th) (i : Int) : Cfg := ⟨sl 26 [(0, .vec 0), (1, .vec 1), (12, avI (th.length : Int)), (13, avI i)], [.vec (.typ cS th) eS, .vec (.typ cS th') eS], hd Try.f116 4, {}⟩
theorem treeEq (th th' : Th) : run P tab0.sum Try.f116 nsEq (start Try.f116 [.vec 0, .vec 1] [.vec (.typ cS th) eS, .vec (.typ cS th') eS]) =
  Tree.ite ((↑(List.length th) : Int) != (↑(List.length th') : Int)) (Tree.ret [AObj.vec (Con.typ cS th) (169 : Nat), AObj.vec (Con.typ cS th') (169 : Nat)] (AV.s (SV.blit false))) (Tree.at (Cfg.mk (sl (26 : Nat) [((0 : Nat), AV.vec (0 : Nat)), ((1 : Nat), AV.vec (1 : Nat)), ((12 : Nat), AV.s (SV.int IntKind.i64 (↑(List.length th) : Int))), ((13 : Nat), AV.s (SV.int IntKind.i64 (0 : Int)))]) [AObj.vec (Con.typ cS th) (169 : Nat), AObj.vec (Con.typ cS th') (169 : Nat)] (hd Try.f116 (4 : Nat)) (Stk.mk none false (0 : Nat) [] (0 : Nat)))) := by kernel_rfl
theorem loopEq (th th' : Th) (i : Int) : run P tab0.sum Try.f116 nsEq (cEq th th' i) =
  Tree.ite (decide (i < (↑(List.length th) : Int))) (Tree.need ((0 : Int) ≤ i) (Tree.need (i < (↑(List.length th) : Int)) (Tree.need ((arrS (el th i)).length = (64 : Nat)) (Tree.need ((0 : Int) ≤ i) (Tree.need (i < (↑(List.length th') : Int)) (Tree.need ((arrS (el th' i)).length = (64 : Nat)) (Tree.ite (!decide (arrS (el th i) = arrS (el th' i))) (Tree.ret [AObj.vec (Con.typ cS th) (169 : Nat), AObj.vec (Con.typ cS th') (169 : Nat)] (AV.s (SV.blit false))) (Tree.need (inI64 (i + (1 : Int))) (Tree.at (Cfg.mk (sl (26 : Nat) [((0 : Nat), AV.vec (0 : Nat)), ((1 : Nat), AV.vec (1 : Nat)), ((12 : Nat), AV.s (SV.int IntKind.i64 (↑(List.length th) : Int))), ((13 : Nat), AV.s (SV.int IntKind.i64 (i + (1 : Int))))]) [AObj.vec (Con.typ cS th) (169 : Nat), AObj.vec (Con.typ cS th') (169 : Nat)] (hd Try.f116 (4 : Nat)) (Stk.mk none false (0 : Nat) [] (0 : Nat)))))))))))) (Tree.ret [AObj.vec (Con.typ cS th) (169 : Nat), AObj.vec (Con.typ cS th') (169 : Nat)] (AV.s (SV.blit true))) := by kernel_rfl
abbrev fMe : FuncId := 117
def nsMe : List (Nat × Norm) := [(midKey + 3001, ⟨[], [0, 1, 14], 2, []⟩), (4, ⟨[], [1, 15], 2, []⟩)]
noncomputable def cMe3 (m m' : As) : Cfg := ⟨sl 34 [(0, .mapv 0), (1, .mapv 1), (14, .mapv 0)], [.map kS m, .map kS m'], cal Try.f117 3 1, ki 3⟩
noncomputable def cMe3b (m m' : As) : Cfg := ⟨sl 34 [(0, .mapv 0), (1, .mapv 1), (14, .mapv 0), (15, .ptr 3 0)], [.mapb kS m 2, .map kS m', .dead, .iter 0 2 kS m none], cal Try.f117 3 2, ki 3⟩
noncomputable def cMe4 (m m' left : As) (cur : Option (Int × kS.V)) : Cfg := ⟨sl 34 [(1, .mapv 1), (15, .ptr 2 0)], [.mapb kS m 3, .map kS m', .iter 0 3 kS left cur, .dead], hd Try.f117 4, {}⟩
noncomputable def cMe4o (m m' : As) : Cfg := ⟨sl 34 [(1, .mapv 1), (15, .ptr 2 0), (16, .tup [.s (.blit false)])], [.map kS m, .map kS m', .dead, .dead], cal Try.f117 4 1, ki 4⟩
noncomputable def cMe4e (m m' left : As) (p : Int × kS.V) : Cfg := ⟨sl 34 [(1, .mapv 1), (15, .ptr 2 0), (16, .tup [.s (.blit true), avI p.1, kS.av p.2])], [.mapb kS m 3, .map kS m', .iter 0 3 kS left (some p), .dead], cal Try.f117 4 1, ki 4⟩
theorem treeMe (m m' : As) : run P tab0.sum Try.f117 nsMe (start Try.f117 [.mapv 0, .mapv 1] [.map kS m, .map kS m']) =
  Tree.ite ((↑(List.length m) : Int) != (↑(List.length m') : Int)) (Tree.ret [AObj.map (CK.arr IntKind.u8 (64 : Nat)) m, AObj.map (CK.arr IntKind.u8 (64 : Nat)) m'] (AV.s (SV.blit false))) (Tree.at (Cfg.mk (sl (34 : Nat) [((0 : Nat), AV.mapv (0 : Nat)), ((1 : Nat), AV.mapv (1 : Nat)), ((14 : Nat), AV.mapv (0 : Nat))]) [AObj.map (CK.arr IntKind.u8 (64 : Nat)) m, AObj.map (CK.arr IntKind.u8 (64 : Nat)) m'] (cal Try.f117 (3 : Nat) (1 : Nat)) (Stk.mk none false (0 : Nat) [] (3 : Nat)))) := by kernel_rfl
theorem treeMe3b (m m' : As) : run P tab0.sum Try.f117 nsMe (cMe3b m m') =
  Tree.at (Cfg.mk (sl (34 : Nat) [((1 : Nat), AV.mapv (1 : Nat)), ((15 : Nat), AV.ptr (2 : Nat) (0 : Nat))]) [AObj.mapb (CK.arr IntKind.u8 (64 : Nat)) m (3 : Nat), AObj.map (CK.arr IntKind.u8 (64 : Nat)) m', AObj.iter (0 : Nat) (3 : Nat) (CK.arr IntKind.u8 (64 : Nat)) m none, AObj.dead] (hd Try.f117 (4 : Nat)) (Stk.mk none false (0 : Nat) [] (0 : Nat))) := by kernel_rfl
theorem treeMe4 (m m' left : As) (cur : Option (Int × kS.V)) : run P tab0.sum Try.f117 nsMe (cMe4 m m' left cur) =
  Tree.at (Cfg.mk (sl (34 : Nat) [((1 : Nat), AV.mapv (1 : Nat)), ((15 : Nat), AV.ptr (2 : Nat) (0 : Nat))]) [AObj.mapb (CK.arr IntKind.u8 (64 : Nat)) m (3 : Nat), AObj.map (CK.arr IntKind.u8 (64 : Nat)) m', AObj.iter (0 : Nat) (3 : Nat) (CK.arr IntKind.u8 (64 : Nat)) left cur, AObj.dead] (cal Try.f117 (4 : Nat) (0 : Nat)) (Stk.mk none false (0 : Nat) [] (4 : Nat))) := by kernel_rfl
theorem treeMe4o (m m' : As) : run P tab0.sum Try.f117 nsMe (cMe4o m m') =
  Tree.ret [AObj.map (CK.arr IntKind.u8 (64 : Nat)) m, AObj.map (CK.arr IntKind.u8 (64 : Nat)) m', AObj.dead, AObj.dead] (AV.s (SV.blit true)) := by kernel_rfl
theorem treeMe4e (m m' left : As) (p : Int × kS.V) : run P tab0.sum Try.f117 nsMe (cMe4e m m' left p) =
  Tree.ite (!mhas m' p.fst) (Tree.ret [AObj.mapb (CK.arr IntKind.u8 (64 : Nat)) m (3 : Nat), AObj.map (CK.arr IntKind.u8 (64 : Nat)) m', AObj.iter (0 : Nat) (3 : Nat) (CK.arr IntKind.u8 (64 : Nat)) left (some p), AObj.dead, AObj.own [AV.ints IntKind.u8 (64 : Nat) p.snd] (169 : Nat), AObj.own [AV.ints IntKind.u8 (64 : Nat) ((mget m' p.fst).getD (CK.arr IntKind.u8 (64 : Nat)).d)] (169 : Nat)] (AV.s (SV.blit false))) (Tree.ite (!decide (p.snd = (mget m' p.fst).getD (CK.arr IntKind.u8 (64 : Nat)).d)) (Tree.ret [AObj.mapb (CK.arr IntKind.u8 (64 : Nat)) m (3 : Nat), AObj.map (CK.arr IntKind.u8 (64 : Nat)) m', AObj.iter (0 : Nat) (3 : Nat) (CK.arr IntKind.u8 (64 : Nat)) left (some p), AObj.dead, AObj.own [AV.ints IntKind.u8 (64 : Nat) p.snd] (169 : Nat), AObj.own [AV.ints IntKind.u8 (64 : Nat) ((mget m' p.fst).getD (CK.arr IntKind.u8 (64 : Nat)).d)] (169 : Nat)] (AV.s (SV.blit false))) (Tree.at (Cfg.mk (sl (34 : Nat) [((1 : Nat), AV.mapv (1 : Nat)), ((15 : Nat), AV.ptr (2 : Nat) (0 : Nat))]) [AObj.mapb (CK.arr IntKind.u8 (64 : Nat)) m (3 : Nat), AObj.map (CK.arr IntKind.u8 (64 : Nat)) m', AObj.iter (0 : Nat) (3 : Nat) (CK.arr IntKind.u8 (64 : Nat)) left (some p), AObj.dead] (hd Try.f117 (4 : Nat)) (Stk.mk none false (0 : Nat) [] (0 : Nat))))) := by kernel_rfl
def thEq (a b : Th) : Bool := a.length == b.length && (List.range a.length).all fun i => decide (arrS (el a (i : Int)) = arrS (el b (i : Int)))
def mEq (m m' : As) : Bool := m.length == m'.length && m.all fun p => mhas m' p.1 && decide (p.2 = (mget m' p.1).getD kS.d)
abbrev sEq : Spec (Th × Th) := ⟨fun _ => [.vec 0, .vec 1], fun (a, b) => [.vec (.typ cS a) eS, .vec (.typ cS b) eS], fun (a, b) => [okT a, okT b], fun (a, b) => [.vec (.typ cS a) eS, .vec (.typ cS b) eS], fun (a, b) => .s (.bool (thEq a b))⟩
abbrev sMe : Spec (As × As) := ⟨fun _ => [.mapv 0, .mapv 1], fun (m, m') => [.map kS m, .map kS m'], fun _ => [], fun (m, m') => [.map kS m, .map kS m'], fun (m, m') => .s (.bool (mEq m m'))⟩
def mEqT : List AV → RM ((Th × Th) × List Nat)
  | [.vec i, .vec j] => .look i fun o => match o with
    | some (.vec (.typ [.arr .u8 64] a) _) => .look j fun o => match o with
      | some (.vec (.typ [.arr .u8 64] b) _) => .ret ((a, b), [i, j])
      | _ => .fail "no row"
    | _ => .fail "no row"
  | _ => .fail "no row"
def mEqM : List AV → RM ((As × As) × List Nat)
  | [.mapv i, .mapv j] => .look i fun o => match o with
    | some (.map (.arr .u8 64) a) => .look j fun o => match o with
      | some (.map (.arr .u8 64) b) => .ret ((a, b), [i, j])
      | _ => .fail "no map"
    | _ => .fail "no map"
  | _ => .fail "no map"
abbrev hD2 (th : Th) (m : As) (fu : Int) (th' : Th) (m' : As) (fu' : Int) : List AObj := hD th m fu ++ [obD 4 5 fu', .vec (.typ cS th') eS, .map kS m']
abbrev sSm : Spec (Th × As × Int × Th × As × Int) := ⟨fun _ => [.ptr 0 0, .ptr 3 0], fun (th, m, fu, th', m', fu') => hD2 th m fu th' m' fu', fun (th, _, _, th', _, _) => [okT th, okT th'], fun (th, m, fu, th', m', fu') => hD2 th m fu th' m' fu',
  fun (th, m, fu, th', m', fu') => .s (.bool (fu == fu' && (thEq th th' && mEq m m')))⟩
def tabSm : Tab := [(fEq, sumS sEq mEqT), (fMe, sumS sMe mEqM)]
theorem treeSm (th : Th) (m : As) (fu : Int) (th' : Th) (m' : As) (fu' : Int) : run P tabSm.sum Try.f72 [] (start Try.f72 [.ptr 0 0, .ptr 3 0] (hD2 th m fu th' m' fu')) =
  Tree.ite (fu == fu') (Tree.need (@Slf (Option (List AV)) (some [AV.vec (0 : Nat), AV.vec (1 : Nat)])) (Tree.need (@Slf (Option (List AObj)) (some [AObj.vec (Con.typ cS th) (169 : Nat), AObj.vec (Con.typ cS th') (169 : Nat)])) (Tree.need (okT th) (Tree.need (okT th') (Tree.ite (thEq th th') (Tree.need (@Slf (Option (List AV)) (some [AV.mapv (0 : Nat), AV.mapv (1 : Nat)])) (Tree.need (@Slf (Option (List AObj)) (some [AObj.map (CK.arr IntKind.u8 (64 : Nat)) m, AObj.map (CK.arr IntKind.u8 (64 : Nat)) m'])) (Tree.ret [AObj.own [AV.vec (1 : Nat), AV.mapv (2 : Nat), AV.s (SV.int IntKind.i64 fu)] (145 : Nat), AObj.vec (Con.typ cS th) (169 : Nat), AObj.map (CK.arr IntKind.u8 (64 : Nat)) m, AObj.own [AV.vec (4 : Nat), AV.mapv (5 : Nat), AV.s (SV.int IntKind.i64 fu')] (145 : Nat), AObj.vec (Con.typ cS th') (169 : Nat), AObj.map (CK.arr IntKind.u8 (64 : Nat)) m'] (AV.s (SV.bool (mEq m m')))))) (Tree.ret [AObj.own [AV.vec (1 : Nat), AV.mapv (2 : Nat), AV.s (SV.int IntKind.i64 fu)] (145 : Nat), AObj.vec (Con.typ cS th) (169 : Nat), AObj.map (CK.arr IntKind.u8 (64 : Nat)) m, AObj.own [AV.vec (4 : Nat), AV.mapv (5 : Nat), AV.s (SV.int IntKind.i64 fu')] (145 : Nat), AObj.vec (Con.typ cS th') (169 : Nat), AObj.map (CK.arr IntKind.u8 (64 : Nat)) m'] (AV.s (SV.blit false)))))))) (Tree.ret [AObj.own [AV.vec (1 : Nat), AV.mapv (2 : Nat), AV.s (SV.int IntKind.i64 fu)] (145 : Nat), AObj.vec (Con.typ cS th) (169 : Nat), AObj.map (CK.arr IntKind.u8 (64 : Nat)) m, AObj.own [AV.vec (4 : Nat), AV.mapv (5 : Nat), AV.s (SV.int IntKind.i64 fu')] (145 : Nat), AObj.vec (Con.typ cS th') (169 : Nat), AObj.map (CK.arr IntKind.u8 (64 : Nat)) m'] (AV.s (SV.blit false))) := by kernel_rfl
theorem eq_ok {Z : Glob} : FnS P Z fEq sEq := by
  refine fnS_of_safe Try.func116 (by kernel_rfl) (fun x => Nat.le_of_ble_eq_true (by kernel_rfl)) ?_
  rintro ⟨(a : Th), (b : Th)⟩ ⟨(ha : okT a), (hb : okT b), _⟩ X hX hz
  have hns : ∀ x ∈ nsEq, (sEq.heap (a, b)).length ≤ x.2.m := by intro y hy; simp [nsEq] at hy; rcases hy with rfl; exact Nat.le_refl _
  have la := ha.1
  have loop : a.length = b.length → ∀ (j k : Nat), k + j = a.length → (∀ i, i < k → arrS (el a (i : Int)) = arrS (el b (i : Int))) → Safe P fEq X (EndS sEq (a, b)) (cEq a b (k : Int)) := by
    intro hl j
    induction j with
    | zero =>
      intro k hk hi
      refine goS hz hX hns Tab.Ok.nil Try.func116 (loopEq a b k) ?_
      have e : thEq a b = true := by
        simp only [thEq, Bool.and_eq_true, beq_iff_eq, List.all_eq_true, List.mem_range, decide_eq_true_eq]
        exact ⟨hl, fun i h => hi i (by omega)⟩
      repeat' (with_reducible (first | refine h_eq ?_ | refine h_need ?_ ?_ | refine h_dec (fun _ => ?_) (fun _ => ?_) | refine h_beq (fun _ => ?_) (fun _ => ?_) | refine h_bne (fun _ => ?_) (fun _ => ?_) | refine h_tt ?_ | refine h_ff ?_ | refine h_not ?_ | refine h_ite (fun _ => ?_) (fun _ => ?_) | refine h_both (fun _ => ?_) (fun _ => ?_) | refine h_ret ?_ | refine h_at ?_))
      all_goals first | omega | skip
      refine endS 2 rfl (Nat.le_refl _) ?_ rfl
      simp [e, rnS]
    | succ j ih =>
      intro k hk hi
      refine goS hz hX hns Tab.Ok.nil Try.func116 (loopEq a b k) ?_
      have e1 : (arrS (el a (k : Int))).length = 64 := by
        have := ha.2 k (by omega)
        show List.length (α := Int) (a.getD (k : Int).toNat _).1 = 64
        rw [Int.toNat_natCast]; exact this
      have e2 : (arrS (el b (k : Int))).length = 64 := by
        have := hb.2 k (by omega)
        show List.length (α := Int) (b.getD (k : Int).toNat _).1 = 64
        rw [Int.toNat_natCast]; exact this
      repeat' (with_reducible (first | refine h_eq ?_ | refine h_need ?_ ?_ | refine h_dec (fun _ => ?_) (fun _ => ?_) | refine h_beq (fun _ => ?_) (fun _ => ?_) | refine h_bne (fun _ => ?_) (fun _ => ?_) | refine h_tt ?_ | refine h_ff ?_ | refine h_not ?_ | refine h_ite (fun _ => ?_) (fun _ => ?_) | refine h_both (fun _ => ?_) (fun _ => ?_) | refine h_ret ?_ | refine h_at ?_))
      all_goals first | omega | exact e1 | exact e2 | exact ⟨by omega, by omega⟩ | skip
      · refine ih (k + 1) (by omega) fun i h => ?_
        by_cases hik : i = k
        · subst hik; assumption
        · exact hi i (by omega)
      · rename_i hne
        have e : thEq a b = false := by
          rw [← Bool.not_eq_true]
          simp only [thEq, Bool.and_eq_true, beq_iff_eq, List.all_eq_true, List.mem_range, decide_eq_true_eq]
          exact fun h => hne (h.2 k (by omega))
        refine endS 2 rfl (Nat.le_refl _) ?_ rfl
        simp [e, rnS]
  refine goS hz hX hns Tab.Ok.nil Try.func116 (treeEq a b) ?_
  repeat' (with_reducible (first | refine h_eq ?_ | refine h_need ?_ ?_ | refine h_dec (fun _ => ?_) (fun _ => ?_) | refine h_beq (fun _ => ?_) (fun _ => ?_) | refine h_bne (fun _ => ?_) (fun _ => ?_) | refine h_tt ?_ | refine h_ff ?_ | refine h_not ?_ | refine h_ite (fun _ => ?_) (fun _ => ?_) | refine h_both (fun _ => ?_) (fun _ => ?_) | refine h_ret ?_ | refine h_at ?_))
  · have hne : a.length ≠ b.length := by omega
    have e : thEq a b = false := by simp [thEq, hne]
    refine endS 2 rfl (Nat.le_refl _) ?_ rfl
    simp [e, rnS]
  · exact loop (by omega) a.length 0 (by omega) fun i h => absurd h (Nat.not_lt_zero _)
theorem me_ok {Z : Glob} : FnS P Z fMe sMe := by
  refine fnS_of_safe Try.func117 (by kernel_rfl) (fun x => Nat.le_of_ble_eq_true (by kernel_rfl)) ?_
  rintro ⟨(m : As), (m' : As)⟩ _ X hX hz
  have hns : ∀ x ∈ nsMe, (sMe.heap (m, m')).length ≤ x.2.m := by intro y hy; simp [nsMe] at hy; rcases hy with rfl | rfl <;> exact Nat.le_refl _
  let g : Int × kS.V → Bool := fun p => mhas m' p.1 && decide (p.2 = (mget m' p.1).getD kS.d)
  have bad : ∀ p ∈ m, g p = false → mEq m m' = false := fun p hp hg => by
    rw [← Bool.not_eq_true]
    simp only [mEq, Bool.and_eq_true, List.all_eq_true]
    intro h
    have := h.2 p hp
    have h2 : g p = true := by simp only [g, Bool.and_eq_true]; exact this
    rw [hg] at h2; cases h2
  have loop : m.length = m'.length → ∀ (k : Nat) (left : As) (cur : Option (Int × kS.V)), left.length = k → (∀ p ∈ left, p ∈ m) → (left.all g = true → m.all g = true) →
      Safe P fMe X (EndS sMe (m, m')) (cMe4 m m' left cur) := by
    intro hlen k
    induction k with
    | zero =>
      intro left cur hl hin hal
      obtain rfl := List.eq_nil_of_length_eq_zero hl
      refine goS hz hX hns Tab.Ok.nil Try.func117 (treeMe4 m m' [] cur) ?_
      refine next_safe (x := 15) (d := 16) (by kernel_rfl) (by kernel_rfl) (id := 2) (mid := 0) (gid := 3) (ck := kS) (ck' := kS) rfl rfl rfl rfl (fun _ => ?_) (fun j hj => absurd hj (Nat.not_lt_zero _))
      refine goS hz hX hns Tab.Ok.nil Try.func117 (treeMe4o m m') ?_
      have e : mEq m m' = true := by
        have := hal rfl
        simp only [mEq, Bool.and_eq_true, beq_iff_eq]
        exact ⟨hlen, this⟩
      refine endS 2 rfl (Nat.le_refl _) ?_ rfl
      simp [e, rnS]
    | succ k ih =>
      intro left cur hl hin hal
      refine goS hz hX hns Tab.Ok.nil Try.func117 (treeMe4 m m' left cur) ?_
      refine next_safe (x := 15) (d := 16) (by kernel_rfl) (by kernel_rfl) (id := 2) (mid := 0) (gid := 3) (ck := kS) (ck' := kS) rfl rfl rfl rfl (fun h0 => ?_) (fun j hj => ?_)
      · subst h0; simp at hl
      · have hgj : left.getD j (0, kS.d) = left[j] := getD_lt hj
        refine goS hz hX hns Tab.Ok.nil Try.func117 (treeMe4e m m' (left.eraseIdx j) (left.getD j (0, kS.d))) ?_
        rw [hgj]
        have hjm := hin _ (List.getElem_mem hj)
        have hg : left.all g = (g left[j] && (left.eraseIdx j).all g) := ((erase_perm hj).all_eq (f := g)).symm
        have next := fun h : g left[j] = true => ih (left.eraseIdx j) (some left[j]) (by rw [List.length_eraseIdx, if_pos hj]; omega) (fun p hp => hin p (List.mem_of_mem_eraseIdx hp)) (fun h2 => hal (by rw [hg, h, h2]; rfl))
        have fin : g left[j] = false → sMe.out (m, m') = .s (.bool false) := fun h => by show AV.s (.bool (mEq m m')) = _; rw [bad _ hjm h]
        repeat' (with_reducible (first | refine h_eq ?_ | refine h_need ?_ ?_ | refine h_dec (fun _ => ?_) (fun _ => ?_) | refine h_beq (fun _ => ?_) (fun _ => ?_) | refine h_bne (fun _ => ?_) (fun _ => ?_) | refine h_tt ?_ | refine h_ff ?_ | refine h_not ?_ | refine h_ite (fun _ => ?_) (fun _ => ?_) | refine h_both (fun _ => ?_) (fun _ => ?_) | refine h_ret ?_ | refine h_at ?_))
        · rename_i h1 h2
          refine next ?_
          simp only [g]; rw [decide_eq_true h2, h1]; rfl
        · rename_i h1 h2
          refine endS 2 rfl (Nat.le_refl _) (fin ?_) rfl
          simp only [g]; rw [decide_eq_false h2, Bool.and_false]
        · rename_i h
          refine endS 2 rfl (Nat.le_refl _) (fin ?_) rfl
          simp only [g]; rw [h]; rfl
  refine goS hz hX hns Tab.Ok.nil Try.func117 (treeMe m m') ?_
  repeat' (with_reducible (first | refine h_eq ?_ | refine h_need ?_ ?_ | refine h_dec (fun _ => ?_) (fun _ => ?_) | refine h_beq (fun _ => ?_) (fun _ => ?_) | refine h_bne (fun _ => ?_) (fun _ => ?_) | refine h_tt ?_ | refine h_ff ?_ | refine h_not ?_ | refine h_ite (fun _ => ?_) (fun _ => ?_) | refine h_both (fun _ => ?_) (fun _ => ?_) | refine h_ret ?_ | refine h_at ?_))
  · have hne : m.length ≠ m'.length := by omega
    have e : mEq m m' = false := by simp [mEq, hne]
    refine endS 2 rfl (Nat.le_refl _) ?_ rfl
    simp [e, rnS]
  · refine range_safe (t := 143) (x := 14) (d := 15) (by kernel_rfl) (by kernel_rfl) (by kernel_rfl) (id := 0) (ck := kS) rfl rfl ?_
    refine goS hz hX hns Tab.Ok.nil Try.func117 (treeMe3b m m') ?_
    exact loop (by omega) m.length m none rfl (fun p hp => hp) (fun h => h)
theorem tabSm_ok {Z : Glob} : tabSm.Ok P Z := Tab.Ok.cons (eq_ok.sum mEqT) (Tab.Ok.cons (me_ok.sum mEqM) Tab.Ok.nil)
theorem same_ok {Z : Glob} : FnS P Z 72 sSm := by
  refine fnS_of_safe Try.func72 (by kernel_rfl) (fun x => Nat.le_of_ble_eq_true (by kernel_rfl)) ?_
  rintro ⟨(th : Th), (m : As), (fu : Int), (th' : Th), (m' : As), (fu' : Int)⟩ ⟨(h1 : okT th), (h2 : okT th'), _⟩ X hX hz
  refine goS hz hX (by simp) tabSm_ok Try.func72 (treeSm th m fu th' m' fu') ?_
  repeat' (with_reducible (first | refine h_eq ?_ | refine h_need ?_ ?_ | refine h_dec (fun _ => ?_) (fun _ => ?_) | refine h_beq (fun _ => ?_) (fun _ => ?_) | refine h_bne (fun _ => ?_) (fun _ => ?_) | refine h_tt ?_ | refine h_ff ?_ | refine h_not ?_ | refine h_ite (fun _ => ?_) (fun _ => ?_) | refine h_both (fun _ => ?_) (fun _ => ?_) | refine h_ret ?_ | refine h_at ?_))
  all_goals first | assumption | omega | (exact ⟨by omega, by omega⟩) | skip
  all_goals refine endS 6 rfl (Nat.le_refl _) ?_ rfl <;> simp [rnS, *]
end Ds

namespace Ds
open Go Go.Sx Go.Proofs Lf
def mSm : List AV → RM ((Th × As × Int × Th × As × Int) × List Nat)
  | [a, b] => (mAs [a]).bind fun ((th, m, fu), σ) => (mAs [b]).bind fun ((th', m', fu'), σ') => .ret ((th, m, fu, th', m', fu'), σ ++ σ')
  | _ => .fail "no disks"
abbrev sumSm := sumS sSm mSm
def tabLw2 : Tab := (72, sumSm) :: tabLw
abbrev hDD (th : Th) (m : As) (fu : Int) (th' : Th) (m' : As) (fu' : Int) : List AObj := [obD 2 3 fu, obD 4 5 fu', .vec (.typ cS th) eS, .map kS m, .vec (.typ cS th') eS, .map kS m']
/-! DiskDead -/
def nsDd : List (Nat × Norm) := [(7, ⟨[], [1, 2, 7], 0, []⟩), (9, ⟨[], [1, 2, 7, 9], 0, []⟩), (14, ⟨[], [1, 2, 7, 9, 10, 11], 0, []⟩)]
noncomputable def cDd7 (l : List (CL cSt)) (z : Int) (th : Th) (m : As) (fu : Int) : Cfg := ⟨sl 103 [(1, avSteps l), (2, avI z), (7, .ptr 0 0)], hD th m fu, hr Try.f16 7, {}⟩
noncomputable def cDd (l : List (CL cSt)) (z : Int) (th : Th) (m : As) (fu i : Int) : Cfg := ⟨sl 103 [(1, avSteps l), (2, avI z), (7, .ptr 0 0), (9, avI i)], hD th m fu, hd Try.f16 9, {}⟩
noncomputable def cDd14 (l : List (CL cSt)) (z : Int) (th : Th) (m : As) (fu i e : Int) (th' : Th) (m' : As) (fu' : Int) : Cfg := ⟨sl 103 [(1, avSteps l), (2, avI z), (7, .ptr 0 0), (9, avI i), (10, .ptr 1 0), (11, avI e)], hDD th' m' fu' th m fu, hr Try.f16 14, {}⟩
theorem treeDd (sec : Int) (l : List (CL cSt)) (n : Int) : run P tabLw2.sum Try.f16 nsDd (start Try.f16 [avI sec, avSteps l, avI n] []) [28] =
  Tree.ite false (Tree.ret [] (AV.s (SV.bool true))) (Tree.need (Slf (some [AV.s (SV.ro (Con.typ cSt l))])) (Tree.need NoObj (Tree.need (l.length ≤ (9223372036854775807 : Nat)) (Tree.both True (l.length - (300 : Nat) = (0 : Nat)) (Tree.ret [] (AV.s (SV.bool true))) (Tree.ite (decide (sec > (60 : Int))) (Tree.ret [] (AV.s (SV.bool true))) (Tree.ite (decide (sec < (1 : Int))) (Tree.ret [] (AV.s (SV.blit true))) (Tree.ite (decide (sec > (4096 : Int))) (Tree.ret [] (AV.s (SV.blit true))) (Tree.need ((0 : Int) ≤ sec) (Tree.need (sec ≤ sec) (Tree.need (sec ≤ (1073741824 : Int)) (Tree.need ((20 : Int) ≠ (0 : Int)) (Tree.need (inI64 ((IntKind.u64.wrap n).tmod (20 : Int))) (Tree.at (Cfg.mk (sl (103 : Nat) [((1 : Nat), AV.s (SV.ro (Con.typ cSt l))), ((2 : Nat), AV.s (SV.int IntKind.i64 ((IntKind.u64.wrap n).tmod (20 : Int)))), ((7 : Nat), AV.ptr (0 : Nat) (0 : Nat))]) [AObj.own [AV.vec (1 : Nat), AV.mapv (2 : Nat), AV.s (SV.int IntKind.i64 (-1 : Int))] (145 : Nat), AObj.vec (Con.typ cS (List.replicate sec.toNat (CL.d cS))) (169 : Nat), AObj.map (CK.arr IntKind.u8 (64 : Nat)) []] (hr Try.f16 (7 : Nat)) (Stk.mk none false (0 : Nat) [] (0 : Nat)))))))))))))))) := by kernel_rfl
theorem treeDd7 (l : List (CL cSt)) (z : Int) (th : Th) (m : As) (fu : Int) : run P tabLw2.sum Try.f16 nsDd (cDd7 l z th m fu) [28] =
  Tree.need (Slf (some [AV.ptr (0 : Nat) (0 : Nat), AV.s (SV.int IntKind.i64 z)])) (Tree.need (Slf (some [AObj.own [AV.vec (1 : Nat), AV.mapv (2 : Nat), AV.s (SV.int IntKind.i64 fu)] (145 : Nat), AObj.vec (Con.typ cS th) (169 : Nat), AObj.map (CK.arr IntKind.u8 (64 : Nat)) m])) (Tree.at (Cfg.mk (sl (103 : Nat) [((1 : Nat), AV.s (SV.ro (Con.typ cSt l))), ((2 : Nat), AV.s (SV.int IntKind.i64 z)), ((7 : Nat), AV.ptr (0 : Nat) (0 : Nat)), ((9 : Nat), AV.s (SV.int IntKind.i64 (0 : Int)))]) [AObj.own [AV.vec (1 : Nat), AV.mapv (2 : Nat), AV.s (SV.int IntKind.i64 (fuF fu z))] (145 : Nat), AObj.vec (Con.typ cS th) (169 : Nat), AObj.map (CK.arr IntKind.u8 (64 : Nat)) m] (hd Try.f16 (9 : Nat)) (Stk.mk none false (0 : Nat) [] (0 : Nat))))) := by kernel_rfl
theorem loopDd (l : List (CL cSt)) (z : Int) (th : Th) (m : As) (fu i : Int) : run P tabLw2.sum Try.f16 nsDd (cDd l z th m fu i) [28] =
  Tree.ite (decide (i < (↑l.length : Int))) (Tree.need ((0 : Int) ≤ i) (Tree.need (i < (↑l.length : Int)) (Tree.ite (decide (stK (el l i) > (1 : Int))) (Tree.need (inI64 (i + (1 : Int))) (Tree.at (Cfg.mk (sl (103 : Nat) [((1 : Nat), AV.s (SV.ro (Con.typ cSt l))), ((2 : Nat), AV.s (SV.int IntKind.i64 z)), ((7 : Nat), AV.ptr (0 : Nat) (0 : Nat)), ((9 : Nat), AV.s (SV.int IntKind.i64 (i + (1 : Int))))]) [AObj.own [AV.vec (1 : Nat), AV.mapv (2 : Nat), AV.s (SV.int IntKind.i64 fu)] (145 : Nat), AObj.vec (Con.typ cS th) (169 : Nat), AObj.map (CK.arr IntKind.u8 (64 : Nat)) m] (hd Try.f16 (9 : Nat)) (Stk.mk none false (0 : Nat) [] (0 : Nat))))) (Tree.need (Slf (some [AV.ptr (0 : Nat) (0 : Nat)])) (Tree.need (Slf (some [AObj.own [AV.vec (1 : Nat), AV.mapv (2 : Nat), AV.s (SV.int IntKind.i64 fu)] (145 : Nat), AObj.vec (Con.typ cS th) (169 : Nat), AObj.map (CK.arr IntKind.u8 (64 : Nat)) m])) (Tree.need (okD th m fu) (Tree.need ((0 : Int) ≤ i) (Tree.need (i < (↑l.length : Int)) (Tree.need (Slf (some [AV.agg [AV.s (SV.int IntKind.u8 (stK (el l i))), AV.s (SV.int IntKind.i64 (stN (el l i))), AV.s (SV.str (stS (el l i))), AV.s (SV.ro (Con.bools (stB (el l i)))), AV.s (SV.int IntKind.i64 (stC (el l i)))], AV.ptr (0 : Nat) (0 : Nat)])) (Tree.need (Slf (some [AObj.own [AV.vec (1 : Nat), AV.mapv (2 : Nat), AV.s (SV.int IntKind.i64 fu)] (145 : Nat), AObj.vec (Con.typ cS th) (169 : Nat), AObj.map (CK.arr IntKind.u8 (64 : Nat)) m])) (Tree.need (okD th m fu) (Tree.at (Cfg.mk (sl (103 : Nat) [((1 : Nat), AV.s (SV.ro (Con.typ cSt l))), ((2 : Nat), AV.s (SV.int IntKind.i64 z)), ((7 : Nat), AV.ptr (0 : Nat) (0 : Nat)), ((9 : Nat), AV.s (SV.int IntKind.i64 i)), ((10 : Nat), AV.ptr (1 : Nat) (0 : Nat)), ((11 : Nat), AV.s (SV.int IntKind.i64 (stE fu (stK (el l i)) (stN (el l i)) th (stS (el l i)) (stC (el l i)))))]) [AObj.own [AV.vec (2 : Nat), AV.mapv (3 : Nat), AV.s (SV.int IntKind.i64 (stF th fu (stK (el l i)) (stN (el l i)) (stS (el l i)) (stC (el l i))))] (145 : Nat), AObj.own [AV.vec (4 : Nat), AV.mapv (5 : Nat), AV.s (SV.int IntKind.i64 fu)] (145 : Nat), AObj.vec (Con.typ cS (stT th m fu (stK (el l i)) (stN (el l i)) (stB (el l i)) (stC (el l i)))) (169 : Nat), AObj.map (CK.arr IntKind.u8 (64 : Nat)) (stM th m fu (stK (el l i)) (stN (el l i)) (stS (el l i)) (stC (el l i))), AObj.vec (Con.typ cS th) (169 : Nat), AObj.map (CK.arr IntKind.u8 (64 : Nat)) m] (hr Try.f16 (14 : Nat)) (Stk.mk none false (0 : Nat) [] (0 : Nat))))))))))))))) (Tree.need (Slf (some [AV.ptr (0 : Nat) (0 : Nat)])) (Tree.need (Slf (some [AObj.own [AV.vec (1 : Nat), AV.mapv (2 : Nat), AV.s (SV.int IntKind.i64 fu)] (145 : Nat), AObj.vec (Con.typ cS th) (169 : Nat), AObj.map (CK.arr IntKind.u8 (64 : Nat)) m])) (Tree.ret [AObj.own [AV.vec (1 : Nat), AV.mapv (2 : Nat), AV.s (SV.int IntKind.i64 fu)] (145 : Nat), AObj.vec (Con.typ cS th) (169 : Nat), AObj.map (CK.arr IntKind.u8 (64 : Nat)) m] (AV.s (SV.bool ((fu == (0 : Int)) == (z == (0 : Int)))))))) := by kernel_rfl
theorem loopDd14 (l : List (CL cSt)) (z : Int) (th : Th) (m : As) (fu i e : Int) (th' : Th) (m' : As) (fu' : Int) : run P tabLw2.sum Try.f16 nsDd (cDd14 l z th m fu i e th' m' fu') [28] =
  Tree.need (Slf (some [AV.ptr (0 : Nat) (0 : Nat)]))
  (Tree.need (Slf (some [AObj.own [AV.vec (1 : Nat), AV.mapv (2 : Nat), AV.s (SV.int IntKind.i64 fu')] (145 : Nat), AObj.vec (Con.typ cS th') (169 : Nat), AObj.map (CK.arr IntKind.u8 (64 : Nat)) m']))
    (Tree.ite (z == (0 : Int))
      (Tree.ite (!(fu' == (0 : Int)) == true) (Tree.ret [AObj.own [AV.vec (2 : Nat), AV.mapv (3 : Nat), AV.s (SV.int IntKind.i64 fu')] (145 : Nat), AObj.own [AV.vec (4 : Nat), AV.mapv (5 : Nat), AV.s (SV.int IntKind.i64 fu)] (145 : Nat), AObj.vec (Con.typ cS th') (169 : Nat), AObj.map (CK.arr IntKind.u8 (64 : Nat)) m', AObj.vec (Con.typ cS th) (169 : Nat), AObj.map (CK.arr IntKind.u8 (64 : Nat)) m] (AV.s (SV.blit false)))
        (Tree.ite (z == (0 : Int))
          (Tree.ite (e == (0 : Int)) (Tree.ret [AObj.own [AV.vec (2 : Nat), AV.mapv (3 : Nat), AV.s (SV.int IntKind.i64 fu')] (145 : Nat), AObj.own [AV.vec (4 : Nat), AV.mapv (5 : Nat), AV.s (SV.int IntKind.i64 fu)] (145 : Nat), AObj.vec (Con.typ cS th') (169 : Nat), AObj.map (CK.arr IntKind.u8 (64 : Nat)) m', AObj.vec (Con.typ cS th) (169 : Nat), AObj.map (CK.arr IntKind.u8 (64 : Nat)) m] (AV.s (SV.blit false)))
            (Tree.need (Slf (some [AV.ptr (0 : Nat) (0 : Nat), AV.ptr (3 : Nat) (0 : Nat)]))
              (Tree.need (Slf (some [AObj.own [AV.vec (1 : Nat), AV.mapv (2 : Nat), AV.s (SV.int IntKind.i64 fu)] (145 : Nat), AObj.vec (Con.typ cS th) (169 : Nat), AObj.map (CK.arr IntKind.u8 (64 : Nat)) m, AObj.own [AV.vec (4 : Nat), AV.mapv (5 : Nat), AV.s (SV.int IntKind.i64 fu')] (145 : Nat), AObj.vec (Con.typ cS th') (169 : Nat), AObj.map (CK.arr IntKind.u8 (64 : Nat)) m'])) (Tree.need (okT th) (Tree.need (okT th') (Tree.ite (!(fu == fu' && (thEq th th' && mEq m m'))) (Tree.ret [AObj.own [AV.vec (2 : Nat), AV.mapv (3 : Nat), AV.s (SV.int IntKind.i64 fu')] (145 : Nat), AObj.own [AV.vec (4 : Nat), AV.mapv (5 : Nat), AV.s (SV.int IntKind.i64 fu)] (145 : Nat), AObj.vec (Con.typ cS th') (169 : Nat), AObj.map (CK.arr IntKind.u8 (64 : Nat)) m', AObj.vec (Con.typ cS th) (169 : Nat), AObj.map (CK.arr IntKind.u8 (64 : Nat)) m] (AV.s (SV.blit false))) (Tree.ite (e != (0 : Int)) (Tree.need (Slf (some [AV.ptr (0 : Nat) (0 : Nat), AV.ptr (3 : Nat) (0 : Nat)])) (Tree.need (Slf (some [AObj.own [AV.vec (1 : Nat), AV.mapv (2 : Nat), AV.s (SV.int IntKind.i64 fu)] (145 : Nat), AObj.vec (Con.typ cS th) (169 : Nat), AObj.map (CK.arr IntKind.u8 (64 : Nat)) m, AObj.own [AV.vec (4 : Nat), AV.mapv (5 : Nat), AV.s (SV.int IntKind.i64 fu')] (145 : Nat), AObj.vec (Con.typ cS th') (169 : Nat), AObj.map (CK.arr IntKind.u8 (64 : Nat)) m'])) (Tree.need (okT th) (Tree.need (okT th') (Tree.ite (!(fu == fu' && (thEq th th' && mEq m m'))) (Tree.ret [AObj.own [AV.vec (2 : Nat), AV.mapv (3 : Nat), AV.s (SV.int IntKind.i64 fu')] (145 : Nat), AObj.own [AV.vec (4 : Nat), AV.mapv (5 : Nat), AV.s (SV.int IntKind.i64 fu)] (145 : Nat), AObj.vec (Con.typ cS th') (169 : Nat), AObj.map (CK.arr IntKind.u8 (64 : Nat)) m', AObj.vec (Con.typ cS th) (169 : Nat), AObj.map (CK.arr IntKind.u8 (64 : Nat)) m] (AV.s (SV.blit false))) (Tree.ite (e == (0 : Int)) (Tree.need (inI64 (z - (1 : Int))) (Tree.need (inI64 (i + (1 : Int))) (Tree.at (Cfg.mk (sl (103 : Nat) [((1 : Nat), AV.s (SV.ro (Con.typ cSt l))), ((2 : Nat), AV.s (SV.int IntKind.i64 (z - (1 : Int)))), ((7 : Nat), AV.ptr (0 : Nat) (0 : Nat)), ((9 : Nat), AV.s (SV.int IntKind.i64 (i + (1 : Int))))]) [AObj.own [AV.vec (1 : Nat), AV.mapv (2 : Nat), AV.s (SV.int IntKind.i64 fu')] (145 : Nat), AObj.vec (Con.typ cS th') (169 : Nat), AObj.map (CK.arr IntKind.u8 (64 : Nat)) m'] (hd Try.f16 (9 : Nat)) (Stk.mk none false (0 : Nat) [] (0 : Nat)))))) (Tree.need (inI64 (i + (1 : Int))) (Tree.at (Cfg.mk (sl (103 : Nat) [((1 : Nat), AV.s (SV.ro (Con.typ cSt l))), ((2 : Nat), AV.s (SV.int IntKind.i64 z)), ((7 : Nat), AV.ptr (0 : Nat) (0 : Nat)), ((9 : Nat), AV.s (SV.int IntKind.i64 (i + (1 : Int))))]) [AObj.own [AV.vec (1 : Nat), AV.mapv (2 : Nat), AV.s (SV.int IntKind.i64 fu')] (145 : Nat), AObj.vec (Con.typ cS th') (169 : Nat), AObj.map (CK.arr IntKind.u8 (64 : Nat)) m'] (hd Try.f16 (9 : Nat)) (Stk.mk none false (0 : Nat) [] (0 : Nat))))))))))) (Tree.ite (e == (0 : Int)) (Tree.need (inI64 (z - (1 : Int))) (Tree.need (inI64 (i + (1 : Int))) (Tree.at (Cfg.mk (sl (103 : Nat) [((1 : Nat), AV.s (SV.ro (Con.typ cSt l))), ((2 : Nat), AV.s (SV.int IntKind.i64 (z - (1 : Int)))), ((7 : Nat), AV.ptr (0 : Nat) (0 : Nat)), ((9 : Nat), AV.s (SV.int IntKind.i64 (i + (1 : Int))))]) [AObj.own [AV.vec (1 : Nat), AV.mapv (2 : Nat), AV.s (SV.int IntKind.i64 fu')] (145 : Nat), AObj.vec (Con.typ cS th') (169 : Nat), AObj.map (CK.arr IntKind.u8 (64 : Nat)) m'] (hd Try.f16 (9 : Nat)) (Stk.mk none false (0 : Nat) [] (0 : Nat)))))) (Tree.need (inI64 (i + (1 : Int))) (Tree.at (Cfg.mk (sl (103 : Nat) [((1 : Nat), AV.s (SV.ro (Con.typ cSt l))), ((2 : Nat), AV.s (SV.int IntKind.i64 z)), ((7 : Nat), AV.ptr (0 : Nat) (0 : Nat)), ((9 : Nat), AV.s (SV.int IntKind.i64 (i + (1 : Int))))]) [AObj.own [AV.vec (1 : Nat), AV.mapv (2 : Nat), AV.s (SV.int IntKind.i64 fu')] (145 : Nat), AObj.vec (Con.typ cS th') (169 : Nat), AObj.map (CK.arr IntKind.u8 (64 : Nat)) m'] (hd Try.f16 (9 : Nat)) (Stk.mk none false (0 : Nat) [] (0 : Nat)))))))))))))
          (Tree.ite (e != (0 : Int)) (Tree.need (Slf (some [AV.ptr (0 : Nat) (0 : Nat), AV.ptr (3 : Nat) (0 : Nat)])) (Tree.need (Slf (some [AObj.own [AV.vec (1 : Nat), AV.mapv (2 : Nat), AV.s (SV.int IntKind.i64 fu)] (145 : Nat), AObj.vec (Con.typ cS th) (169 : Nat), AObj.map (CK.arr IntKind.u8 (64 : Nat)) m, AObj.own [AV.vec (4 : Nat), AV.mapv (5 : Nat), AV.s (SV.int IntKind.i64 fu')] (145 : Nat), AObj.vec (Con.typ cS th') (169 : Nat), AObj.map (CK.arr IntKind.u8 (64 : Nat)) m'])) (Tree.need (okT th) (Tree.need (okT th') (Tree.ite (!(fu == fu' && (thEq th th' && mEq m m'))) (Tree.ret [AObj.own [AV.vec (2 : Nat), AV.mapv (3 : Nat), AV.s (SV.int IntKind.i64 fu')] (145 : Nat), AObj.own [AV.vec (4 : Nat), AV.mapv (5 : Nat), AV.s (SV.int IntKind.i64 fu)] (145 : Nat), AObj.vec (Con.typ cS th') (169 : Nat), AObj.map (CK.arr IntKind.u8 (64 : Nat)) m', AObj.vec (Con.typ cS th) (169 : Nat), AObj.map (CK.arr IntKind.u8 (64 : Nat)) m] (AV.s (SV.blit false))) (Tree.ite (e == (0 : Int)) (Tree.need (inI64 (z - (1 : Int))) (Tree.need (inI64 (i + (1 : Int))) (Tree.at (Cfg.mk (sl (103 : Nat) [((1 : Nat), AV.s (SV.ro (Con.typ cSt l))), ((2 : Nat), AV.s (SV.int IntKind.i64 (z - (1 : Int)))), ((7 : Nat), AV.ptr (0 : Nat) (0 : Nat)), ((9 : Nat), AV.s (SV.int IntKind.i64 (i + (1 : Int))))]) [AObj.own [AV.vec (1 : Nat), AV.mapv (2 : Nat), AV.s (SV.int IntKind.i64 fu')] (145 : Nat), AObj.vec (Con.typ cS th') (169 : Nat), AObj.map (CK.arr IntKind.u8 (64 : Nat)) m'] (hd Try.f16 (9 : Nat)) (Stk.mk none false (0 : Nat) [] (0 : Nat)))))) (Tree.need (inI64 (i + (1 : Int))) (Tree.at (Cfg.mk (sl (103 : Nat) [((1 : Nat), AV.s (SV.ro (Con.typ cSt l))), ((2 : Nat), AV.s (SV.int IntKind.i64 z)), ((7 : Nat), AV.ptr (0 : Nat) (0 : Nat)), ((9 : Nat), AV.s (SV.int IntKind.i64 (i + (1 : Int))))]) [AObj.own [AV.vec (1 : Nat), AV.mapv (2 : Nat), AV.s (SV.int IntKind.i64 fu')] (145 : Nat), AObj.vec (Con.typ cS th') (169 : Nat), AObj.map (CK.arr IntKind.u8 (64 : Nat)) m'] (hd Try.f16 (9 : Nat)) (Stk.mk none false (0 : Nat) [] (0 : Nat))))))))))) (Tree.ite (e == (0 : Int)) (Tree.need (inI64 (z - (1 : Int))) (Tree.need (inI64 (i + (1 : Int))) (Tree.at (Cfg.mk (sl (103 : Nat) [((1 : Nat), AV.s (SV.ro (Con.typ cSt l))), ((2 : Nat), AV.s (SV.int IntKind.i64 (z - (1 : Int)))), ((7 : Nat), AV.ptr (0 : Nat) (0 : Nat)), ((9 : Nat), AV.s (SV.int IntKind.i64 (i + (1 : Int))))]) [AObj.own [AV.vec (1 : Nat), AV.mapv (2 : Nat), AV.s (SV.int IntKind.i64 fu')] (145 : Nat), AObj.vec (Con.typ cS th') (169 : Nat), AObj.map (CK.arr IntKind.u8 (64 : Nat)) m'] (hd Try.f16 (9 : Nat)) (Stk.mk none false (0 : Nat) [] (0 : Nat)))))) (Tree.need (inI64 (i + (1 : Int))) (Tree.at (Cfg.mk (sl (103 : Nat) [((1 : Nat), AV.s (SV.ro (Con.typ cSt l))), ((2 : Nat), AV.s (SV.int IntKind.i64 z)), ((7 : Nat), AV.ptr (0 : Nat) (0 : Nat)), ((9 : Nat), AV.s (SV.int IntKind.i64 (i + (1 : Int))))]) [AObj.own [AV.vec (1 : Nat), AV.mapv (2 : Nat), AV.s (SV.int IntKind.i64 fu')] (145 : Nat), AObj.vec (Con.typ cS th') (169 : Nat), AObj.map (CK.arr IntKind.u8 (64 : Nat)) m'] (hd Try.f16 (9 : Nat)) (Stk.mk none false (0 : Nat) [] (0 : Nat)))))))))
      (Tree.ite (z == (1 : Int))
        (Tree.ite (!(fu' == (0 : Int)) == (e == (0 : Int))) (Tree.ret [AObj.own [AV.vec (2 : Nat), AV.mapv (3 : Nat), AV.s (SV.int IntKind.i64 fu')] (145 : Nat), AObj.own [AV.vec (4 : Nat), AV.mapv (5 : Nat), AV.s (SV.int IntKind.i64 fu)] (145 : Nat), AObj.vec (Con.typ cS th') (169 : Nat), AObj.map (CK.arr IntKind.u8 (64 : Nat)) m', AObj.vec (Con.typ cS th) (169 : Nat), AObj.map (CK.arr IntKind.u8 (64 : Nat)) m] (AV.s (SV.blit false)))
          (Tree.ite (z == (0 : Int))
            (Tree.ite (e == (0 : Int)) (Tree.ret [AObj.own [AV.vec (2 : Nat), AV.mapv (3 : Nat), AV.s (SV.int IntKind.i64 fu')] (145 : Nat), AObj.own [AV.vec (4 : Nat), AV.mapv (5 : Nat), AV.s (SV.int IntKind.i64 fu)] (145 : Nat), AObj.vec (Con.typ cS th') (169 : Nat), AObj.map (CK.arr IntKind.u8 (64 : Nat)) m', AObj.vec (Con.typ cS th) (169 : Nat), AObj.map (CK.arr IntKind.u8 (64 : Nat)) m] (AV.s (SV.blit false)))
              (Tree.need (Slf (some [AV.ptr (0 : Nat) (0 : Nat), AV.ptr (3 : Nat) (0 : Nat)]))
                (Tree.need (Slf (some [AObj.own [AV.vec (1 : Nat), AV.mapv (2 : Nat), AV.s (SV.int IntKind.i64 fu)] (145 : Nat), AObj.vec (Con.typ cS th) (169 : Nat), AObj.map (CK.arr IntKind.u8 (64 : Nat)) m, AObj.own [AV.vec (4 : Nat), AV.mapv (5 : Nat), AV.s (SV.int IntKind.i64 fu')] (145 : Nat), AObj.vec (Con.typ cS th') (169 : Nat), AObj.map (CK.arr IntKind.u8 (64 : Nat)) m'])) (Tree.need (okT th) (Tree.need (okT th') (Tree.ite (!(fu == fu' && (thEq th th' && mEq m m'))) (Tree.ret [AObj.own [AV.vec (2 : Nat), AV.mapv (3 : Nat), AV.s (SV.int IntKind.i64 fu')] (145 : Nat), AObj.own [AV.vec (4 : Nat), AV.mapv (5 : Nat), AV.s (SV.int IntKind.i64 fu)] (145 : Nat), AObj.vec (Con.typ cS th') (169 : Nat), AObj.map (CK.arr IntKind.u8 (64 : Nat)) m', AObj.vec (Con.typ cS th) (169 : Nat), AObj.map (CK.arr IntKind.u8 (64 : Nat)) m] (AV.s (SV.blit false))) (Tree.ite (e != (0 : Int)) (Tree.need (Slf (some [AV.ptr (0 : Nat) (0 : Nat), AV.ptr (3 : Nat) (0 : Nat)])) (Tree.need (Slf (some [AObj.own [AV.vec (1 : Nat), AV.mapv (2 : Nat), AV.s (SV.int IntKind.i64 fu)] (145 : Nat), AObj.vec (Con.typ cS th) (169 : Nat), AObj.map (CK.arr IntKind.u8 (64 : Nat)) m, AObj.own [AV.vec (4 : Nat), AV.mapv (5 : Nat), AV.s (SV.int IntKind.i64 fu')] (145 : Nat), AObj.vec (Con.typ cS th') (169 : Nat), AObj.map (CK.arr IntKind.u8 (64 : Nat)) m'])) (Tree.need (okT th) (Tree.need (okT th') (Tree.ite (!(fu == fu' && (thEq th th' && mEq m m'))) (Tree.ret [AObj.own [AV.vec (2 : Nat), AV.mapv (3 : Nat), AV.s (SV.int IntKind.i64 fu')] (145 : Nat), AObj.own [AV.vec (4 : Nat), AV.mapv (5 : Nat), AV.s (SV.int IntKind.i64 fu)] (145 : Nat), AObj.vec (Con.typ cS th') (169 : Nat), AObj.map (CK.arr IntKind.u8 (64 : Nat)) m', AObj.vec (Con.typ cS th) (169 : Nat), AObj.map (CK.arr IntKind.u8 (64 : Nat)) m] (AV.s (SV.blit false))) (Tree.ite (e == (0 : Int)) (Tree.need (inI64 (z - (1 : Int))) (Tree.need (inI64 (i + (1 : Int))) (Tree.at (Cfg.mk (sl (103 : Nat) [((1 : Nat), AV.s (SV.ro (Con.typ cSt l))), ((2 : Nat), AV.s (SV.int IntKind.i64 (z - (1 : Int)))), ((7 : Nat), AV.ptr (0 : Nat) (0 : Nat)), ((9 : Nat), AV.s (SV.int IntKind.i64 (i + (1 : Int))))]) [AObj.own [AV.vec (1 : Nat), AV.mapv (2 : Nat), AV.s (SV.int IntKind.i64 fu')] (145 : Nat), AObj.vec (Con.typ cS th') (169 : Nat), AObj.map (CK.arr IntKind.u8 (64 : Nat)) m'] (hd Try.f16 (9 : Nat)) (Stk.mk none false (0 : Nat) [] (0 : Nat)))))) (Tree.need (inI64 (i + (1 : Int))) (Tree.at (Cfg.mk (sl (103 : Nat) [((1 : Nat), AV.s (SV.ro (Con.typ cSt l))), ((2 : Nat), AV.s (SV.int IntKind.i64 z)), ((7 : Nat), AV.ptr (0 : Nat) (0 : Nat)), ((9 : Nat), AV.s (SV.int IntKind.i64 (i + (1 : Int))))]) [AObj.own [AV.vec (1 : Nat), AV.mapv (2 : Nat), AV.s (SV.int IntKind.i64 fu')] (145 : Nat), AObj.vec (Con.typ cS th') (169 : Nat), AObj.map (CK.arr IntKind.u8 (64 : Nat)) m'] (hd Try.f16 (9 : Nat)) (Stk.mk none false (0 : Nat) [] (0 : Nat))))))))))) (Tree.ite (e == (0 : Int)) (Tree.need (inI64 (z - (1 : Int))) (Tree.need (inI64 (i + (1 : Int))) (Tree.at (Cfg.mk (sl (103 : Nat) [((1 : Nat), AV.s (SV.ro (Con.typ cSt l))), ((2 : Nat), AV.s (SV.int IntKind.i64 (z - (1 : Int)))), ((7 : Nat), AV.ptr (0 : Nat) (0 : Nat)), ((9 : Nat), AV.s (SV.int IntKind.i64 (i + (1 : Int))))]) [AObj.own [AV.vec (1 : Nat), AV.mapv (2 : Nat), AV.s (SV.int IntKind.i64 fu')] (145 : Nat), AObj.vec (Con.typ cS th') (169 : Nat), AObj.map (CK.arr IntKind.u8 (64 : Nat)) m'] (hd Try.f16 (9 : Nat)) (Stk.mk none false (0 : Nat) [] (0 : Nat)))))) (Tree.need (inI64 (i + (1 : Int))) (Tree.at (Cfg.mk (sl (103 : Nat) [((1 : Nat), AV.s (SV.ro (Con.typ cSt l))), ((2 : Nat), AV.s (SV.int IntKind.i64 z)), ((7 : Nat), AV.ptr (0 : Nat) (0 : Nat)), ((9 : Nat), AV.s (SV.int IntKind.i64 (i + (1 : Int))))]) [AObj.own [AV.vec (1 : Nat), AV.mapv (2 : Nat), AV.s (SV.int IntKind.i64 fu')] (145 : Nat), AObj.vec (Con.typ cS th') (169 : Nat), AObj.map (CK.arr IntKind.u8 (64 : Nat)) m'] (hd Try.f16 (9 : Nat)) (Stk.mk none false (0 : Nat) [] (0 : Nat)))))))))))))
            (Tree.ite (e != (0 : Int)) (Tree.need (Slf (some [AV.ptr (0 : Nat) (0 : Nat), AV.ptr (3 : Nat) (0 : Nat)])) (Tree.need (Slf (some [AObj.own [AV.vec (1 : Nat), AV.mapv (2 : Nat), AV.s (SV.int IntKind.i64 fu)] (145 : Nat), AObj.vec (Con.typ cS th) (169 : Nat), AObj.map (CK.arr IntKind.u8 (64 : Nat)) m, AObj.own [AV.vec (4 : Nat), AV.mapv (5 : Nat), AV.s (SV.int IntKind.i64 fu')] (145 : Nat), AObj.vec (Con.typ cS th') (169 : Nat), AObj.map (CK.arr IntKind.u8 (64 : Nat)) m'])) (Tree.need (okT th) (Tree.need (okT th') (Tree.ite (!(fu == fu' && (thEq th th' && mEq m m'))) (Tree.ret [AObj.own [AV.vec (2 : Nat), AV.mapv (3 : Nat), AV.s (SV.int IntKind.i64 fu')] (145 : Nat), AObj.own [AV.vec (4 : Nat), AV.mapv (5 : Nat), AV.s (SV.int IntKind.i64 fu)] (145 : Nat), AObj.vec (Con.typ cS th') (169 : Nat), AObj.map (CK.arr IntKind.u8 (64 : Nat)) m', AObj.vec (Con.typ cS th) (169 : Nat), AObj.map (CK.arr IntKind.u8 (64 : Nat)) m] (AV.s (SV.blit false))) (Tree.ite (e == (0 : Int)) (Tree.need (inI64 (z - (1 : Int))) (Tree.need (inI64 (i + (1 : Int))) (Tree.at (Cfg.mk (sl (103 : Nat) [((1 : Nat), AV.s (SV.ro (Con.typ cSt l))), ((2 : Nat), AV.s (SV.int IntKind.i64 (z - (1 : Int)))), ((7 : Nat), AV.ptr (0 : Nat) (0 : Nat)), ((9 : Nat), AV.s (SV.int IntKind.i64 (i + (1 : Int))))]) [AObj.own [AV.vec (1 : Nat), AV.mapv (2 : Nat), AV.s (SV.int IntKind.i64 fu')] (145 : Nat), AObj.vec (Con.typ cS th') (169 : Nat), AObj.map (CK.arr IntKind.u8 (64 : Nat)) m'] (hd Try.f16 (9 : Nat)) (Stk.mk none false (0 : Nat) [] (0 : Nat)))))) (Tree.need (inI64 (i + (1 : Int))) (Tree.at (Cfg.mk (sl (103 : Nat) [((1 : Nat), AV.s (SV.ro (Con.typ cSt l))), ((2 : Nat), AV.s (SV.int IntKind.i64 z)), ((7 : Nat), AV.ptr (0 : Nat) (0 : Nat)), ((9 : Nat), AV.s (SV.int IntKind.i64 (i + (1 : Int))))]) [AObj.own [AV.vec (1 : Nat), AV.mapv (2 : Nat), AV.s (SV.int IntKind.i64 fu')] (145 : Nat), AObj.vec (Con.typ cS th') (169 : Nat), AObj.map (CK.arr IntKind.u8 (64 : Nat)) m'] (hd Try.f16 (9 : Nat)) (Stk.mk none false (0 : Nat) [] (0 : Nat))))))))))) (Tree.ite (e == (0 : Int)) (Tree.need (inI64 (z - (1 : Int))) (Tree.need (inI64 (i + (1 : Int))) (Tree.at (Cfg.mk (sl (103 : Nat) [((1 : Nat), AV.s (SV.ro (Con.typ cSt l))), ((2 : Nat), AV.s (SV.int IntKind.i64 (z - (1 : Int)))), ((7 : Nat), AV.ptr (0 : Nat) (0 : Nat)), ((9 : Nat), AV.s (SV.int IntKind.i64 (i + (1 : Int))))]) [AObj.own [AV.vec (1 : Nat), AV.mapv (2 : Nat), AV.s (SV.int IntKind.i64 fu')] (145 : Nat), AObj.vec (Con.typ cS th') (169 : Nat), AObj.map (CK.arr IntKind.u8 (64 : Nat)) m'] (hd Try.f16 (9 : Nat)) (Stk.mk none false (0 : Nat) [] (0 : Nat)))))) (Tree.need (inI64 (i + (1 : Int))) (Tree.at (Cfg.mk (sl (103 : Nat) [((1 : Nat), AV.s (SV.ro (Con.typ cSt l))), ((2 : Nat), AV.s (SV.int IntKind.i64 z)), ((7 : Nat), AV.ptr (0 : Nat) (0 : Nat)), ((9 : Nat), AV.s (SV.int IntKind.i64 (i + (1 : Int))))]) [AObj.own [AV.vec (1 : Nat), AV.mapv (2 : Nat), AV.s (SV.int IntKind.i64 fu')] (145 : Nat), AObj.vec (Con.typ cS th') (169 : Nat), AObj.map (CK.arr IntKind.u8 (64 : Nat)) m'] (hd Try.f16 (9 : Nat)) (Stk.mk none false (0 : Nat) [] (0 : Nat)))))))))
        (Tree.ite (!(fu' == (0 : Int)) == false) (Tree.ret [AObj.own [AV.vec (2 : Nat), AV.mapv (3 : Nat), AV.s (SV.int IntKind.i64 fu')] (145 : Nat), AObj.own [AV.vec (4 : Nat), AV.mapv (5 : Nat), AV.s (SV.int IntKind.i64 fu)] (145 : Nat), AObj.vec (Con.typ cS th') (169 : Nat), AObj.map (CK.arr IntKind.u8 (64 : Nat)) m', AObj.vec (Con.typ cS th) (169 : Nat), AObj.map (CK.arr IntKind.u8 (64 : Nat)) m] (AV.s (SV.blit false)))
          (Tree.ite (z == (0 : Int))
            (Tree.ite (e == (0 : Int)) (Tree.ret [AObj.own [AV.vec (2 : Nat), AV.mapv (3 : Nat), AV.s (SV.int IntKind.i64 fu')] (145 : Nat), AObj.own [AV.vec (4 : Nat), AV.mapv (5 : Nat), AV.s (SV.int IntKind.i64 fu)] (145 : Nat), AObj.vec (Con.typ cS th') (169 : Nat), AObj.map (CK.arr IntKind.u8 (64 : Nat)) m', AObj.vec (Con.typ cS th) (169 : Nat), AObj.map (CK.arr IntKind.u8 (64 : Nat)) m] (AV.s (SV.blit false)))
              (Tree.need (Slf (some [AV.ptr (0 : Nat) (0 : Nat), AV.ptr (3 : Nat) (0 : Nat)]))
                (Tree.need (Slf (some [AObj.own [AV.vec (1 : Nat), AV.mapv (2 : Nat), AV.s (SV.int IntKind.i64 fu)] (145 : Nat), AObj.vec (Con.typ cS th) (169 : Nat), AObj.map (CK.arr IntKind.u8 (64 : Nat)) m, AObj.own [AV.vec (4 : Nat), AV.mapv (5 : Nat), AV.s (SV.int IntKind.i64 fu')] (145 : Nat), AObj.vec (Con.typ cS th') (169 : Nat), AObj.map (CK.arr IntKind.u8 (64 : Nat)) m'])) (Tree.need (okT th) (Tree.need (okT th') (Tree.ite (!(fu == fu' && (thEq th th' && mEq m m'))) (Tree.ret [AObj.own [AV.vec (2 : Nat), AV.mapv (3 : Nat), AV.s (SV.int IntKind.i64 fu')] (145 : Nat), AObj.own [AV.vec (4 : Nat), AV.mapv (5 : Nat), AV.s (SV.int IntKind.i64 fu)] (145 : Nat), AObj.vec (Con.typ cS th') (169 : Nat), AObj.map (CK.arr IntKind.u8 (64 : Nat)) m', AObj.vec (Con.typ cS th) (169 : Nat), AObj.map (CK.arr IntKind.u8 (64 : Nat)) m] (AV.s (SV.blit false))) (Tree.ite (e != (0 : Int)) (Tree.need (Slf (some [AV.ptr (0 : Nat) (0 : Nat), AV.ptr (3 : Nat) (0 : Nat)])) (Tree.need (Slf (some [AObj.own [AV.vec (1 : Nat), AV.mapv (2 : Nat), AV.s (SV.int IntKind.i64 fu)] (145 : Nat), AObj.vec (Con.typ cS th) (169 : Nat), AObj.map (CK.arr IntKind.u8 (64 : Nat)) m, AObj.own [AV.vec (4 : Nat), AV.mapv (5 : Nat), AV.s (SV.int IntKind.i64 fu')] (145 : Nat), AObj.vec (Con.typ cS th') (169 : Nat), AObj.map (CK.arr IntKind.u8 (64 : Nat)) m'])) (Tree.need (okT th) (Tree.need (okT th') (Tree.ite (!(fu == fu' && (thEq th th' && mEq m m'))) (Tree.ret [AObj.own [AV.vec (2 : Nat), AV.mapv (3 : Nat), AV.s (SV.int IntKind.i64 fu')] (145 : Nat), AObj.own [AV.vec (4 : Nat), AV.mapv (5 : Nat), AV.s (SV.int IntKind.i64 fu)] (145 : Nat), AObj.vec (Con.typ cS th') (169 : Nat), AObj.map (CK.arr IntKind.u8 (64 : Nat)) m', AObj.vec (Con.typ cS th) (169 : Nat), AObj.map (CK.arr IntKind.u8 (64 : Nat)) m] (AV.s (SV.blit false))) (Tree.ite (e == (0 : Int)) (Tree.need (inI64 (z - (1 : Int))) (Tree.need (inI64 (i + (1 : Int))) (Tree.at (Cfg.mk (sl (103 : Nat) [((1 : Nat), AV.s (SV.ro (Con.typ cSt l))), ((2 : Nat), AV.s (SV.int IntKind.i64 (z - (1 : Int)))), ((7 : Nat), AV.ptr (0 : Nat) (0 : Nat)), ((9 : Nat), AV.s (SV.int IntKind.i64 (i + (1 : Int))))]) [AObj.own [AV.vec (1 : Nat), AV.mapv (2 : Nat), AV.s (SV.int IntKind.i64 fu')] (145 : Nat), AObj.vec (Con.typ cS th') (169 : Nat), AObj.map (CK.arr IntKind.u8 (64 : Nat)) m'] (hd Try.f16 (9 : Nat)) (Stk.mk none false (0 : Nat) [] (0 : Nat)))))) (Tree.need (inI64 (i + (1 : Int))) (Tree.at (Cfg.mk (sl (103 : Nat) [((1 : Nat), AV.s (SV.ro (Con.typ cSt l))), ((2 : Nat), AV.s (SV.int IntKind.i64 z)), ((7 : Nat), AV.ptr (0 : Nat) (0 : Nat)), ((9 : Nat), AV.s (SV.int IntKind.i64 (i + (1 : Int))))]) [AObj.own [AV.vec (1 : Nat), AV.mapv (2 : Nat), AV.s (SV.int IntKind.i64 fu')] (145 : Nat), AObj.vec (Con.typ cS th') (169 : Nat), AObj.map (CK.arr IntKind.u8 (64 : Nat)) m'] (hd Try.f16 (9 : Nat)) (Stk.mk none false (0 : Nat) [] (0 : Nat))))))))))) (Tree.ite (e == (0 : Int)) (Tree.need (inI64 (z - (1 : Int))) (Tree.need (inI64 (i + (1 : Int))) (Tree.at (Cfg.mk (sl (103 : Nat) [((1 : Nat), AV.s (SV.ro (Con.typ cSt l))), ((2 : Nat), AV.s (SV.int IntKind.i64 (z - (1 : Int)))), ((7 : Nat), AV.ptr (0 : Nat) (0 : Nat)), ((9 : Nat), AV.s (SV.int IntKind.i64 (i + (1 : Int))))]) [AObj.own [AV.vec (1 : Nat), AV.mapv (2 : Nat), AV.s (SV.int IntKind.i64 fu')] (145 : Nat), AObj.vec (Con.typ cS th') (169 : Nat), AObj.map (CK.arr IntKind.u8 (64 : Nat)) m'] (hd Try.f16 (9 : Nat)) (Stk.mk none false (0 : Nat) [] (0 : Nat)))))) (Tree.need (inI64 (i + (1 : Int))) (Tree.at (Cfg.mk (sl (103 : Nat) [((1 : Nat), AV.s (SV.ro (Con.typ cSt l))), ((2 : Nat), AV.s (SV.int IntKind.i64 z)), ((7 : Nat), AV.ptr (0 : Nat) (0 : Nat)), ((9 : Nat), AV.s (SV.int IntKind.i64 (i + (1 : Int))))]) [AObj.own [AV.vec (1 : Nat), AV.mapv (2 : Nat), AV.s (SV.int IntKind.i64 fu')] (145 : Nat), AObj.vec (Con.typ cS th') (169 : Nat), AObj.map (CK.arr IntKind.u8 (64 : Nat)) m'] (hd Try.f16 (9 : Nat)) (Stk.mk none false (0 : Nat) [] (0 : Nat)))))))))))))
            (Tree.ite (e != (0 : Int)) (Tree.need (Slf (some [AV.ptr (0 : Nat) (0 : Nat), AV.ptr (3 : Nat) (0 : Nat)])) (Tree.need (Slf (some [AObj.own [AV.vec (1 : Nat), AV.mapv (2 : Nat), AV.s (SV.int IntKind.i64 fu)] (145 : Nat), AObj.vec (Con.typ cS th) (169 : Nat), AObj.map (CK.arr IntKind.u8 (64 : Nat)) m, AObj.own [AV.vec (4 : Nat), AV.mapv (5 : Nat), AV.s (SV.int IntKind.i64 fu')] (145 : Nat), AObj.vec (Con.typ cS th') (169 : Nat), AObj.map (CK.arr IntKind.u8 (64 : Nat)) m'])) (Tree.need (okT th) (Tree.need (okT th') (Tree.ite (!(fu == fu' && (thEq th th' && mEq m m'))) (Tree.ret [AObj.own [AV.vec (2 : Nat), AV.mapv (3 : Nat), AV.s (SV.int IntKind.i64 fu')] (145 : Nat), AObj.own [AV.vec (4 : Nat), AV.mapv (5 : Nat), AV.s (SV.int IntKind.i64 fu)] (145 : Nat), AObj.vec (Con.typ cS th') (169 : Nat), AObj.map (CK.arr IntKind.u8 (64 : Nat)) m', AObj.vec (Con.typ cS th) (169 : Nat), AObj.map (CK.arr IntKind.u8 (64 : Nat)) m] (AV.s (SV.blit false))) (Tree.ite (e == (0 : Int)) (Tree.need (inI64 (z - (1 : Int))) (Tree.need (inI64 (i + (1 : Int))) (Tree.at (Cfg.mk (sl (103 : Nat) [((1 : Nat), AV.s (SV.ro (Con.typ cSt l))), ((2 : Nat), AV.s (SV.int IntKind.i64 (z - (1 : Int)))), ((7 : Nat), AV.ptr (0 : Nat) (0 : Nat)), ((9 : Nat), AV.s (SV.int IntKind.i64 (i + (1 : Int))))]) [AObj.own [AV.vec (1 : Nat), AV.mapv (2 : Nat), AV.s (SV.int IntKind.i64 fu')] (145 : Nat), AObj.vec (Con.typ cS th') (169 : Nat), AObj.map (CK.arr IntKind.u8 (64 : Nat)) m'] (hd Try.f16 (9 : Nat)) (Stk.mk none false (0 : Nat) [] (0 : Nat)))))) (Tree.need (inI64 (i + (1 : Int))) (Tree.at (Cfg.mk (sl (103 : Nat) [((1 : Nat), AV.s (SV.ro (Con.typ cSt l))), ((2 : Nat), AV.s (SV.int IntKind.i64 z)), ((7 : Nat), AV.ptr (0 : Nat) (0 : Nat)), ((9 : Nat), AV.s (SV.int IntKind.i64 (i + (1 : Int))))]) [AObj.own [AV.vec (1 : Nat), AV.mapv (2 : Nat), AV.s (SV.int IntKind.i64 fu')] (145 : Nat), AObj.vec (Con.typ cS th') (169 : Nat), AObj.map (CK.arr IntKind.u8 (64 : Nat)) m'] (hd Try.f16 (9 : Nat)) (Stk.mk none false (0 : Nat) [] (0 : Nat))))))))))) (Tree.ite (e == (0 : Int)) (Tree.need (inI64 (z - (1 : Int))) (Tree.need (inI64 (i + (1 : Int))) (Tree.at (Cfg.mk (sl (103 : Nat) [((1 : Nat), AV.s (SV.ro (Con.typ cSt l))), ((2 : Nat), AV.s (SV.int IntKind.i64 (z - (1 : Int)))), ((7 : Nat), AV.ptr (0 : Nat) (0 : Nat)), ((9 : Nat), AV.s (SV.int IntKind.i64 (i + (1 : Int))))]) [AObj.own [AV.vec (1 : Nat), AV.mapv (2 : Nat), AV.s (SV.int IntKind.i64 fu')] (145 : Nat), AObj.vec (Con.typ cS th') (169 : Nat), AObj.map (CK.arr IntKind.u8 (64 : Nat)) m'] (hd Try.f16 (9 : Nat)) (Stk.mk none false (0 : Nat) [] (0 : Nat)))))) (Tree.need (inI64 (i + (1 : Int))) (Tree.at (Cfg.mk (sl (103 : Nat) [((1 : Nat), AV.s (SV.ro (Con.typ cSt l))), ((2 : Nat), AV.s (SV.int IntKind.i64 z)), ((7 : Nat), AV.ptr (0 : Nat) (0 : Nat)), ((9 : Nat), AV.s (SV.int IntKind.i64 (i + (1 : Int))))]) [AObj.own [AV.vec (1 : Nat), AV.mapv (2 : Nat), AV.s (SV.int IntKind.i64 fu')] (145 : Nat), AObj.vec (Con.typ cS th') (169 : Nat), AObj.map (CK.arr IntKind.u8 (64 : Nat)) m'] (hd Try.f16 (9 : Nat)) (Stk.mk none false (0 : Nat) [] (0 : Nat)))))))))))) := by kernel_rfl
theorem tabLw2_ok {Z : Glob} : tabLw2.Ok P Z := Tab.Ok.cons (same_ok.sum mSm) tabLw_ok
theorem thEq_refl (a : Th) : thEq a a = true := by simp [thEq]
theorem mEq_refl {m : As} (h : (m.map (·.1)).Nodup) : mEq m m = true := by
  simp only [mEq, Bool.and_eq_true, List.all_eq_true, decide_eq_true_eq, beq_iff_eq, true_and]
  intro p hp
  rw [mget_has, mget_of h hp]
  exact ⟨rfl, rfl⟩
theorem u64_mod (n : Int) : 0 ≤ IntKind.u64.wrap n := by
  unfold IntKind.wrap
  simp only [show IntKind.u64.signed = false from rfl, Bool.false_and, Bool.false_eq_true, if_false]
  exact Int.emod_nonneg _ (by decide)
theorem st_same {th : Th} {m : As} {fu k n c : Int} {s : ByteArray} {ks : List Bool} (hk : 0 ≤ k) (hk1 : ¬ k > 1) (he : stE fu k n th s c ≠ 0) :
    stT th m fu k n ks c = th ∧ stM th m fu k n s c = m ∧ stF th fu k n s c = fu := by
  unfold stE at he
  unfold stT stM stF
  by_cases k0 : k = 0
  · rw [if_pos k0] at he ⊢
    rw [if_pos k0, if_pos k0]
    refine ⟨rfl, by unfold wrM; rw [if_neg he], ?_⟩
    unfold wrF
    split
    · rename_i hh
      have : fu = 0 := Classical.byContradiction fun hf => he (wrE_zero.2 ⟨hh.1, hh.2, hf⟩)
      simp [burnF, this]
    · rfl
  · have k1 : k = 1 := by omega
    rw [if_neg k0, if_pos k1] at he ⊢
    rw [if_neg k0, if_pos k1, if_neg k0, if_pos k1]
    have : fu = 0 := by
      unfold flE at he
      split at he
      · assumption
      · exact absurd rfl he
    simp [flT, flM, burnF, this]
theorem st_fuse {th : Th} {fu k n c : Int} {s : ByteArray} (hk : 0 ≤ k) (hk1 : ¬ k > 1) (hf : 0 ≤ fu) (he : stE fu k n th s c = 0) : fu ≠ 0 ∧ stF th fu k n s c = fu - 1 := by
  unfold stE at he
  unfold stF
  by_cases k0 : k = 0
  · rw [if_pos k0] at he ⊢
    obtain ⟨h1, h2, h3⟩ := wrE_zero.1 he
    refine ⟨h3, ?_⟩
    unfold wrF burnF imax
    rw [if_pos ⟨h1, h2⟩, if_neg h3]
    split <;> omega
  · have k1 : k = 1 := by omega
    rw [if_neg k0, if_pos k1] at he ⊢
    have h3 : fu ≠ 0 := by
      unfold flE at he
      split at he
      · cases he
      · assumption
    refine ⟨h3, ?_⟩
    unfold burnF imax
    rw [if_neg h3]
    split <;> omega
theorem diskDead_ok {Z : Glob} : FnOk P Z 16 [tInt, tSteps, tInt] [tBool] (preWf _) (fun _ => (true, ())) := by
  refine fnOk_of_safe Try.func16 (by kernel_rfl) (by kernel_rfl) ?_
  rintro ⟨(sec : Int), (l : List (CL cSt)), (n : Int), ⟨⟩⟩ ⟨_, (hl : l.length ≤ maxLen), _⟩ ⟨⟨hsec, hwl, _⟩, _⟩ X hX hz
  have hN := okSt_wf hwl
  show Safe P 16 X (Ends [tBool] (true, ())) _
  have hl2 : l.length ≤ 9223372036854775807 := by unfold maxLen at hl; omega
  have hT : tabLw2.Ok P Z := tabLw2_ok
  have loop : ∀ (j k : Nat) (th : Th) (m : As) (z : Int), k + j = l.length → okD th m z → 0 ≤ z → Safe P 16 X (Ends [tBool] (true, ())) (cDd l z th m z (k : Int)) := by
    intro j
    induction j with
    | zero =>
      intro k th m z hk hd h0
      refine go hz hX hT Try.func16 (loopDd l z th m z k) ?_
      repeat' (with_reducible (first | refine h_eq ?_ | refine h_need ?_ ?_ | refine h_dec (fun _ => ?_) (fun _ => ?_) | refine h_beq (fun _ => ?_) (fun _ => ?_) | refine h_bne (fun _ => ?_) (fun _ => ?_) | refine h_tt ?_ | refine h_ff ?_ | refine h_not ?_ | refine h_ite (fun _ => ?_) (fun _ => ?_) | refine h_both (fun _ => ?_) (fun _ => ?_) | refine h_ret ?_ | refine h_at ?_))
      all_goals first | omega | skip
      have e : ((z == 0) == (z == 0)) = true := by simp
      show Ends _ _ _ (.s (.bool ((z == 0) == (z == 0))))
      rw [e]; exact ends_b
    | succ j ih =>
      intro k th m z hk hd h0
      have hlt : k < l.length := by omega
      refine go hz hX hT Try.func16 (loopDd l z th m z k) ?_
      have hx := hN _ (List.getElem_mem hlt)
      rw [← el_lt hlt] at hx
      generalize el l (k : Int) = x at *
      have hd' := ok_st (k := stK x) (n := stN x) (c := stC x) (s := stS x) (ks := stB x) hd hx.n.2
      have next0 := ih (k + 1) _ _ _ (by omega) hd h0
      have hzf := hd.f.2
      repeat' (with_reducible (first | refine h_eq ?_ | refine h_need ?_ ?_ | refine h_dec (fun _ => ?_) (fun _ => ?_) | refine h_beq (fun _ => ?_) (fun _ => ?_) | refine h_bne (fun _ => ?_) (fun _ => ?_) | refine h_tt ?_ | refine h_ff ?_ | refine h_not ?_ | refine h_ite (fun _ => ?_) (fun _ => ?_) | refine h_both (fun _ => ?_) (fun _ => ?_) | refine h_ret ?_ | refine h_at ?_))
      all_goals first | omega | exact ⟨by omega, by omega⟩ | assumption | exact next0 | skip
      have hk1 : ¬ stK x > 1 := by assumption
      show Safe P _ X _ (cDd14 l z th m z k (stE z (stK x) (stN x) th (stS x) (stC x)) _ _ _)
      by_cases he : stE z (stK x) (stN x) th (stS x) (stC x) = 0
      · obtain ⟨f1, f2⟩ := st_fuse hx.k.1 hk1 h0 he
        have next := ih (k + 1) _ _ _ (by omega) hd' (by omega)
        have ht := hd'.t
        rw [f2] at next ⊢
        rw [he]
        generalize stT th m z (stK x) (stN x) (stB x) (stC x) = th' at *
        generalize stM th m z (stK x) (stN x) (stS x) (stC x) = m' at *
        refine go hz hX hT Try.func16 (loopDd14 l z th m z k 0 th' m' (z - 1)) ?_
        repeat' (with_reducible (first | refine h_eq ?_ | refine h_need ?_ ?_ | refine h_dec (fun _ => ?_) (fun _ => ?_) | refine h_beq (fun _ => ?_) (fun _ => ?_) | refine h_bne (fun _ => ?_) (fun _ => ?_) | refine h_tt ?_ | refine h_ff ?_ | refine h_not ?_ | refine h_ite (fun _ => ?_) (fun _ => ?_) | refine h_both (fun _ => ?_) (fun _ => ?_) | refine h_ret ?_ | refine h_at ?_))
        all_goals first | omega | exact ⟨by omega, by omega⟩ | assumption | exact hd.t | exact next | skip
        all_goals first | (exfalso; simp_all; done) | (exfalso; simp_all; omega)
      · obtain ⟨f1, f2, f3⟩ := st_same (m := m) (ks := stB x) hx.k.1 hk1 he
        rw [f1, f2, f3]
        generalize stE z (stK x) (stN x) th (stS x) (stC x) = e at *
        have hs : (z == z && (thEq th th && mEq m m)) = true := by rw [thEq_refl, mEq_refl hd.m.1]; simp
        refine go hz hX hT Try.func16 (loopDd14 l z th m z k e th m z) ?_
        repeat' (with_reducible (first | refine h_eq ?_ | refine h_need ?_ ?_ | refine h_dec (fun _ => ?_) (fun _ => ?_) | refine h_beq (fun _ => ?_) (fun _ => ?_) | refine h_bne (fun _ => ?_) (fun _ => ?_) | refine h_tt ?_ | refine h_ff ?_ | refine h_not ?_ | refine h_ite (fun _ => ?_) (fun _ => ?_) | refine h_both (fun _ => ?_) (fun _ => ?_) | refine h_ret ?_ | refine h_at ?_))
        all_goals first | omega | exact ⟨by omega, by omega⟩ | assumption | exact hd.t | exact next0 | skip
        all_goals first | (exfalso; simp_all; done) | (exfalso; simp_all; omega)
  refine go hz hX hT Try.func16 (treeDd sec l n) ?_
  have hz0 := u64_mod n
  have z0 : 0 ≤ (IntKind.u64.wrap n).tmod 20 := Int.tmod_nonneg _ hz0
  have z1 : (IntKind.u64.wrap n).tmod 20 < 20 := Int.tmod_lt_of_pos _ (by omega)
  repeat' (with_reducible (first | refine h_eq ?_ | refine h_need ?_ ?_ | refine h_dec (fun _ => ?_) (fun _ => ?_) | refine h_beq (fun _ => ?_) (fun _ => ?_) | refine h_bne (fun _ => ?_) (fun _ => ?_) | refine h_tt ?_ | refine h_ff ?_ | refine h_not ?_ | refine h_ite (fun _ => ?_) (fun _ => ?_) | refine h_both (fun _ => ?_) (fun _ => ?_) | refine h_ret ?_ | refine h_at ?_))
  all_goals first | omega | exact ends_b | exact ends_bl | exact ⟨by omega, by omega⟩ | skip
  generalize (IntKind.u64.wrap n).tmod 20 = z at *
  show Safe P _ X _ (cDd7 l z _ _ _)
  have hn := ok_new (n := sec.toNat) (by omega)
  refine go hz hX hT Try.func16 (treeDd7 l z _ _ _) ⟨rfl, rfl, ?_⟩
  have := ok_fu (n := z) hn (by omega)
  have e : fuF (-1) z = z := by unfold fuF; rw [if_neg (by omega), if_neg (by omega)]
  rw [e] at this ⊢
  exact loop l.length 0 _ _ z (by omega) this z0
end Ds

namespace Ds
open Go Go.Sx Go.Proofs Lf
abbrev tBools : Ty := .b (.row .bools 89)
abbrev tInts : Ty := .b (.row (.ints .i64) 96)
abbrev avB (l : List Bool) : AV := .s (.ro (.bools l))
def nsDc : List (Nat × Norm) := [(7, ⟨[], [0, 1, 2, 3, 4, 11, 13], 0, []⟩), (16, ⟨[], [0, 2, 3, 4, 11, 14, 15, 16, 17, 18], 0, []⟩), (20, ⟨[], [0, 2, 3, 4, 11, 14, 15, 16], 0, []⟩), (25, ⟨[], [0, 2, 3, 4, 11, 14, 15, 16, 19, 20], 0, []⟩)]
noncomputable def cDc (l : List (CL cSt)) (keep : List Bool) (torn cut sec : Int) (th : Th) (m : As) (fu i : Int) : Cfg := ⟨sl 175 [(0, avI sec), (1, avSteps l), (2, avB keep), (3, avI torn), (4, avI cut), (11, .ptr 0 0), (13, avI i)], hD th m fu, hd Try.f13 7, {}⟩
noncomputable def cDc16 (keep : List Bool) (torn cut sec : Int) (as' : List Int) (alls : List Bool) (th : Th) (m : As) (fu : Int) (th2 : Th) (m2 : As) (fu2 : Int) (th3 : Th) (m3 : As) (fu3 i : Int) : Cfg := ⟨sl 175 [(0, avI sec), (2, avB keep), (3, avI torn), (4, avI cut), (11, .ptr 0 0), (14, .vec 1), (15, .ptr 2 0), (16, .ptr 3 0), (17, .vec 4), (18, avI i)],
  [obD 5 6 fu, .vec (.ints .i64 as') 3, obD 7 8 fu2, obD 9 10 fu3, .vec (.bools alls) 4, .vec (.typ cS th) eS, .map kS m, .vec (.typ cS th2) eS, .map kS m2, .vec (.typ cS th3) eS, .map kS m3], hd Try.f13 16, {}⟩
abbrev hDC (as' : List Int) (th : Th) (m : As) (fu : Int) (th2 : Th) (m2 : As) (fu2 : Int) (th3 : Th) (m3 : As) (fu3 : Int) : List AObj := [obD 4 5 fu, .vec (.ints .i64 as') 3, obD 6 7 fu2, obD 8 9 fu3, .vec (.typ cS th) eS, .map kS m, .vec (.typ cS th2) eS, .map kS m2, .vec (.typ cS th3) eS, .map kS m3]
noncomputable def cDc20 (keep : List Bool) (torn cut sec : Int) (as' : List Int) (th : Th) (m : As) (fu : Int) (th2 : Th) (m2 : As) (fu2 : Int) (th3 : Th) (m3 : As) (fu3 : Int) : Cfg := ⟨sl 175 [(0, avI sec), (2, avB keep), (3, avI torn), (4, avI cut), (11, .ptr 0 0), (14, .vec 1), (15, .ptr 2 0), (16, .ptr 3 0)],
  hDC as' th m fu th2 m2 fu2 th3 m3 fu3, hr Try.f13 20, {}⟩
noncomputable def cDc25 (keep : List Bool) (torn cut sec : Int) (as' : List Int) (th : Th) (m : As) (fu : Int) (th2 : Th) (m2 : As) (fu2 : Int) (th3 : Th) (m3 : As) (fu3 at' n : Int) : Cfg := ⟨sl 175 [(0, avI sec), (2, avB keep), (3, avI torn), (4, avI cut), (11, .ptr 0 0), (14, .vec 1), (15, .ptr 2 0), (16, .ptr 3 0), (19, avI at'), (20, avI n)],
  hDC as' th m fu th2 m2 fu2 th3 m3 fu3, hd Try.f13 25, {}⟩
theorem treeDc (sec : Int) (l : List (CL cSt)) (keep : List Bool) (torn cut : Int) : run P tabLw2.sum Try.f13 nsDc (start Try.f13 [avI sec, avSteps l, avB keep, avI torn, avI cut] []) [28] =
  Tree.ite false (Tree.ret [] (AV.s (SV.bool true))) (Tree.need (Slf (some [AV.s (SV.ro (Con.typ cSt l))])) (Tree.need NoObj (Tree.need (l.length ≤ (9223372036854775807 : Nat)) (Tree.both True (l.length - (300 : Nat) = (0 : Nat)) (Tree.ret [] (AV.s (SV.bool true))) (Tree.ite (decide ((↑keep.length : Int) > (200 : Int))) (Tree.ret [] (AV.s (SV.bool true))) (Tree.ite (decide (sec > (60 : Int))) (Tree.ret [] (AV.s (SV.bool true))) (Tree.ite (decide (sec < (1 : Int))) (Tree.ret [] (AV.s (SV.blit true))) (Tree.ite (decide (sec > (4096 : Int))) (Tree.ret [] (AV.s (SV.blit true))) (Tree.need ((0 : Int) ≤ sec) (Tree.need (sec ≤ sec) (Tree.need (sec ≤ (1073741824 : Int)) (Tree.at (Cfg.mk (sl (175 : Nat) [((0 : Nat), AV.s (SV.int IntKind.i64 sec)), ((1 : Nat), AV.s (SV.ro (Con.typ cSt l))), ((2 : Nat), AV.s (SV.ro (Con.bools keep))), ((3 : Nat), AV.s (SV.int IntKind.i64 torn)), ((4 : Nat), AV.s (SV.int IntKind.i64 cut)), ((11 : Nat), AV.ptr (0 : Nat) (0 : Nat)), ((13 : Nat), AV.s (SV.int IntKind.i64 (0 : Int)))]) [AObj.own [AV.vec (1 : Nat), AV.mapv (2 : Nat), AV.s (SV.int IntKind.i64 (-1 : Int))] (145 : Nat), AObj.vec (Con.typ cS (List.replicate sec.toNat (CL.d cS))) (169 : Nat), AObj.map (CK.arr IntKind.u8 (64 : Nat)) []] (hd Try.f13 (7 : Nat)) (Stk.mk none false (0 : Nat) [] (0 : Nat))))))))))))))) := by kernel_rfl
theorem loopDc (l : List (CL cSt)) (keep : List Bool) (torn cut sec : Int) (th : Th) (m : As) (fu i : Int) : run P tabLw2.sum Try.f13 nsDc (cDc l keep torn cut sec th m fu i) [28] =
  Tree.ite (decide (i < (↑l.length : Int))) (Tree.need ((0 : Int) ≤ i) (Tree.need (i < (↑l.length : Int)) (Tree.need (Slf (some [AV.agg [AV.s (SV.int IntKind.u8 (stK (el l i))), AV.s (SV.int IntKind.i64 (stN (el l i))), AV.s (SV.str (stS (el l i))), AV.s (SV.ro (Con.bools (stB (el l i)))), AV.s (SV.int IntKind.i64 (stC (el l i)))], AV.ptr (0 : Nat) (0 : Nat)])) (Tree.need (Slf (some [AObj.own [AV.vec (1 : Nat), AV.mapv (2 : Nat), AV.s (SV.int IntKind.i64 fu)] (145 : Nat), AObj.vec (Con.typ cS th) (169 : Nat), AObj.map (CK.arr IntKind.u8 (64 : Nat)) m])) (Tree.need (okD th m fu) (Tree.need (inI64 (i + (1 : Int))) (Tree.at (Cfg.mk (sl (175 : Nat) [((0 : Nat), AV.s (SV.int IntKind.i64 sec)), ((1 : Nat), AV.s (SV.ro (Con.typ cSt l))), ((2 : Nat), AV.s (SV.ro (Con.bools keep))), ((3 : Nat), AV.s (SV.int IntKind.i64 torn)), ((4 : Nat), AV.s (SV.int IntKind.i64 cut)), ((11 : Nat), AV.ptr (0 : Nat) (0 : Nat)), ((13 : Nat), AV.s (SV.int IntKind.i64 (i + (1 : Int))))]) [AObj.own [AV.vec (1 : Nat), AV.mapv (2 : Nat), AV.s (SV.int IntKind.i64 (stF th fu (stK (el l i)) (stN (el l i)) (stS (el l i)) (stC (el l i))))] (145 : Nat), AObj.vec (Con.typ cS (stT th m fu (stK (el l i)) (stN (el l i)) (stB (el l i)) (stC (el l i)))) (169 : Nat), AObj.map (CK.arr IntKind.u8 (64 : Nat)) (stM th m fu (stK (el l i)) (stN (el l i)) (stS (el l i)) (stC (el l i)))] (hd Try.f13 (7 : Nat)) (Stk.mk none false (0 : Nat) [] (0 : Nat))))))))))
  (Tree.need (Slf (some [AV.ptr (0 : Nat) (0 : Nat)])) (Tree.need (Slf (some [AObj.own [AV.vec (1 : Nat), AV.mapv (2 : Nat), AV.s (SV.int IntKind.i64 fu)] (145 : Nat), AObj.vec (Con.typ cS th) (169 : Nat), AObj.map (CK.arr IntKind.u8 (64 : Nat)) m])) (Tree.need (okD th m fu) (Tree.need (Slf (some [AV.ptr (0 : Nat) (0 : Nat)])) (Tree.need (Slf (some [AObj.own [AV.vec (1 : Nat), AV.mapv (2 : Nat), AV.s (SV.int IntKind.i64 fu)] (145 : Nat), AObj.vec (Con.typ cS th) (169 : Nat), AObj.map (CK.arr IntKind.u8 (64 : Nat)) m])) (Tree.need (okD th m fu) (Tree.need (Slf (some [AV.ptr (0 : Nat) (0 : Nat)])) (Tree.need (Slf (some [AObj.own [AV.vec (1 : Nat), AV.mapv (2 : Nat), AV.s (SV.int IntKind.i64 fu)] (145 : Nat), AObj.vec (Con.typ cS th) (169 : Nat), AObj.map (CK.arr IntKind.u8 (64 : Nat)) m])) (Tree.need (okD th m fu) (Tree.need (Slf (some [AV.ptr (0 : Nat) (0 : Nat), AV.s (SV.ro (Con.bools [])), AV.s (SV.int IntKind.i64 (-1 : Int)), AV.s (SV.int IntKind.i64 (0 : Int))])) (Tree.need (Slf (some [AObj.own [AV.vec (1 : Nat), AV.mapv (2 : Nat), AV.s (SV.int IntKind.i64 fu)] (145 : Nat), AObj.vec (Con.typ cS th) (169 : Nat), AObj.map (CK.arr IntKind.u8 (64 : Nat)) m])) (Tree.need (okD th m fu) (Tree.need ((0 : Int) ≤ (↑(asK m).length : Int)) (Tree.need ((↑(asK m).length : Int) ≤ (↑(asK m).length : Int)) (Tree.need ((↑(asK m).length : Int) ≤ (1073741824 : Int)) (Tree.at (Cfg.mk (sl (175 : Nat) [((0 : Nat), AV.s (SV.int IntKind.i64 sec)), ((2 : Nat), AV.s (SV.ro (Con.bools keep))), ((3 : Nat), AV.s (SV.int IntKind.i64 torn)), ((4 : Nat), AV.s (SV.int IntKind.i64 cut)), ((11 : Nat), AV.ptr (0 : Nat) (0 : Nat)), ((14 : Nat), AV.vec (1 : Nat)), ((15 : Nat), AV.ptr (2 : Nat) (0 : Nat)), ((16 : Nat), AV.ptr (3 : Nat) (0 : Nat)), ((17 : Nat), AV.vec (4 : Nat)), ((18 : Nat), AV.s (SV.int IntKind.i64 (0 : Int)))]) [AObj.own [AV.vec (5 : Nat), AV.mapv (6 : Nat), AV.s (SV.int IntKind.i64 fu)] (145 : Nat), AObj.vec (Con.ints IntKind.i64 (asK m)) (3 : Nat), AObj.own [AV.vec (7 : Nat), AV.mapv (8 : Nat), AV.s (SV.int IntKind.i64 (crF fu (0 : Int)))] (145 : Nat), AObj.own [AV.vec (9 : Nat), AV.mapv (10 : Nat), AV.s (SV.int IntKind.i64 fu)] (145 : Nat), AObj.vec (Con.bools (List.replicate (↑(asK m).length : Int).toNat false)) (4 : Nat), AObj.vec (Con.typ cS th) (169 : Nat), AObj.map (CK.arr IntKind.u8 (64 : Nat)) m, AObj.vec (Con.typ cS (crH th m [] (-1 : Int) (0 : Int))) (169 : Nat), AObj.map (CK.arr IntKind.u8 (64 : Nat)) (crM m (0 : Int)), AObj.vec (Con.typ cS th) (169 : Nat), AObj.map (CK.arr IntKind.u8 (64 : Nat)) m] (hd Try.f13 (16 : Nat)) (Stk.mk none false (0 : Nat) [] (0 : Nat))))))))))))))))))) := by kernel_rfl
theorem loopDc16 (keep : List Bool) (torn cut sec : Int) (as' : List Int) (alls : List Bool) (th : Th) (m : As) (fu : Int) (th2 : Th) (m2 : As) (fu2 : Int) (th3 : Th) (m3 : As) (fu3 i : Int) : run P tabLw2.sum Try.f13 nsDc (cDc16 keep torn cut sec as' alls th m fu th2 m2 fu2 th3 m3 fu3 i) [28] =
  Tree.ite (decide (i < (↑alls.length : Int))) (Tree.need ((0 : Int) ≤ i) (Tree.need (i < (↑alls.length : Int)) (Tree.need (inI64 (i + (1 : Int))) (Tree.at (Cfg.mk (sl (175 : Nat) [((0 : Nat), AV.s (SV.int IntKind.i64 sec)), ((2 : Nat), AV.s (SV.ro (Con.bools keep))), ((3 : Nat), AV.s (SV.int IntKind.i64 torn)), ((4 : Nat), AV.s (SV.int IntKind.i64 cut)), ((11 : Nat), AV.ptr (0 : Nat) (0 : Nat)), ((14 : Nat), AV.vec (1 : Nat)), ((15 : Nat), AV.ptr (2 : Nat) (0 : Nat)), ((16 : Nat), AV.ptr (3 : Nat) (0 : Nat)), ((17 : Nat), AV.vec (4 : Nat)), ((18 : Nat), AV.s (SV.int IntKind.i64 (i + (1 : Int))))]) [AObj.own [AV.vec (5 : Nat), AV.mapv (6 : Nat), AV.s (SV.int IntKind.i64 fu)] (145 : Nat), AObj.vec (Con.ints IntKind.i64 as') (3 : Nat), AObj.own [AV.vec (7 : Nat), AV.mapv (8 : Nat), AV.s (SV.int IntKind.i64 fu2)] (145 : Nat), AObj.own [AV.vec (9 : Nat), AV.mapv (10 : Nat), AV.s (SV.int IntKind.i64 fu3)] (145 : Nat), AObj.vec (Con.bools (alls.set i.toNat true)) (4 : Nat), AObj.vec (Con.typ cS th) (169 : Nat), AObj.map (CK.arr IntKind.u8 (64 : Nat)) m, AObj.vec (Con.typ cS th2) (169 : Nat), AObj.map (CK.arr IntKind.u8 (64 : Nat)) m2, AObj.vec (Con.typ cS th3) (169 : Nat), AObj.map (CK.arr IntKind.u8 (64 : Nat)) m3] (hd Try.f13 (16 : Nat)) (Stk.mk none false (0 : Nat) [] (0 : Nat))))))) (Tree.need (Slf (some [AV.ptr (0 : Nat) (0 : Nat), AV.s (SV.ro (Con.bools alls)), AV.s (SV.int IntKind.i64 (-1 : Int)), AV.s (SV.int IntKind.i64 (0 : Int))])) (Tree.need (Slf (some [AObj.own [AV.vec (1 : Nat), AV.mapv (2 : Nat), AV.s (SV.int IntKind.i64 fu3)] (145 : Nat), AObj.vec (Con.typ cS th3) (169 : Nat), AObj.map (CK.arr IntKind.u8 (64 : Nat)) m3])) (Tree.need (okD th3 m3 fu3) (Tree.at (Cfg.mk (sl (175 : Nat) [((0 : Nat), AV.s (SV.int IntKind.i64 sec)), ((2 : Nat), AV.s (SV.ro (Con.bools keep))), ((3 : Nat), AV.s (SV.int IntKind.i64 torn)), ((4 : Nat), AV.s (SV.int IntKind.i64 cut)), ((11 : Nat), AV.ptr (0 : Nat) (0 : Nat)), ((14 : Nat), AV.vec (1 : Nat)), ((15 : Nat), AV.ptr (2 : Nat) (0 : Nat)), ((16 : Nat), AV.ptr (3 : Nat) (0 : Nat))]) [AObj.own [AV.vec (4 : Nat), AV.mapv (5 : Nat), AV.s (SV.int IntKind.i64 fu)] (145 : Nat), AObj.vec (Con.ints IntKind.i64 as') (3 : Nat), AObj.own [AV.vec (6 : Nat), AV.mapv (7 : Nat), AV.s (SV.int IntKind.i64 fu2)] (145 : Nat), AObj.own [AV.vec (8 : Nat), AV.mapv (9 : Nat), AV.s (SV.int IntKind.i64 (crF fu3 (0 : Int)))] (145 : Nat), AObj.vec (Con.typ cS th) (169 : Nat), AObj.map (CK.arr IntKind.u8 (64 : Nat)) m, AObj.vec (Con.typ cS th2) (169 : Nat), AObj.map (CK.arr IntKind.u8 (64 : Nat)) m2, AObj.vec (Con.typ cS (crH th3 m3 alls (-1 : Int) (0 : Int))) (169 : Nat), AObj.map (CK.arr IntKind.u8 (64 : Nat)) (crM m3 (0 : Int))] (hr Try.f13 (20 : Nat)) (Stk.mk none false (0 : Nat) [] (0 : Nat))))))) := by kernel_rfl
theorem loopDc20 (keep : List Bool) (torn cut sec : Int) (as' : List Int) (th : Th) (m : As) (fu : Int) (th2 : Th) (m2 : As) (fu2 : Int) (th3 : Th) (m3 : As) (fu3 : Int) : run P tabLw2.sum Try.f13 nsDc (cDc20 keep torn cut sec as' th m fu th2 m2 fu2 th3 m3 fu3) [28] =
  Tree.need ((65 : Int) ≠ (0 : Int))
  (Tree.need (inI64 ((IntKind.u64.wrap cut).tmod (65 : Int)))
    (Tree.need (Slf (some [AV.ptr (0 : Nat) (0 : Nat), AV.s (SV.ro (Con.bools keep)), AV.s (SV.int IntKind.i64 torn), AV.s (SV.int IntKind.i64 ((IntKind.u64.wrap cut).tmod (65 : Int)))]))
      (Tree.need (Slf (some [AObj.own [AV.vec (1 : Nat), AV.mapv (2 : Nat), AV.s (SV.int IntKind.i64 fu)] (145 : Nat), AObj.vec (Con.typ cS th) (169 : Nat), AObj.map (CK.arr IntKind.u8 (64 : Nat)) m]))
        (Tree.need (okD th m fu)
          (Tree.ite (crE ((IntKind.u64.wrap cut).tmod (65 : Int)) != (0 : Int)) (Tree.ret [AObj.own [AV.vec (4 : Nat), AV.mapv (5 : Nat), AV.s (SV.int IntKind.i64 (crF fu ((IntKind.u64.wrap cut).tmod (65 : Int))))] (145 : Nat), AObj.vec (Con.ints IntKind.i64 as') (3 : Nat), AObj.own [AV.vec (6 : Nat), AV.mapv (7 : Nat), AV.s (SV.int IntKind.i64 fu2)] (145 : Nat), AObj.own [AV.vec (8 : Nat), AV.mapv (9 : Nat), AV.s (SV.int IntKind.i64 fu3)] (145 : Nat), AObj.vec (Con.typ cS (crH th m keep torn ((IntKind.u64.wrap cut).tmod (65 : Int)))) (169 : Nat), AObj.map (CK.arr IntKind.u8 (64 : Nat)) (crM m ((IntKind.u64.wrap cut).tmod (65 : Int))), AObj.vec (Con.typ cS th2) (169 : Nat), AObj.map (CK.arr IntKind.u8 (64 : Nat)) m2, AObj.vec (Con.typ cS th3) (169 : Nat), AObj.map (CK.arr IntKind.u8 (64 : Nat)) m3] (AV.s (SV.blit false)))
            (Tree.need (Slf (some [AV.ptr (0 : Nat) (0 : Nat)]))
              (Tree.need (Slf (some [AObj.own [AV.vec (1 : Nat), AV.mapv (2 : Nat), AV.s (SV.int IntKind.i64 (crF fu ((IntKind.u64.wrap cut).tmod (65 : Int))))] (145 : Nat), AObj.vec (Con.typ cS (crH th m keep torn ((IntKind.u64.wrap cut).tmod (65 : Int)))) (169 : Nat), AObj.map (CK.arr IntKind.u8 (64 : Nat)) (crM m ((IntKind.u64.wrap cut).tmod (65 : Int)))]))
                (Tree.need (okD (crH th m keep torn ((IntKind.u64.wrap cut).tmod (65 : Int))) (crM m ((IntKind.u64.wrap cut).tmod (65 : Int))) (crF fu ((IntKind.u64.wrap cut).tmod (65 : Int)))) (Tree.ite ((↑(asK (crM m ((IntKind.u64.wrap cut).tmod (65 : Int)))).length : Int) != (0 : Int)) (Tree.ret [AObj.own [AV.vec (4 : Nat), AV.mapv (5 : Nat), AV.s (SV.int IntKind.i64 (crF fu ((IntKind.u64.wrap cut).tmod (65 : Int))))] (145 : Nat), AObj.vec (Con.ints IntKind.i64 as') (3 : Nat), AObj.own [AV.vec (6 : Nat), AV.mapv (7 : Nat), AV.s (SV.int IntKind.i64 fu2)] (145 : Nat), AObj.own [AV.vec (8 : Nat), AV.mapv (9 : Nat), AV.s (SV.int IntKind.i64 fu3)] (145 : Nat), AObj.vec (Con.typ cS (crH th m keep torn ((IntKind.u64.wrap cut).tmod (65 : Int)))) (169 : Nat), AObj.map (CK.arr IntKind.u8 (64 : Nat)) (crM m ((IntKind.u64.wrap cut).tmod (65 : Int))), AObj.vec (Con.typ cS th2) (169 : Nat), AObj.map (CK.arr IntKind.u8 (64 : Nat)) m2, AObj.vec (Con.typ cS th3) (169 : Nat), AObj.map (CK.arr IntKind.u8 (64 : Nat)) m3, AObj.vec (Con.ints IntKind.i64 (asK (crM m ((IntKind.u64.wrap cut).tmod (65 : Int))))) (3 : Nat)] (AV.s (SV.blit false))) (Tree.need (Slf (some [AV.ptr (0 : Nat) (0 : Nat)])) (Tree.need (Slf (some [AObj.own [AV.vec (1 : Nat), AV.mapv (2 : Nat), AV.s (SV.int IntKind.i64 (crF fu ((IntKind.u64.wrap cut).tmod (65 : Int))))] (145 : Nat), AObj.vec (Con.typ cS (crH th m keep torn ((IntKind.u64.wrap cut).tmod (65 : Int)))) (169 : Nat), AObj.map (CK.arr IntKind.u8 (64 : Nat)) (crM m ((IntKind.u64.wrap cut).tmod (65 : Int)))])) (Tree.ite (crF fu ((IntKind.u64.wrap cut).tmod (65 : Int)) == (0 : Int)) (Tree.ret [AObj.own [AV.vec (4 : Nat), AV.mapv (5 : Nat), AV.s (SV.int IntKind.i64 (crF fu ((IntKind.u64.wrap cut).tmod (65 : Int))))] (145 : Nat), AObj.vec (Con.ints IntKind.i64 as') (3 : Nat), AObj.own [AV.vec (6 : Nat), AV.mapv (7 : Nat), AV.s (SV.int IntKind.i64 fu2)] (145 : Nat), AObj.own [AV.vec (8 : Nat), AV.mapv (9 : Nat), AV.s (SV.int IntKind.i64 fu3)] (145 : Nat), AObj.vec (Con.typ cS (crH th m keep torn ((IntKind.u64.wrap cut).tmod (65 : Int)))) (169 : Nat), AObj.map (CK.arr IntKind.u8 (64 : Nat)) (crM m ((IntKind.u64.wrap cut).tmod (65 : Int))), AObj.vec (Con.typ cS th2) (169 : Nat), AObj.map (CK.arr IntKind.u8 (64 : Nat)) m2, AObj.vec (Con.typ cS th3) (169 : Nat), AObj.map (CK.arr IntKind.u8 (64 : Nat)) m3, AObj.vec (Con.ints IntKind.i64 (asK (crM m ((IntKind.u64.wrap cut).tmod (65 : Int))))) (3 : Nat)] (AV.s (SV.blit false))) (Tree.at (Cfg.mk (sl (175 : Nat) [((0 : Nat), AV.s (SV.int IntKind.i64 sec)), ((2 : Nat), AV.s (SV.ro (Con.bools keep))), ((3 : Nat), AV.s (SV.int IntKind.i64 torn)), ((4 : Nat), AV.s (SV.int IntKind.i64 ((IntKind.u64.wrap cut).tmod (65 : Int)))), ((11 : Nat), AV.ptr (0 : Nat) (0 : Nat)), ((14 : Nat), AV.vec (1 : Nat)), ((15 : Nat), AV.ptr (2 : Nat) (0 : Nat)), ((16 : Nat), AV.ptr (3 : Nat) (0 : Nat)), ((19 : Nat), AV.s (SV.int IntKind.i64 (0 : Int))), ((20 : Nat), AV.s (SV.int IntKind.i64 (0 : Int)))]) [AObj.own [AV.vec (4 : Nat), AV.mapv (5 : Nat), AV.s (SV.int IntKind.i64 (crF fu ((IntKind.u64.wrap cut).tmod (65 : Int))))] (145 : Nat), AObj.vec (Con.ints IntKind.i64 as') (3 : Nat), AObj.own [AV.vec (6 : Nat), AV.mapv (7 : Nat), AV.s (SV.int IntKind.i64 fu2)] (145 : Nat), AObj.own [AV.vec (8 : Nat), AV.mapv (9 : Nat), AV.s (SV.int IntKind.i64 fu3)] (145 : Nat), AObj.vec (Con.typ cS (crH th m keep torn ((IntKind.u64.wrap cut).tmod (65 : Int)))) (169 : Nat), AObj.map (CK.arr IntKind.u8 (64 : Nat)) (crM m ((IntKind.u64.wrap cut).tmod (65 : Int))), AObj.vec (Con.typ cS th2) (169 : Nat), AObj.map (CK.arr IntKind.u8 (64 : Nat)) m2, AObj.vec (Con.typ cS th3) (169 : Nat), AObj.map (CK.arr IntKind.u8 (64 : Nat)) m3] (hd Try.f13 (25 : Nat)) (Stk.mk none false (0 : Nat) [] (0 : Nat)))))))))))))))) := by kernel_rfl
theorem loopDc25 (keep : List Bool) (torn cut sec : Int) (as' : List Int) (th : Th) (m : As) (fu : Int) (th2 : Th) (m2 : As) (fu2 : Int) (th3 : Th) (m3 : As) (fu3 at' n : Int) : run P tabLw2.sum Try.f13 nsDc (cDc25 keep torn cut sec as' th m fu th2 m2 fu2 th3 m3 fu3 at' n) [28] =
  Tree.ite (decide (n < sec))
  (Tree.need (Slf (some [AV.ptr (0 : Nat) (0 : Nat), AV.s (SV.int IntKind.i64 n)]))
    (Tree.need (Slf (some [AObj.own [AV.vec (1 : Nat), AV.mapv (2 : Nat), AV.s (SV.int IntKind.i64 fu)] (145 : Nat), AObj.vec (Con.typ cS th) (169 : Nat), AObj.map (CK.arr IntKind.u8 (64 : Nat)) m]))
      (Tree.need (okD th m fu)
        (Tree.need (Slf (some [AV.ptr (0 : Nat) (0 : Nat), AV.s (SV.int IntKind.i64 n)]))
          (Tree.need (Slf (some [AObj.own [AV.vec (1 : Nat), AV.mapv (2 : Nat), AV.s (SV.int IntKind.i64 fu2)] (145 : Nat), AObj.vec (Con.typ cS th2) (169 : Nat), AObj.map (CK.arr IntKind.u8 (64 : Nat)) m2]))
            (Tree.need (okD th2 m2 fu2)
              (Tree.need (Slf (some [AV.ptr (0 : Nat) (0 : Nat), AV.s (SV.int IntKind.i64 n)]))
                (Tree.need (Slf (some [AObj.own [AV.vec (1 : Nat), AV.mapv (2 : Nat), AV.s (SV.int IntKind.i64 fu3)] (145 : Nat), AObj.vec (Con.typ cS th3) (169 : Nat), AObj.map (CK.arr IntKind.u8 (64 : Nat)) m3]))
                  (Tree.need (okD th3 m3 fu3)
                    (Tree.ite (decide (at' < (↑as'.length : Int)))
                      (Tree.need ((0 : Int) ≤ at')
                        (Tree.need (at' < (↑as'.length : Int))
                          (Tree.ite (as'.getD at'.toNat (0 : Int) == n)
                            (Tree.ite (decide (at' < (↑keep.length : Int)))
                              (Tree.need ((0 : Int) ≤ at')
                                (Tree.need (at' < (↑keep.length : Int))
                                  (Tree.ite (keep.getD at'.toNat false)
                                    (Tree.ite (at' == torn) (Tree.need ((0 : Int) ≤ (0 : Int)) (Tree.need ((0 : Int) ≤ cut) (Tree.need (cut ≤ (↑(rdS th3 m3 n).size : Int)) (Tree.need ((0 : Int) ≤ cut) (Tree.need (cut ≤ (↑(rdS th2 m2 n).size : Int)) (Tree.need ((↑(rdS th2 m2 n).size : Int) ≤ (↑(rdS th2 m2 n).size : Int)) (Tree.need (((rdS th3 m3 n).extract (Int.toNat (0 : Int)) cut.toNat).size + ((rdS th2 m2 n).extract cut.toNat (↑(rdS th2 m2 n).size : Int).toNat).size ≤ (4611686018427387904 : Nat)) (Tree.need (inI64 (at' + (1 : Int))) (Tree.ite (!decide (rdS th m n = (rdS th3 m3 n).extract (Int.toNat (0 : Int)) cut.toNat ++ (rdS th2 m2 n).extract cut.toNat (↑(rdS th2 m2 n).size : Int).toNat)) (Tree.ret [AObj.own [AV.vec (4 : Nat), AV.mapv (5 : Nat), AV.s (SV.int IntKind.i64 fu)] (145 : Nat), AObj.vec (Con.ints IntKind.i64 as') (3 : Nat), AObj.own [AV.vec (6 : Nat), AV.mapv (7 : Nat), AV.s (SV.int IntKind.i64 fu2)] (145 : Nat), AObj.own [AV.vec (8 : Nat), AV.mapv (9 : Nat), AV.s (SV.int IntKind.i64 fu3)] (145 : Nat), AObj.vec (Con.typ cS th) (169 : Nat), AObj.map (CK.arr IntKind.u8 (64 : Nat)) m, AObj.vec (Con.typ cS th2) (169 : Nat), AObj.map (CK.arr IntKind.u8 (64 : Nat)) m2, AObj.vec (Con.typ cS th3) (169 : Nat), AObj.map (CK.arr IntKind.u8 (64 : Nat)) m3] (AV.s (SV.blit false))) (Tree.need (inI64 (n + (1 : Int))) (Tree.at (Cfg.mk (sl (175 : Nat) [((0 : Nat), AV.s (SV.int IntKind.i64 sec)), ((2 : Nat), AV.s (SV.ro (Con.bools keep))), ((3 : Nat), AV.s (SV.int IntKind.i64 torn)), ((4 : Nat), AV.s (SV.int IntKind.i64 cut)), ((11 : Nat), AV.ptr (0 : Nat) (0 : Nat)), ((14 : Nat), AV.vec (1 : Nat)), ((15 : Nat), AV.ptr (2 : Nat) (0 : Nat)), ((16 : Nat), AV.ptr (3 : Nat) (0 : Nat)), ((19 : Nat), AV.s (SV.int IntKind.i64 (at' + (1 : Int)))), ((20 : Nat), AV.s (SV.int IntKind.i64 (n + (1 : Int))))]) [AObj.own [AV.vec (4 : Nat), AV.mapv (5 : Nat), AV.s (SV.int IntKind.i64 fu)] (145 : Nat), AObj.vec (Con.ints IntKind.i64 as') (3 : Nat), AObj.own [AV.vec (6 : Nat), AV.mapv (7 : Nat), AV.s (SV.int IntKind.i64 fu2)] (145 : Nat), AObj.own [AV.vec (8 : Nat), AV.mapv (9 : Nat), AV.s (SV.int IntKind.i64 fu3)] (145 : Nat), AObj.vec (Con.typ cS th) (169 : Nat), AObj.map (CK.arr IntKind.u8 (64 : Nat)) m, AObj.vec (Con.typ cS th2) (169 : Nat), AObj.map (CK.arr IntKind.u8 (64 : Nat)) m2, AObj.vec (Con.typ cS th3) (169 : Nat), AObj.map (CK.arr IntKind.u8 (64 : Nat)) m3] (hd Try.f13 (25 : Nat)) (Stk.mk none false (0 : Nat) [] (0 : Nat))))))))))))))
                                      (Tree.need (inI64 (at' + (1 : Int))) (Tree.ite (!decide (rdS th m n = rdS th3 m3 n)) (Tree.ret [AObj.own [AV.vec (4 : Nat), AV.mapv (5 : Nat), AV.s (SV.int IntKind.i64 fu)] (145 : Nat), AObj.vec (Con.ints IntKind.i64 as') (3 : Nat), AObj.own [AV.vec (6 : Nat), AV.mapv (7 : Nat), AV.s (SV.int IntKind.i64 fu2)] (145 : Nat), AObj.own [AV.vec (8 : Nat), AV.mapv (9 : Nat), AV.s (SV.int IntKind.i64 fu3)] (145 : Nat), AObj.vec (Con.typ cS th) (169 : Nat), AObj.map (CK.arr IntKind.u8 (64 : Nat)) m, AObj.vec (Con.typ cS th2) (169 : Nat), AObj.map (CK.arr IntKind.u8 (64 : Nat)) m2, AObj.vec (Con.typ cS th3) (169 : Nat), AObj.map (CK.arr IntKind.u8 (64 : Nat)) m3] (AV.s (SV.blit false))) (Tree.need (inI64 (n + (1 : Int))) (Tree.at (Cfg.mk (sl (175 : Nat) [((0 : Nat), AV.s (SV.int IntKind.i64 sec)), ((2 : Nat), AV.s (SV.ro (Con.bools keep))), ((3 : Nat), AV.s (SV.int IntKind.i64 torn)), ((4 : Nat), AV.s (SV.int IntKind.i64 cut)), ((11 : Nat), AV.ptr (0 : Nat) (0 : Nat)), ((14 : Nat), AV.vec (1 : Nat)), ((15 : Nat), AV.ptr (2 : Nat) (0 : Nat)), ((16 : Nat), AV.ptr (3 : Nat) (0 : Nat)), ((19 : Nat), AV.s (SV.int IntKind.i64 (at' + (1 : Int)))), ((20 : Nat), AV.s (SV.int IntKind.i64 (n + (1 : Int))))]) [AObj.own [AV.vec (4 : Nat), AV.mapv (5 : Nat), AV.s (SV.int IntKind.i64 fu)] (145 : Nat), AObj.vec (Con.ints IntKind.i64 as') (3 : Nat), AObj.own [AV.vec (6 : Nat), AV.mapv (7 : Nat), AV.s (SV.int IntKind.i64 fu2)] (145 : Nat), AObj.own [AV.vec (8 : Nat), AV.mapv (9 : Nat), AV.s (SV.int IntKind.i64 fu3)] (145 : Nat), AObj.vec (Con.typ cS th) (169 : Nat), AObj.map (CK.arr IntKind.u8 (64 : Nat)) m, AObj.vec (Con.typ cS th2) (169 : Nat), AObj.map (CK.arr IntKind.u8 (64 : Nat)) m2, AObj.vec (Con.typ cS th3) (169 : Nat), AObj.map (CK.arr IntKind.u8 (64 : Nat)) m3] (hd Try.f13 (25 : Nat)) (Stk.mk none false (0 : Nat) [] (0 : Nat))))))))
                                    (Tree.ite (at' == torn) (Tree.need ((0 : Int) ≤ (0 : Int)) (Tree.need ((0 : Int) ≤ cut) (Tree.need (cut ≤ (↑(rdS th3 m3 n).size : Int)) (Tree.need ((0 : Int) ≤ cut) (Tree.need (cut ≤ (↑(rdS th2 m2 n).size : Int)) (Tree.need ((↑(rdS th2 m2 n).size : Int) ≤ (↑(rdS th2 m2 n).size : Int)) (Tree.need (((rdS th3 m3 n).extract (Int.toNat (0 : Int)) cut.toNat).size + ((rdS th2 m2 n).extract cut.toNat (↑(rdS th2 m2 n).size : Int).toNat).size ≤ (4611686018427387904 : Nat)) (Tree.need (inI64 (at' + (1 : Int))) (Tree.ite (!decide (rdS th m n = (rdS th3 m3 n).extract (Int.toNat (0 : Int)) cut.toNat ++ (rdS th2 m2 n).extract cut.toNat (↑(rdS th2 m2 n).size : Int).toNat)) (Tree.ret [AObj.own [AV.vec (4 : Nat), AV.mapv (5 : Nat), AV.s (SV.int IntKind.i64 fu)] (145 : Nat), AObj.vec (Con.ints IntKind.i64 as') (3 : Nat), AObj.own [AV.vec (6 : Nat), AV.mapv (7 : Nat), AV.s (SV.int IntKind.i64 fu2)] (145 : Nat), AObj.own [AV.vec (8 : Nat), AV.mapv (9 : Nat), AV.s (SV.int IntKind.i64 fu3)] (145 : Nat), AObj.vec (Con.typ cS th) (169 : Nat), AObj.map (CK.arr IntKind.u8 (64 : Nat)) m, AObj.vec (Con.typ cS th2) (169 : Nat), AObj.map (CK.arr IntKind.u8 (64 : Nat)) m2, AObj.vec (Con.typ cS th3) (169 : Nat), AObj.map (CK.arr IntKind.u8 (64 : Nat)) m3] (AV.s (SV.blit false))) (Tree.need (inI64 (n + (1 : Int))) (Tree.at (Cfg.mk (sl (175 : Nat) [((0 : Nat), AV.s (SV.int IntKind.i64 sec)), ((2 : Nat), AV.s (SV.ro (Con.bools keep))), ((3 : Nat), AV.s (SV.int IntKind.i64 torn)), ((4 : Nat), AV.s (SV.int IntKind.i64 cut)), ((11 : Nat), AV.ptr (0 : Nat) (0 : Nat)), ((14 : Nat), AV.vec (1 : Nat)), ((15 : Nat), AV.ptr (2 : Nat) (0 : Nat)), ((16 : Nat), AV.ptr (3 : Nat) (0 : Nat)), ((19 : Nat), AV.s (SV.int IntKind.i64 (at' + (1 : Int)))), ((20 : Nat), AV.s (SV.int IntKind.i64 (n + (1 : Int))))]) [AObj.own [AV.vec (4 : Nat), AV.mapv (5 : Nat), AV.s (SV.int IntKind.i64 fu)] (145 : Nat), AObj.vec (Con.ints IntKind.i64 as') (3 : Nat), AObj.own [AV.vec (6 : Nat), AV.mapv (7 : Nat), AV.s (SV.int IntKind.i64 fu2)] (145 : Nat), AObj.own [AV.vec (8 : Nat), AV.mapv (9 : Nat), AV.s (SV.int IntKind.i64 fu3)] (145 : Nat), AObj.vec (Con.typ cS th) (169 : Nat), AObj.map (CK.arr IntKind.u8 (64 : Nat)) m, AObj.vec (Con.typ cS th2) (169 : Nat), AObj.map (CK.arr IntKind.u8 (64 : Nat)) m2, AObj.vec (Con.typ cS th3) (169 : Nat), AObj.map (CK.arr IntKind.u8 (64 : Nat)) m3] (hd Try.f13 (25 : Nat)) (Stk.mk none false (0 : Nat) [] (0 : Nat))))))))))))))
                                      (Tree.need (inI64 (at' + (1 : Int))) (Tree.ite (!decide (rdS th m n = rdS th2 m2 n)) (Tree.ret [AObj.own [AV.vec (4 : Nat), AV.mapv (5 : Nat), AV.s (SV.int IntKind.i64 fu)] (145 : Nat), AObj.vec (Con.ints IntKind.i64 as') (3 : Nat), AObj.own [AV.vec (6 : Nat), AV.mapv (7 : Nat), AV.s (SV.int IntKind.i64 fu2)] (145 : Nat), AObj.own [AV.vec (8 : Nat), AV.mapv (9 : Nat), AV.s (SV.int IntKind.i64 fu3)] (145 : Nat), AObj.vec (Con.typ cS th) (169 : Nat), AObj.map (CK.arr IntKind.u8 (64 : Nat)) m, AObj.vec (Con.typ cS th2) (169 : Nat), AObj.map (CK.arr IntKind.u8 (64 : Nat)) m2, AObj.vec (Con.typ cS th3) (169 : Nat), AObj.map (CK.arr IntKind.u8 (64 : Nat)) m3] (AV.s (SV.blit false))) (Tree.need (inI64 (n + (1 : Int))) (Tree.at (Cfg.mk (sl (175 : Nat) [((0 : Nat), AV.s (SV.int IntKind.i64 sec)), ((2 : Nat), AV.s (SV.ro (Con.bools keep))), ((3 : Nat), AV.s (SV.int IntKind.i64 torn)), ((4 : Nat), AV.s (SV.int IntKind.i64 cut)), ((11 : Nat), AV.ptr (0 : Nat) (0 : Nat)), ((14 : Nat), AV.vec (1 : Nat)), ((15 : Nat), AV.ptr (2 : Nat) (0 : Nat)), ((16 : Nat), AV.ptr (3 : Nat) (0 : Nat)), ((19 : Nat), AV.s (SV.int IntKind.i64 (at' + (1 : Int)))), ((20 : Nat), AV.s (SV.int IntKind.i64 (n + (1 : Int))))]) [AObj.own [AV.vec (4 : Nat), AV.mapv (5 : Nat), AV.s (SV.int IntKind.i64 fu)] (145 : Nat), AObj.vec (Con.ints IntKind.i64 as') (3 : Nat), AObj.own [AV.vec (6 : Nat), AV.mapv (7 : Nat), AV.s (SV.int IntKind.i64 fu2)] (145 : Nat), AObj.own [AV.vec (8 : Nat), AV.mapv (9 : Nat), AV.s (SV.int IntKind.i64 fu3)] (145 : Nat), AObj.vec (Con.typ cS th) (169 : Nat), AObj.map (CK.arr IntKind.u8 (64 : Nat)) m, AObj.vec (Con.typ cS th2) (169 : Nat), AObj.map (CK.arr IntKind.u8 (64 : Nat)) m2, AObj.vec (Con.typ cS th3) (169 : Nat), AObj.map (CK.arr IntKind.u8 (64 : Nat)) m3] (hd Try.f13 (25 : Nat)) (Stk.mk none false (0 : Nat) [] (0 : Nat)))))))))))
                              (Tree.ite (at' == torn) (Tree.need ((0 : Int) ≤ (0 : Int)) (Tree.need ((0 : Int) ≤ cut) (Tree.need (cut ≤ (↑(rdS th3 m3 n).size : Int)) (Tree.need ((0 : Int) ≤ cut) (Tree.need (cut ≤ (↑(rdS th2 m2 n).size : Int)) (Tree.need ((↑(rdS th2 m2 n).size : Int) ≤ (↑(rdS th2 m2 n).size : Int)) (Tree.need (((rdS th3 m3 n).extract (Int.toNat (0 : Int)) cut.toNat).size + ((rdS th2 m2 n).extract cut.toNat (↑(rdS th2 m2 n).size : Int).toNat).size ≤ (4611686018427387904 : Nat)) (Tree.need (inI64 (at' + (1 : Int))) (Tree.ite (!decide (rdS th m n = (rdS th3 m3 n).extract (Int.toNat (0 : Int)) cut.toNat ++ (rdS th2 m2 n).extract cut.toNat (↑(rdS th2 m2 n).size : Int).toNat)) (Tree.ret [AObj.own [AV.vec (4 : Nat), AV.mapv (5 : Nat), AV.s (SV.int IntKind.i64 fu)] (145 : Nat), AObj.vec (Con.ints IntKind.i64 as') (3 : Nat), AObj.own [AV.vec (6 : Nat), AV.mapv (7 : Nat), AV.s (SV.int IntKind.i64 fu2)] (145 : Nat), AObj.own [AV.vec (8 : Nat), AV.mapv (9 : Nat), AV.s (SV.int IntKind.i64 fu3)] (145 : Nat), AObj.vec (Con.typ cS th) (169 : Nat), AObj.map (CK.arr IntKind.u8 (64 : Nat)) m, AObj.vec (Con.typ cS th2) (169 : Nat), AObj.map (CK.arr IntKind.u8 (64 : Nat)) m2, AObj.vec (Con.typ cS th3) (169 : Nat), AObj.map (CK.arr IntKind.u8 (64 : Nat)) m3] (AV.s (SV.blit false))) (Tree.need (inI64 (n + (1 : Int))) (Tree.at (Cfg.mk (sl (175 : Nat) [((0 : Nat), AV.s (SV.int IntKind.i64 sec)), ((2 : Nat), AV.s (SV.ro (Con.bools keep))), ((3 : Nat), AV.s (SV.int IntKind.i64 torn)), ((4 : Nat), AV.s (SV.int IntKind.i64 cut)), ((11 : Nat), AV.ptr (0 : Nat) (0 : Nat)), ((14 : Nat), AV.vec (1 : Nat)), ((15 : Nat), AV.ptr (2 : Nat) (0 : Nat)), ((16 : Nat), AV.ptr (3 : Nat) (0 : Nat)), ((19 : Nat), AV.s (SV.int IntKind.i64 (at' + (1 : Int)))), ((20 : Nat), AV.s (SV.int IntKind.i64 (n + (1 : Int))))]) [AObj.own [AV.vec (4 : Nat), AV.mapv (5 : Nat), AV.s (SV.int IntKind.i64 fu)] (145 : Nat), AObj.vec (Con.ints IntKind.i64 as') (3 : Nat), AObj.own [AV.vec (6 : Nat), AV.mapv (7 : Nat), AV.s (SV.int IntKind.i64 fu2)] (145 : Nat), AObj.own [AV.vec (8 : Nat), AV.mapv (9 : Nat), AV.s (SV.int IntKind.i64 fu3)] (145 : Nat), AObj.vec (Con.typ cS th) (169 : Nat), AObj.map (CK.arr IntKind.u8 (64 : Nat)) m, AObj.vec (Con.typ cS th2) (169 : Nat), AObj.map (CK.arr IntKind.u8 (64 : Nat)) m2, AObj.vec (Con.typ cS th3) (169 : Nat), AObj.map (CK.arr IntKind.u8 (64 : Nat)) m3] (hd Try.f13 (25 : Nat)) (Stk.mk none false (0 : Nat) [] (0 : Nat))))))))))))))
                                (Tree.need (inI64 (at' + (1 : Int))) (Tree.ite (!decide (rdS th m n = rdS th2 m2 n)) (Tree.ret [AObj.own [AV.vec (4 : Nat), AV.mapv (5 : Nat), AV.s (SV.int IntKind.i64 fu)] (145 : Nat), AObj.vec (Con.ints IntKind.i64 as') (3 : Nat), AObj.own [AV.vec (6 : Nat), AV.mapv (7 : Nat), AV.s (SV.int IntKind.i64 fu2)] (145 : Nat), AObj.own [AV.vec (8 : Nat), AV.mapv (9 : Nat), AV.s (SV.int IntKind.i64 fu3)] (145 : Nat), AObj.vec (Con.typ cS th) (169 : Nat), AObj.map (CK.arr IntKind.u8 (64 : Nat)) m, AObj.vec (Con.typ cS th2) (169 : Nat), AObj.map (CK.arr IntKind.u8 (64 : Nat)) m2, AObj.vec (Con.typ cS th3) (169 : Nat), AObj.map (CK.arr IntKind.u8 (64 : Nat)) m3] (AV.s (SV.blit false))) (Tree.need (inI64 (n + (1 : Int))) (Tree.at (Cfg.mk (sl (175 : Nat) [((0 : Nat), AV.s (SV.int IntKind.i64 sec)), ((2 : Nat), AV.s (SV.ro (Con.bools keep))), ((3 : Nat), AV.s (SV.int IntKind.i64 torn)), ((4 : Nat), AV.s (SV.int IntKind.i64 cut)), ((11 : Nat), AV.ptr (0 : Nat) (0 : Nat)), ((14 : Nat), AV.vec (1 : Nat)), ((15 : Nat), AV.ptr (2 : Nat) (0 : Nat)), ((16 : Nat), AV.ptr (3 : Nat) (0 : Nat)), ((19 : Nat), AV.s (SV.int IntKind.i64 (at' + (1 : Int)))), ((20 : Nat), AV.s (SV.int IntKind.i64 (n + (1 : Int))))]) [AObj.own [AV.vec (4 : Nat), AV.mapv (5 : Nat), AV.s (SV.int IntKind.i64 fu)] (145 : Nat), AObj.vec (Con.ints IntKind.i64 as') (3 : Nat), AObj.own [AV.vec (6 : Nat), AV.mapv (7 : Nat), AV.s (SV.int IntKind.i64 fu2)] (145 : Nat), AObj.own [AV.vec (8 : Nat), AV.mapv (9 : Nat), AV.s (SV.int IntKind.i64 fu3)] (145 : Nat), AObj.vec (Con.typ cS th) (169 : Nat), AObj.map (CK.arr IntKind.u8 (64 : Nat)) m, AObj.vec (Con.typ cS th2) (169 : Nat), AObj.map (CK.arr IntKind.u8 (64 : Nat)) m2, AObj.vec (Con.typ cS th3) (169 : Nat), AObj.map (CK.arr IntKind.u8 (64 : Nat)) m3] (hd Try.f13 (25 : Nat)) (Stk.mk none false (0 : Nat) [] (0 : Nat)))))))))
                            (Tree.ite (!decide (rdS th2 m2 n = rdS th3 m3 n)) (Tree.ret [AObj.own [AV.vec (4 : Nat), AV.mapv (5 : Nat), AV.s (SV.int IntKind.i64 fu)] (145 : Nat), AObj.vec (Con.ints IntKind.i64 as') (3 : Nat), AObj.own [AV.vec (6 : Nat), AV.mapv (7 : Nat), AV.s (SV.int IntKind.i64 fu2)] (145 : Nat), AObj.own [AV.vec (8 : Nat), AV.mapv (9 : Nat), AV.s (SV.int IntKind.i64 fu3)] (145 : Nat), AObj.vec (Con.typ cS th) (169 : Nat), AObj.map (CK.arr IntKind.u8 (64 : Nat)) m, AObj.vec (Con.typ cS th2) (169 : Nat), AObj.map (CK.arr IntKind.u8 (64 : Nat)) m2, AObj.vec (Con.typ cS th3) (169 : Nat), AObj.map (CK.arr IntKind.u8 (64 : Nat)) m3] (AV.s (SV.blit false))) (Tree.ite (!decide (rdS th m n = rdS th2 m2 n)) (Tree.ret [AObj.own [AV.vec (4 : Nat), AV.mapv (5 : Nat), AV.s (SV.int IntKind.i64 fu)] (145 : Nat), AObj.vec (Con.ints IntKind.i64 as') (3 : Nat), AObj.own [AV.vec (6 : Nat), AV.mapv (7 : Nat), AV.s (SV.int IntKind.i64 fu2)] (145 : Nat), AObj.own [AV.vec (8 : Nat), AV.mapv (9 : Nat), AV.s (SV.int IntKind.i64 fu3)] (145 : Nat), AObj.vec (Con.typ cS th) (169 : Nat), AObj.map (CK.arr IntKind.u8 (64 : Nat)) m, AObj.vec (Con.typ cS th2) (169 : Nat), AObj.map (CK.arr IntKind.u8 (64 : Nat)) m2, AObj.vec (Con.typ cS th3) (169 : Nat), AObj.map (CK.arr IntKind.u8 (64 : Nat)) m3] (AV.s (SV.blit false))) (Tree.need (inI64 (n + (1 : Int))) (Tree.at (Cfg.mk (sl (175 : Nat) [((0 : Nat), AV.s (SV.int IntKind.i64 sec)), ((2 : Nat), AV.s (SV.ro (Con.bools keep))), ((3 : Nat), AV.s (SV.int IntKind.i64 torn)), ((4 : Nat), AV.s (SV.int IntKind.i64 cut)), ((11 : Nat), AV.ptr (0 : Nat) (0 : Nat)), ((14 : Nat), AV.vec (1 : Nat)), ((15 : Nat), AV.ptr (2 : Nat) (0 : Nat)), ((16 : Nat), AV.ptr (3 : Nat) (0 : Nat)), ((19 : Nat), AV.s (SV.int IntKind.i64 at')), ((20 : Nat), AV.s (SV.int IntKind.i64 (n + (1 : Int))))]) [AObj.own [AV.vec (4 : Nat), AV.mapv (5 : Nat), AV.s (SV.int IntKind.i64 fu)] (145 : Nat), AObj.vec (Con.ints IntKind.i64 as') (3 : Nat), AObj.own [AV.vec (6 : Nat), AV.mapv (7 : Nat), AV.s (SV.int IntKind.i64 fu2)] (145 : Nat), AObj.own [AV.vec (8 : Nat), AV.mapv (9 : Nat), AV.s (SV.int IntKind.i64 fu3)] (145 : Nat), AObj.vec (Con.typ cS th) (169 : Nat), AObj.map (CK.arr IntKind.u8 (64 : Nat)) m, AObj.vec (Con.typ cS th2) (169 : Nat), AObj.map (CK.arr IntKind.u8 (64 : Nat)) m2, AObj.vec (Con.typ cS th3) (169 : Nat), AObj.map (CK.arr IntKind.u8 (64 : Nat)) m3] (hd Try.f13 (25 : Nat)) (Stk.mk none false (0 : Nat) [] (0 : Nat))))))))))
                      (Tree.ite (!decide (rdS th2 m2 n = rdS th3 m3 n)) (Tree.ret [AObj.own [AV.vec (4 : Nat), AV.mapv (5 : Nat), AV.s (SV.int IntKind.i64 fu)] (145 : Nat), AObj.vec (Con.ints IntKind.i64 as') (3 : Nat), AObj.own [AV.vec (6 : Nat), AV.mapv (7 : Nat), AV.s (SV.int IntKind.i64 fu2)] (145 : Nat), AObj.own [AV.vec (8 : Nat), AV.mapv (9 : Nat), AV.s (SV.int IntKind.i64 fu3)] (145 : Nat), AObj.vec (Con.typ cS th) (169 : Nat), AObj.map (CK.arr IntKind.u8 (64 : Nat)) m, AObj.vec (Con.typ cS th2) (169 : Nat), AObj.map (CK.arr IntKind.u8 (64 : Nat)) m2, AObj.vec (Con.typ cS th3) (169 : Nat), AObj.map (CK.arr IntKind.u8 (64 : Nat)) m3] (AV.s (SV.blit false))) (Tree.ite (!decide (rdS th m n = rdS th2 m2 n)) (Tree.ret [AObj.own [AV.vec (4 : Nat), AV.mapv (5 : Nat), AV.s (SV.int IntKind.i64 fu)] (145 : Nat), AObj.vec (Con.ints IntKind.i64 as') (3 : Nat), AObj.own [AV.vec (6 : Nat), AV.mapv (7 : Nat), AV.s (SV.int IntKind.i64 fu2)] (145 : Nat), AObj.own [AV.vec (8 : Nat), AV.mapv (9 : Nat), AV.s (SV.int IntKind.i64 fu3)] (145 : Nat), AObj.vec (Con.typ cS th) (169 : Nat), AObj.map (CK.arr IntKind.u8 (64 : Nat)) m, AObj.vec (Con.typ cS th2) (169 : Nat), AObj.map (CK.arr IntKind.u8 (64 : Nat)) m2, AObj.vec (Con.typ cS th3) (169 : Nat), AObj.map (CK.arr IntKind.u8 (64 : Nat)) m3] (AV.s (SV.blit false))) (Tree.need (inI64 (n + (1 : Int))) (Tree.at (Cfg.mk (sl (175 : Nat) [((0 : Nat), AV.s (SV.int IntKind.i64 sec)), ((2 : Nat), AV.s (SV.ro (Con.bools keep))), ((3 : Nat), AV.s (SV.int IntKind.i64 torn)), ((4 : Nat), AV.s (SV.int IntKind.i64 cut)), ((11 : Nat), AV.ptr (0 : Nat) (0 : Nat)), ((14 : Nat), AV.vec (1 : Nat)), ((15 : Nat), AV.ptr (2 : Nat) (0 : Nat)), ((16 : Nat), AV.ptr (3 : Nat) (0 : Nat)), ((19 : Nat), AV.s (SV.int IntKind.i64 at')), ((20 : Nat), AV.s (SV.int IntKind.i64 (n + (1 : Int))))]) [AObj.own [AV.vec (4 : Nat), AV.mapv (5 : Nat), AV.s (SV.int IntKind.i64 fu)] (145 : Nat), AObj.vec (Con.ints IntKind.i64 as') (3 : Nat), AObj.own [AV.vec (6 : Nat), AV.mapv (7 : Nat), AV.s (SV.int IntKind.i64 fu2)] (145 : Nat), AObj.own [AV.vec (8 : Nat), AV.mapv (9 : Nat), AV.s (SV.int IntKind.i64 fu3)] (145 : Nat), AObj.vec (Con.typ cS th) (169 : Nat), AObj.map (CK.arr IntKind.u8 (64 : Nat)) m, AObj.vec (Con.typ cS th2) (169 : Nat), AObj.map (CK.arr IntKind.u8 (64 : Nat)) m2, AObj.vec (Con.typ cS th3) (169 : Nat), AObj.map (CK.arr IntKind.u8 (64 : Nat)) m3] (hd Try.f13 (25 : Nat)) (Stk.mk none false (0 : Nat) [] (0 : Nat)))))))))))))))))
  (Tree.ret [AObj.own [AV.vec (4 : Nat), AV.mapv (5 : Nat), AV.s (SV.int IntKind.i64 fu)] (145 : Nat), AObj.vec (Con.ints IntKind.i64 as') (3 : Nat), AObj.own [AV.vec (6 : Nat), AV.mapv (7 : Nat), AV.s (SV.int IntKind.i64 fu2)] (145 : Nat), AObj.own [AV.vec (8 : Nat), AV.mapv (9 : Nat), AV.s (SV.int IntKind.i64 fu3)] (145 : Nat), AObj.vec (Con.typ cS th) (169 : Nat), AObj.map (CK.arr IntKind.u8 (64 : Nat)) m, AObj.vec (Con.typ cS th2) (169 : Nat), AObj.map (CK.arr IntKind.u8 (64 : Nat)) m2, AObj.vec (Con.typ cS th3) (169 : Nat), AObj.map (CK.arr IntKind.u8 (64 : Nat)) m3] (AV.s (SV.bool (at' == (↑as'.length : Int))))) := by kernel_rfl
def crS (keep : List Bool) (torn cut : Int) (old new : List Int) (k : Nat) : List Int := if (k : Int) = torn then over old 0 cut.toNat new else if keep.getD k false = true then new else old
abbrev sec (th : Th) (i : Nat) : List Int := arrOf (th.getD i (CL.d cS))
theorem crStep_get {keep : List Bool} {torn cut : Int} {m : As} {th : Th} {k : Nat} {n : Int} (hn : 0 ≤ n) {i : Nat} (hi : i < th.length) :
    sec (crStep keep torn cut m th k n) i = if (i : Int) = n then crS keep torn cut (sec th i) (nowA m n) k else sec th i := by
  unfold crStep crS
  by_cases e : (i : Int) = n
  · have e' : n.toNat = i := by omega
    rw [if_pos e, e']
    split
    · exact congrArg arrOf (arr_set_self hi)
    · split
      · exact congrArg arrOf (arr_set_self hi)
      · rfl
  · have e' : i ≠ n.toNat := by omega
    rw [if_neg e]
    split
    · exact congrArg arrOf (arr_set_ne e')
    · split
      · exact congrArg arrOf (arr_set_ne e')
      · rfl
theorem crT_get {keep : List Bool} {torn cut : Int} {m : As} : ∀ (l : List Int) (k : Nat) (th : Th), l.Nodup → (∀ x ∈ l, 0 ≤ x) → ∀ i, i < th.length →
    sec (crT keep torn cut m l k th) i = if (i : Int) ∈ l then crS keep torn cut (sec th i) (nowA m (i : Int)) (k + l.idxOf (i : Int)) else sec th i
  | [], k, th, _, _, i, hi => rfl
  | n :: l, k, th, hn, h0, i, hi => by
    obtain ⟨hn1, hn2⟩ := List.nodup_cons.1 hn
    show sec (crT keep torn cut m l (k + 1) (crStep keep torn cut m th k n)) i = _
    rw [crT_get l (k + 1) _ hn2 (fun x hx => h0 x (List.mem_cons_of_mem _ hx)) i (by rw [crStep_len]; exact hi), crStep_get (h0 n List.mem_cons_self) hi]
    by_cases e : (i : Int) = n
    · rw [if_neg (by rw [e]; exact hn1), if_pos e, if_pos (by rw [e]; exact List.mem_cons_self), e, List.idxOf_cons_self, Nat.add_zero]
    · rw [if_neg e]
      by_cases hm : (i : Int) ∈ l
      · rw [if_pos hm, if_pos (List.mem_cons_of_mem _ hm), List.idxOf_cons, show (n == (i : Int)) = false from by simpa using fun h => e h.symm, cond_false, show k + 1 + l.idxOf (i : Int) = k + (l.idxOf (i : Int) + 1) from by omega]
      · rw [if_neg hm, if_neg (fun h => (List.mem_cons.1 h).elim e hm)]
theorem asK_perm (m : As) : (asK m).Perm (m.map (·.1)) := by unfold asK; rw [srtI_eq]; exact srtZ_perm _
theorem asK_nodup {n : Nat} {m : As} (h : okM n m) : (asK m).Nodup := (asK_perm m).nodup_iff.2 h.1
theorem asK_lt {n : Nat} {m : As} (h : okM n m) : (asK m).Pairwise (fun x y => x < y) := by
  have h1 : (asK m).Pairwise (fun x y => decide (x ≤ y) = true) := by unfold asK; rw [srtI_eq]; exact srtZ_sorted _
  refine List.Pairwise.imp₂ (fun a b (hab : decide (a ≤ b) = true) (hne : a ≠ b) => ?_) h1 (asK_nodup h)
  have := of_decide_eq_true hab
  omega
theorem asK_len (m : As) : (asK m).length = m.length := by rw [(asK_perm m).length_eq, List.length_map]
theorem rd_crH {th : Th} {m : As} {fu : Int} {keep : List Bool} {torn cut : Int} (h : okD th m fu) (hc : okC cut = true) {n : Nat} (hn : n < th.length) :
    rdS (crH th m keep torn cut) (crM m cut) (n : Int) = bytesStr (if (n : Int) ∈ asK m then crS keep torn cut (sec th n) (nowA m (n : Int)) ((asK m).idxOf (n : Int)) else sec th n) := by
  unfold crH crM rdS
  rw [if_pos hc, if_pos hc, if_pos (inTh_iff.2 ⟨by omega, by rw [crT_len]; omega⟩)]
  have := crT_get (keep := keep) (torn := torn) (cut := cut) (m := m) (asK m) 0 th (asK_nodup h.m) (fun x hx => (nowA_len h.m hx).2.1) n hn
  rw [Nat.zero_add] at this
  rw [← this]
  rfl
theorem bytes_len (l : List Int) : (bytesStr l).size = l.length := by
  show (l.map _).toArray.size = _
  simp
theorem bytes_append (a b : List Int) : bytesStr (a ++ b) = bytesStr a ++ bytesStr b := by
  apply ByteArray.ext
  rw [ByteArray.data_append]
  show (List.map _ (a ++ b)).toArray = (List.map _ a).toArray ++ (List.map _ b).toArray
  rw [List.map_append, List.append_toArray]
theorem bytes_extract (l : List Int) (i j : Nat) : (bytesStr l).extract i j = bytesStr ((l.take j).drop i) := by
  apply ByteArray.ext
  rw [ByteArray.data_extract]
  show (List.map _ l).toArray.extract i j = (List.map _ _).toArray
  rw [List.extract_toArray, List.map_drop, List.map_take, List.extract_eq_take_drop]
  congr 1
  rw [List.drop_take]
theorem bytes_torn {old new : List Int} (ho : old.length = 64) (hn : new.length = 64) {cut : Nat} (hc : cut ≤ 64) : bytesStr (over old 0 cut new) = (bytesStr new).extract 0 cut ++ (bytesStr old).extract cut 64 := by
  rw [bytes_extract, bytes_extract, ← bytes_append]
  congr 1
  simp only [over, List.take_zero, List.nil_append, List.drop_zero, Nat.zero_add]
  rw [List.take_of_length_le (l := old) (by omega)]
theorem idx_of {l : List Int} (hn : l.Nodup) {i : Nat} (hi : i < l.length) : l.idxOf l[i] = i := by
  induction l generalizing i with
  | nil => simp at hi
  | cons x l ih =>
    obtain ⟨h1, h2⟩ := List.nodup_cons.1 hn
    cases i with
    | zero => exact List.idxOf_cons_self
    | succ i =>
      have hi' : i < l.length := by simpa using hi
      rw [List.getElem_cons_succ, List.idxOf_cons, show (x == l[i]) = false from by simpa using fun h : x = l[i] => h1 (by rw [h]; exact List.getElem_mem hi'), cond_false, ih h2 hi']
theorem pw_get {l : List Int} (h : l.Pairwise (fun x y => x < y)) {i j : Nat} (hij : i < j) (hj : j < l.length) : l[i] < l[j] := List.pairwise_iff_getElem.1 h i j (by omega) hj hij
theorem rd_size {th : Th} {m : As} {fu n : Int} (h : okD th m fu) (hn : inTh th n = true) : (rdS th m n).size = 64 := by
  unfold rdS; rw [if_pos hn, bytes_len, nowS_len h hn]
theorem dc_in {Z : Glob} {X : Ctx} (hX : ∀ id, X.H id = none) (hz : ZCtx Z X) (hT : tabLw2.Ok P Z) (keep : List Bool) (torn : Int) (cut : Int) (hc0 : 0 ≤ cut) (hc1 : cut ≤ 64) (A : List Int) (th th2 th3 : Th) (m m2 m3 : As) (fu fu2 fu3 : Int) (N : Nat) (hd1 : okD th m fu) (hd2 : okD th2 m2 fu2) (hd3 : okD th3 m3 fu3) (hN : N ≤ 4096) (hAl : A.length ≤ 4096)
    (a n : Nat) (hnN : n < N) (hlt : a < A.length) (hget : A.getD a 0 = (n : Int)) (s2 : (rdS th2 m2 (n : Int)).size = 64) (s3 : (rdS th3 m3 (n : Int)).size = 64)
    (f1 : (a : Int) = torn → rdS th m (n : Int) = (rdS th3 m3 (n : Int)).extract 0 cut.toNat ++ (rdS th2 m2 (n : Int)).extract cut.toNat 64) (f2 : ¬ (a : Int) = torn → keep.getD a false = true → rdS th m (n : Int) = rdS th3 m3 (n : Int)) (f3 : ¬ (a : Int) = torn → keep.getD a false = false → rdS th m (n : Int) = rdS th2 m2 (n : Int))
    (next : Safe P 13 X (Ends [tBool] (true, ())) (cDc25 keep torn cut (N : Int) A th m fu th2 m2 fu2 th3 m3 fu3 ((a + 1 : Nat) : Int) ((n + 1 : Nat) : Int))) :
    Safe P 13 X (Ends [tBool] (true, ())) (cDc25 keep torn cut (N : Int) A th m fu th2 m2 fu2 th3 m3 fu3 (a : Int) (n : Int)) := by
  have sx : ∀ s : ByteArray, s.size = 64 → ∀ i j, (s.extract i j).size ≤ 64 := fun s hs i j => by rw [ByteArray.size_extract]; omega
  refine go hz hX hT Try.func13 (loopDc25 keep torn cut (N : Int) A th m fu th2 m2 fu2 th3 m3 fu3 a n) ?_
  have hka : keep.length ≤ a → keep.getD a false = false := fun h => by simp [List.getD, List.getElem?_eq_none h]
  generalize hr1 : rdS th m (n : Int) = r1 at *
  generalize hr2 : rdS th2 m2 (n : Int) = r2 at *
  generalize hr3 : rdS th3 m3 (n : Int) = r3 at *
  have q1 := sx r3 s3 0 cut.toNat
  have q2 := sx r2 s2 cut.toNat 64
  have e64 : (r2.size : Int).toNat = 64 := by omega
  have e0 : Int.toNat 0 = 0 := rfl
  have ea : ((a : Int)).toNat = a := Int.toNat_natCast a
  rw [ea, e64, e0, hget]
  clear hr1 hr2 hr3 sx e64 e0 ea
  repeat' (with_reducible (first | refine h_eq ?_ | refine h_need ?_ ?_ | refine h_dec (fun _ => ?_) (fun _ => ?_) | refine h_beq (fun _ => ?_) (fun _ => ?_) | refine h_bne (fun _ => ?_) (fun _ => ?_) | refine h_tt ?_ | refine h_ff ?_ | refine h_not ?_ | refine h_ite (fun _ => ?_) (fun _ => ?_) | refine h_both (fun _ => ?_) (fun _ => ?_) | refine h_ret ?_ | refine h_at ?_))
  all_goals first | assumption | exact next | exact absurd (f1 (by assumption)) (by assumption) | exact absurd (f2 (by assumption) (by assumption)) (by assumption) | exact absurd (f3 (by assumption) (by first | assumption | exact hka (by omega))) (by assumption) | omega | exact ⟨by omega, by omega⟩
theorem dc_out {Z : Glob} {X : Ctx} (hX : ∀ id, X.H id = none) (hz : ZCtx Z X) (hT : tabLw2.Ok P Z) (keep : List Bool) (torn : Int) (cut : Int) (A : List Int) (th th2 th3 : Th) (m m2 m3 : As) (fu fu2 fu3 : Int) (N : Nat) (hd1 : okD th m fu) (hd2 : okD th2 m2 fu2) (hd3 : okD th3 m3 fu3) (hN : N ≤ 4096) (hAl : A.length ≤ 4096)
    (a n : Nat) (hnN : n < N) (hat : ¬ (a < A.length ∧ A.getD a 0 = (n : Int))) (f1 : rdS th2 m2 (n : Int) = rdS th3 m3 (n : Int)) (f2 : rdS th m (n : Int) = rdS th2 m2 (n : Int))
    (next : Safe P 13 X (Ends [tBool] (true, ())) (cDc25 keep torn cut (N : Int) A th m fu th2 m2 fu2 th3 m3 fu3 (a : Int) ((n + 1 : Nat) : Int))) :
    Safe P 13 X (Ends [tBool] (true, ())) (cDc25 keep torn cut (N : Int) A th m fu th2 m2 fu2 th3 m3 fu3 (a : Int) (n : Int)) := by
  refine go hz hX hT Try.func13 (loopDc25 keep torn cut (N : Int) A th m fu th2 m2 fu2 th3 m3 fu3 a n) ?_
  have ea : ((a : Int)).toNat = a := Int.toNat_natCast a
  rw [ea]
  refine ⟨fun _ => ⟨rfl, rfl, hd1, rfl, rfl, hd2, rfl, rfl, hd3, fun h => ⟨by omega, by have := of_decide_eq_true h; omega, fun h2 => absurd ⟨by have := of_decide_eq_true h; omega, by simpa using h2⟩ hat, fun _ => ?_⟩, fun _ => ?_⟩, fun h => absurd (of_decide_eq_false h) (by omega)⟩
  all_goals
    rw [f2, f1]
    repeat' (with_reducible (first | refine h_eq ?_ | refine h_need ?_ ?_ | refine h_dec (fun _ => ?_) (fun _ => ?_) | refine h_beq (fun _ => ?_) (fun _ => ?_) | refine h_bne (fun _ => ?_) (fun _ => ?_) | refine h_tt ?_ | refine h_ff ?_ | refine h_not ?_ | refine h_ite (fun _ => ?_) (fun _ => ?_) | refine h_both (fun _ => ?_) (fun _ => ?_) | refine h_ret ?_ | refine h_at ?_))
    all_goals first | exact next | exact absurd rfl (by assumption) | omega | exact ⟨by omega, by omega⟩
theorem dc_last {Z : Glob} {X : Ctx} (hX : ∀ id, X.H id = none) (hz : ZCtx Z X) (hT : tabLw2.Ok P Z) (keep : List Bool) (torn : Int) : ∀ (cut : Int), 0 ≤ cut → cut ≤ 64 → ∀ (A : List Int) (th th2 th3 : Th) (m m2 m3 : As) (fu fu2 fu3 : Int) (N : Nat), okD th m fu → okD th2 m2 fu2 → okD th3 m3 fu3 → th.length = N → th2.length = N → th3.length = N → A.length ≤ 4096 → A.Pairwise (fun x y => x < y) → (∀ x ∈ A, x < (N : Int)) →
    (∀ (a : Nat) (ha : a < A.length) (n : Nat), n < N → A[a] = (n : Int) → ((a : Int) = torn → rdS th m (n : Int) = (rdS th3 m3 (n : Int)).extract 0 cut.toNat ++ (rdS th2 m2 (n : Int)).extract cut.toNat 64) ∧ (¬ (a : Int) = torn → keep.getD a false = true → rdS th m (n : Int) = rdS th3 m3 (n : Int)) ∧ (¬ (a : Int) = torn → keep.getD a false = false → rdS th m (n : Int) = rdS th2 m2 (n : Int))) →
    (∀ n : Nat, n < N → (n : Int) ∉ A → rdS th2 m2 (n : Int) = rdS th3 m3 (n : Int) ∧ rdS th m (n : Int) = rdS th2 m2 (n : Int)) →
    ∀ (j n a : Nat), n + j = N → a ≤ A.length → (∀ i (h : i < A.length), i < a → A[i] < (n : Int)) → (∀ i (h : i < A.length), a ≤ i → (n : Int) ≤ A[i]) →
    Safe P 13 X (Ends [tBool] (true, ())) (cDc25 keep torn cut (N : Int) A th m fu th2 m2 fu2 th3 m3 fu3 (a : Int) (n : Int)) := by
  intro cut hc0 hc1 A th th2 th3 m m2 m3 fu fu2 fu3 N hd1 hd2 hd3 hl1 hl2 hl3 hAl hAs hAN hin hout j
  induction j with
  | zero =>
    intro n a hn ha hlo hhi
    have e : a = A.length := by
      rcases Nat.lt_or_ge a A.length with h | h
      · have := hhi a h (Nat.le_refl _)
        have := hAN _ (List.getElem_mem h)
        omega
      · omega
    refine go hz hX hT Try.func13 (loopDc25 keep torn cut (N : Int) A th m fu th2 m2 fu2 th3 m3 fu3 a n) ⟨fun h => absurd (of_decide_eq_true h) (by omega), fun _ => ?_⟩
    rw [e]
    show Ends _ _ _ (.s (.bool ((A.length : Int) == (A.length : Int))))
    rw [show ((A.length : Int) == (A.length : Int)) = true from by simp]
    exact ends_b
  | succ j ih =>
    intro n a hn ha hlo hhi
    have hnN : n < N := by omega
    have h4 : th.length ≤ 4096 := hd1.t.1
    by_cases hat : a < A.length ∧ A.getD a 0 = (n : Int)
    · obtain ⟨hlt, hget⟩ := hat
      have hget' : A[a] = (n : Int) := by rw [← hget, getD_lt hlt]
      obtain ⟨f1, f2, f3⟩ := hin a hlt n hnN hget'
      exact dc_in hX hz hT keep torn cut hc0 hc1 A th th2 th3 m m2 m3 fu fu2 fu3 N hd1 hd2 hd3 (by omega) hAl a n hnN hlt hget (rd_size hd2 (inTh_iff.2 ⟨by omega, by omega⟩)) (rd_size hd3 (inTh_iff.2 ⟨by omega, by omega⟩)) f1 f2 f3
        (ih (n + 1) (a + 1) (by omega) hlt (fun i h hi => by
        rcases Nat.lt_or_ge i a with h2 | h2
        · have := hlo i h h2; omega
        · obtain rfl : i = a := by omega
          omega) (fun i h hi => by
        have := pw_get hAs (show a < i by omega) h
        omega))
    · have hno : (n : Int) ∉ A := fun hm => by
        obtain ⟨i, hi, he⟩ := List.getElem_of_mem hm
        rcases Nat.lt_trichotomy i a with h | h | h
        · have := hlo i hi h; omega
        · subst h; exact hat ⟨hi, by rw [getD_lt hi]; exact he⟩
        · have h1 := hhi a (by omega) (Nat.le_refl _)
          have := pw_get hAs h hi
          omega
      obtain ⟨f1, f2⟩ := hout n hnN hno
      exact dc_out hX hz hT keep torn cut A th th2 th3 m m2 m3 fu fu2 fu3 N hd1 hd2 hd3 (by omega) hAl a n hnN hat f1 f2
        (ih (n + 1) a (by omega) ha (fun i h hi => by have := hlo i h hi; omega) (fun i h hi => by
        have h1 := hhi i h hi
        have : A[i] ≠ (n : Int) := fun e => hno (e ▸ List.getElem_mem h)
        omega))
theorem dc_last0 {Z : Glob} {X : Ctx} (hX : ∀ id, X.H id = none) (hz : ZCtx Z X) (hT : tabLw2.Ok P Z) (keep : List Bool) (torn : Int) : ∀ (th : Th) (m : As) (fu : Int), okD th m fu → ∀ cut, 0 ≤ cut → cut ≤ 64 → ∀ tm1 tm2 tm3, okD (crH th m keep torn cut) (crM m cut) tm1 → okD (crH th m [] (-1) 0) (crM m 0) tm2 → okD (crH th m (List.replicate (asK m).length true) (-1) 0) (crM m 0) tm3 →
    Safe P 13 X (Ends [tBool] (true, ())) (cDc25 keep torn cut (th.length : Int) (asK m) (crH th m keep torn cut) (crM m cut) tm1 (crH th m [] (-1) 0) (crM m 0) tm2 (crH th m (List.replicate (asK m).length true) (-1) 0) (crM m 0) tm3 0 0) := by
  intro th m fu hd cut hc0 hc1 tm1 tm2 tm3 h1 h2 h3
  have hc : okC cut = true := okC_iff.2 ⟨hc0, hc1⟩
  have hcz : okC 0 = true := rfl
  have hm := keys_len hd.m hd.t.1
  rw [← asK_len] at hm
  have clen : ∀ ks t c, (crH th m ks t c).length = th.length := fun ks t c => by
    unfold crH
    split
    · exact crT_len _ _ _
    · rfl
  have r2 : ∀ n, n < th.length → rdS (crH th m [] (-1) 0) (crM m 0) (n : Int) = bytesStr (sec th n) := fun n hn => by
    rw [rd_crH hd hcz hn]
    split
    · unfold crS
      rw [if_neg (by omega), if_neg (by simp)]
    · rfl
  refine dc_last hX hz hT keep torn cut hc0 hc1 (asK m) _ _ _ _ _ _ tm1 tm2 tm3 th.length h1 h2 h3 (clen _ _ _) (clen _ _ _) (clen _ _ _) hm (asK_lt hd.m) (fun x hx => (nowA_len hd.m hx).2.2) ?_ ?_ th.length 0 0 (by omega) (Nat.zero_le _) (fun i h hi => absurd hi (Nat.not_lt_zero _)) (fun i h _ => (nowA_len hd.m (List.getElem_mem h)).2.1)
  · intro a ha n hn he
    have hmem : (n : Int) ∈ asK m := he ▸ List.getElem_mem ha
    have hidx : (asK m).idxOf (n : Int) = a := by rw [← he]; exact idx_of (asK_nodup hd.m) ha
    have l1 : (sec th n).length = 64 := hd.t.2 n hn
    have l2 := (nowA_len hd.m hmem).1
    have r3 : rdS (crH th m (List.replicate (asK m).length true) (-1) 0) (crM m 0) (n : Int) = bytesStr (nowA m (n : Int)) := by
      rw [rd_crH hd hcz hn, if_pos hmem, hidx]
      unfold crS
      rw [if_neg (by omega), if_pos (by simp [List.getD, ha])]
    rw [rd_crH hd hc hn, if_pos hmem, hidx, r2 n hn, r3]
    unfold crS
    refine ⟨fun ht => ?_, fun ht hk => ?_, fun ht hk => ?_⟩
    · rw [if_pos ht]; exact bytes_torn l1 l2 (by omega)
    · rw [if_neg ht, if_pos hk]
    · rw [if_neg ht, if_neg (by rw [hk]; simp)]
  · intro n hn hno
    have r3 : rdS (crH th m (List.replicate (asK m).length true) (-1) 0) (crM m 0) (n : Int) = bytesStr (sec th n) := by rw [rd_crH hd hcz hn, if_neg hno]
    rw [rd_crH hd hc hn, if_neg hno, r2 n hn, r3]
    exact ⟨rfl, rfl⟩
theorem dc_mid {Z : Glob} {X : Ctx} (hX : ∀ id, X.H id = none) (hz : ZCtx Z X) (hT : tabLw2.Ok P Z) (keep : List Bool) (torn : Int) (cut : Int) : ∀ (th : Th) (m : As) (fu : Int), okD th m fu → ∀ (j k : Nat), k + j = (asK m).length →
    Safe P 13 X (Ends [tBool] (true, ())) (cDc16 keep torn cut (th.length : Int) (asK m) (List.replicate k true ++ List.replicate j false) th m fu (crH th m [] (-1) 0) (crM m 0) (crF fu 0) th m fu (k : Int)) := by
  intro th m fu hd j
  have hm := keys_len hd.m hd.t.1
  rw [← asK_len] at hm
  induction j with
  | zero =>
    intro k hk
    refine go hz hX hT Try.func13 (loopDc16 keep torn cut (th.length : Int) (asK m) _ th m fu _ _ _ th m fu k) ⟨fun h => absurd (of_decide_eq_true h) (by simp), fun _ => ⟨rfl, rfl, hd, ?_⟩⟩
    have el : List.replicate k true ++ List.replicate 0 false = List.replicate (asK m).length true := by rw [show k = (asK m).length from by omega]; simp
    rw [el]
    have z0 : 0 ≤ (IntKind.u64.wrap cut).tmod 65 := Int.tmod_nonneg _ (u64_mod cut)
    have z1 : (IntKind.u64.wrap cut).tmod 65 < 65 := Int.tmod_lt_of_pos _ (by omega)
    show Safe P _ X _ (cDc20 keep torn cut (th.length : Int) (asK m) th m fu _ _ _ _ _ _)
    refine go hz hX hT Try.func13 (loopDc20 keep torn cut (th.length : Int) (asK m) th m fu _ _ _ _ _ _) ?_
    generalize (IntKind.u64.wrap cut).tmod 65 = c at *
    have hcc : okC c = true := okC_iff.2 ⟨z0, by omega⟩
    have e1 : crE c = 0 := by unfold crE; rw [if_pos hcc]
    have e2 : crM m c = [] := by unfold crM; rw [if_pos hcc]
    have e3 : crF fu c = -1 := by unfold crF; rw [if_pos hcc]
    have fin := dc_last0 hX hz hT keep torn th m fu hd c z0 (by omega) (crF fu c) (crF fu 0) (crF fu 0) (ok_cr hd) (ok_cr hd) (ok_cr hd)
    have hk := ok_cr (keep := keep) (torn := torn) (cut := c) hd
    rw [e1]
    rw [e2, e3] at fin hk ⊢
    repeat' (with_reducible (first | refine h_eq ?_ | refine h_need ?_ ?_ | refine h_dec (fun _ => ?_) (fun _ => ?_) | refine h_beq (fun _ => ?_) (fun _ => ?_) | refine h_bne (fun _ => ?_) (fun _ => ?_) | refine h_tt ?_ | refine h_ff ?_ | refine h_not ?_ | refine h_ite (fun _ => ?_) (fun _ => ?_) | refine h_both (fun _ => ?_) (fun _ => ?_) | refine h_ret ?_ | refine h_at ?_))
    all_goals first | trivial | assumption | omega | exact ⟨by omega, by omega⟩ | exact fin | (exfalso; simp_all; done) | (exfalso; have : asK [] = [] := rfl; simp_all; done)
  | succ j ih =>
    intro k hk
    refine go hz hX hT Try.func13 (loopDc16 keep torn cut (th.length : Int) (asK m) _ th m fu _ _ _ th m fu k) ⟨fun _ => ⟨by omega, by simp; omega, ⟨by omega, by omega⟩, ?_⟩, fun h => absurd (of_decide_eq_false h) (by simp; omega)⟩
    have := ih (k + 1) (by omega)
    have es : (List.replicate k true ++ List.replicate (j + 1) false).set k true = List.replicate (k + 1) true ++ List.replicate j false := by
      rw [List.set_append_right _ _ (by simp), List.length_replicate, Nat.sub_self, List.replicate_succ, List.set_cons_zero, List.replicate_succ' (n := k), List.append_assoc]
      rfl
    rw [Int.toNat_natCast, es]
    exact this
theorem diskCrash_ok {Z : Glob} : FnOk P Z 13 [tInt, tSteps, tBools, tInt, tInt] [tBool] (preWf _) (fun _ => (true, ())) := by
  refine fnOk_of_safe Try.func13 (by kernel_rfl) (by kernel_rfl) ?_
  rintro ⟨(sc : Int), (l : List (CL cSt)), (keep : List Bool), (torn : Int), (cut : Int), ⟨⟩⟩ ⟨_, (hl : l.length ≤ maxLen), (hkl : keep.length ≤ maxLen), _⟩ ⟨⟨hsec, hwl, _⟩, _⟩ X hX hz
  have hN := okSt_wf hwl
  show Safe P 13 X (Ends [tBool] (true, ())) _
  have hl2 : l.length ≤ 9223372036854775807 := by unfold maxLen at hl; omega
  have hT : tabLw2.Ok P Z := tabLw2_ok
  have loop : ∀ (j k : Nat) (th : Th) (m : As) (fu : Int), k + j = l.length → okD th m fu → (th.length : Int) = sc → Safe P 13 X (Ends [tBool] (true, ())) (cDc l keep torn cut sc th m fu (k : Int)) := by
    intro j
    induction j with
    | zero =>
      intro k th m fu hk hd hsc
      refine go hz hX hT Try.func13 (loopDc l keep torn cut sc th m fu k) ?_
      have hm := keys_len hd.m hd.t.1
      rw [← asK_len] at hm
      have hmid := dc_mid hX hz hT keep torn cut th m fu hd (asK m).length 0 (by omega)
      rw [hsc] at hmid
      repeat' (with_reducible (first | refine h_eq ?_ | refine h_need ?_ ?_ | refine h_dec (fun _ => ?_) (fun _ => ?_) | refine h_beq (fun _ => ?_) (fun _ => ?_) | refine h_bne (fun _ => ?_) (fun _ => ?_) | refine h_tt ?_ | refine h_ff ?_ | refine h_not ?_ | refine h_ite (fun _ => ?_) (fun _ => ?_) | refine h_both (fun _ => ?_) (fun _ => ?_) | refine h_ret ?_ | refine h_at ?_))
      all_goals first | assumption | omega | exact hmid
    | succ j ih =>
      intro k th m fu hk hd hsc
      have hlt : k < l.length := by omega
      refine go hz hX hT Try.func13 (loopDc l keep torn cut sc th m fu k) ?_
      have hx := hN _ (List.getElem_mem hlt)
      rw [← el_lt hlt] at hx
      generalize el l (k : Int) = x at *
      have hd' := ok_st (k := stK x) (n := stN x) (c := stC x) (s := stS x) (ks := stB x) hd hx.n.2
      have next := ih (k + 1) _ _ _ (by omega) hd' (by rw [stT_len]; exact hsc)
      repeat' (with_reducible (first | refine h_eq ?_ | refine h_need ?_ ?_ | refine h_dec (fun _ => ?_) (fun _ => ?_) | refine h_beq (fun _ => ?_) (fun _ => ?_) | refine h_bne (fun _ => ?_) (fun _ => ?_) | refine h_tt ?_ | refine h_ff ?_ | refine h_not ?_ | refine h_ite (fun _ => ?_) (fun _ => ?_) | refine h_both (fun _ => ?_) (fun _ => ?_) | refine h_ret ?_ | refine h_at ?_))
      all_goals first | omega | exact ⟨by omega, by omega⟩ | assumption | exact next
  refine go hz hX hT Try.func13 (treeDc sc l keep torn cut) ?_
  repeat' (with_reducible (first | refine h_eq ?_ | refine h_need ?_ ?_ | refine h_dec (fun _ => ?_) (fun _ => ?_) | refine h_beq (fun _ => ?_) (fun _ => ?_) | refine h_bne (fun _ => ?_) (fun _ => ?_) | refine h_tt ?_ | refine h_ff ?_ | refine h_not ?_ | refine h_ite (fun _ => ?_) (fun _ => ?_) | refine h_both (fun _ => ?_) (fun _ => ?_) | refine h_ret ?_ | refine h_at ?_))
  all_goals first | omega | exact ends_b | exact ends_bl | skip
  exact loop l.length 0 (List.replicate sc.toNat (CL.d cS)) [] (-1) (by omega) (ok_new (by omega)) (by simp; omega)
end Ds

namespace Ds
open Go Go.Sx Go.Proofs Lf
/-! DiskFlushed -/
abbrev avZs (l : List Int) : AV := .s (.ro (.ints .i64 l))
def nsDf : List (Nat × Norm) := [(7, ⟨[], [0, 1, 2, 3, 4, 5, 13, 15], 0, []⟩), (10, ⟨[], [0, 2, 3, 4, 5, 13], 0, []⟩), (14, ⟨[], [0, 2, 3, 4, 5, 13, 16, 17], 0, []⟩), (19, ⟨[], [0, 2, 13, 16, 18], 0, []⟩), (23, ⟨[], [0, 2, 13, 16, 18, 19, 20], 0, []⟩), (26, ⟨[], [0, 2, 13, 16, 18, 19], 0, []⟩)]
abbrev fDf : FuncId := 14
abbrev slDf (x : List (Nat × AV)) : List AV := sl 134 x
noncomputable def cDf7 (l : List (CL cSt)) (beh : List Int) (keep : List Bool) (torn cut sc : Int) (th : Th) (m : As) (fu i : Int) : Cfg := ⟨sl 134 [(0, avI sc), (1, avSteps l), (2, avZs beh), (3, avB keep), (4, avI torn), (5, avI cut), (13, .ptr 0 0), (15, avI i)], hD th m fu, hd Try.f14 7, {}⟩
noncomputable def cDf10 (beh : List Int) (keep : List Bool) (torn cut sc : Int) (th : Th) (m : As) (fu : Int) : Cfg := ⟨sl 134 [(0, avI sc), (2, avZs beh), (3, avB keep), (4, avI torn), (5, avI cut), (13, .ptr 0 0)], hD th m fu, hr Try.f14 10, {}⟩
noncomputable def cDf14 (beh : List Int) (keep : List Bool) (torn cut sc : Int) (th : Th) (m : As) (fu : Int) (th' : Th) (m' : As) (fu' i : Int) : Cfg := ⟨sl 134 [(0, avI sc), (2, avZs beh), (3, avB keep), (4, avI torn), (5, avI cut), (13, .ptr 0 0), (16, .ptr 1 0), (17, avI i)], hDD th m fu th' m' fu', hd Try.f14 14, {}⟩
noncomputable def cDf19 (beh : List Int) (sc : Int) (th : Th) (m : As) (fu : Int) (th' : Th) (m' : As) (fu' n : Int) : Cfg := ⟨sl 134 [(0, avI sc), (2, avZs beh), (13, .ptr 0 0), (16, .ptr 1 0), (18, avI n)], hDD th m fu th' m' fu', hd Try.f14 19, {}⟩
noncomputable def cDf23 (beh : List Int) (sc : Int) (th : Th) (m : As) (fu : Int) (th' : Th) (m' : As) (fu' n : Int) (b : Bool) (i : Int) : Cfg := ⟨sl 134 [(0, avI sc), (2, avZs beh), (13, .ptr 0 0), (16, .ptr 1 0), (18, avI n), (19, .s (.bool b)), (20, avI i)], hDD th m fu th' m' fu', hd Try.f14 23, {}⟩
noncomputable def cDf26 (beh : List Int) (sc : Int) (th : Th) (m : As) (fu : Int) (th' : Th) (m' : As) (fu' n : Int) (b : Bool) : Cfg := ⟨sl 134 [(0, avI sc), (2, avZs beh), (13, .ptr 0 0), (16, .ptr 1 0), (18, avI n), (19, .s (.bool b))], hDD th m fu th' m' fu', hr Try.f14 26, {}⟩
theorem treeDf (sc : Int) (l : List (CL cSt)) (beh : List Int) (keep : List Bool) (torn cut : Int) : run P tabLw2.sum Try.f14 nsDf (start Try.f14 [avI sc, avSteps l, avZs beh, avB keep, avI torn, avI cut] []) [28] =
  Tree.ite false (Tree.ret [] (AV.s (SV.bool true))) (Tree.need (Slf (some [AV.s (SV.ro (Con.typ cSt l))])) (Tree.need NoObj (Tree.need (l.length ≤ (9223372036854775807 : Nat)) (Tree.both True (l.length - (300 : Nat) = (0 : Nat)) (Tree.ret [] (AV.s (SV.bool true))) (Tree.ite (decide ((↑keep.length : Int) > (200 : Int))) (Tree.ret [] (AV.s (SV.bool true))) (Tree.ite (decide ((↑beh.length : Int) > (100 : Int))) (Tree.ret [] (AV.s (SV.bool true))) (Tree.ite (decide (sc > (60 : Int))) (Tree.ret [] (AV.s (SV.bool true))) (Tree.ite (decide (sc < (1 : Int))) (Tree.ret [] (AV.s (SV.blit true))) (Tree.ite (decide (sc > (4096 : Int))) (Tree.ret [] (AV.s (SV.blit true))) (Tree.need ((0 : Int) ≤ sc) (Tree.need (sc ≤ sc) (Tree.need (sc ≤ (1073741824 : Int)) (Tree.at (Cfg.mk (sl (134 : Nat) [((0 : Nat), AV.s (SV.int IntKind.i64 sc)), ((1 : Nat), AV.s (SV.ro (Con.typ cSt l))), ((2 : Nat), AV.s (SV.ro (Con.ints IntKind.i64 beh))), ((3 : Nat), AV.s (SV.ro (Con.bools keep))), ((4 : Nat), AV.s (SV.int IntKind.i64 torn)), ((5 : Nat), AV.s (SV.int IntKind.i64 cut)), ((13 : Nat), AV.ptr (0 : Nat) (0 : Nat)), ((15 : Nat), AV.s (SV.int IntKind.i64 (0 : Int)))]) [AObj.own [AV.vec (1 : Nat), AV.mapv (2 : Nat), AV.s (SV.int IntKind.i64 (-1 : Int))] (145 : Nat), AObj.vec (Con.typ cS (List.replicate sc.toNat (CL.d cS))) (169 : Nat), AObj.map (CK.arr IntKind.u8 (64 : Nat)) []] (hd Try.f14 (7 : Nat)) (Stk.mk none false (0 : Nat) [] (0 : Nat)))))))))))))))) := by kernel_rfl
theorem loopDf7 (l : List (CL cSt)) (beh : List Int) (keep : List Bool) (torn cut sc : Int) (th : Th) (m : As) (fu i : Int) : run P tabLw2.sum Try.f14 nsDf (cDf7 l beh keep torn cut sc th m fu i) [28] =
  Tree.ite (decide (i < (↑l.length : Int))) (Tree.need ((0 : Int) ≤ i) (Tree.need (i < (↑l.length : Int)) (Tree.need (Slf (some [AV.agg [AV.s (SV.int IntKind.u8 (stK (el l i))), AV.s (SV.int IntKind.i64 (stN (el l i))), AV.s (SV.str (stS (el l i))), AV.s (SV.ro (Con.bools (stB (el l i)))), AV.s (SV.int IntKind.i64 (stC (el l i)))], AV.ptr (0 : Nat) (0 : Nat)])) (Tree.need (Slf (some [AObj.own [AV.vec (1 : Nat), AV.mapv (2 : Nat), AV.s (SV.int IntKind.i64 fu)] (145 : Nat), AObj.vec (Con.typ cS th) (169 : Nat), AObj.map (CK.arr IntKind.u8 (64 : Nat)) m])) (Tree.need (okD th m fu) (Tree.need (inI64 (i + (1 : Int))) (Tree.at (Cfg.mk (sl (134 : Nat) [((0 : Nat), AV.s (SV.int IntKind.i64 sc)), ((1 : Nat), AV.s (SV.ro (Con.typ cSt l))), ((2 : Nat), AV.s (SV.ro (Con.ints IntKind.i64 beh))), ((3 : Nat), AV.s (SV.ro (Con.bools keep))), ((4 : Nat), AV.s (SV.int IntKind.i64 torn)), ((5 : Nat), AV.s (SV.int IntKind.i64 cut)), ((13 : Nat), AV.ptr (0 : Nat) (0 : Nat)), ((15 : Nat), AV.s (SV.int IntKind.i64 (i + (1 : Int))))]) [AObj.own [AV.vec (1 : Nat), AV.mapv (2 : Nat), AV.s (SV.int IntKind.i64 (stF th fu (stK (el l i)) (stN (el l i)) (stS (el l i)) (stC (el l i))))] (145 : Nat), AObj.vec (Con.typ cS (stT th m fu (stK (el l i)) (stN (el l i)) (stB (el l i)) (stC (el l i)))) (169 : Nat), AObj.map (CK.arr IntKind.u8 (64 : Nat)) (stM th m fu (stK (el l i)) (stN (el l i)) (stS (el l i)) (stC (el l i)))] (hd Try.f14 (7 : Nat)) (Stk.mk none false (0 : Nat) [] (0 : Nat)))))))))) (Tree.at (Cfg.mk (sl (134 : Nat) [((0 : Nat), AV.s (SV.int IntKind.i64 sc)), ((2 : Nat), AV.s (SV.ro (Con.ints IntKind.i64 beh))), ((3 : Nat), AV.s (SV.ro (Con.bools keep))), ((4 : Nat), AV.s (SV.int IntKind.i64 torn)), ((5 : Nat), AV.s (SV.int IntKind.i64 cut)), ((13 : Nat), AV.ptr (0 : Nat) (0 : Nat))]) [AObj.own [AV.vec (1 : Nat), AV.mapv (2 : Nat), AV.s (SV.int IntKind.i64 fu)] (145 : Nat), AObj.vec (Con.typ cS th) (169 : Nat), AObj.map (CK.arr IntKind.u8 (64 : Nat)) m] (hr Try.f14 (10 : Nat)) (Stk.mk none false (0 : Nat) [] (0 : Nat)))) := by kernel_rfl
theorem loopDf10 (beh : List Int) (keep : List Bool) (torn cut sc : Int) (th : Th) (m : As) (fu : Int) : run P tabLw2.sum Try.f14 nsDf (cDf10 beh keep torn cut sc th m fu) [28] =
  Tree.need (Slf (some [AV.ptr (0 : Nat) (0 : Nat)])) (Tree.need (Slf (some [AObj.own [AV.vec (1 : Nat), AV.mapv (2 : Nat), AV.s (SV.int IntKind.i64 fu)] (145 : Nat), AObj.vec (Con.typ cS th) (169 : Nat), AObj.map (CK.arr IntKind.u8 (64 : Nat)) m])) (Tree.need (okD th m fu) (Tree.ite (flE fu != (0 : Int)) (Tree.need (Slf (some [AV.ptr (0 : Nat) (0 : Nat)])) (Tree.need (Slf (some [AObj.own [AV.vec (1 : Nat), AV.mapv (2 : Nat), AV.s (SV.int IntKind.i64 (burnF fu))] (145 : Nat), AObj.vec (Con.typ cS (flT th m fu)) (169 : Nat), AObj.map (CK.arr IntKind.u8 (64 : Nat)) (flM m fu)])) (Tree.ret [AObj.own [AV.vec (1 : Nat), AV.mapv (2 : Nat), AV.s (SV.int IntKind.i64 (burnF fu))] (145 : Nat), AObj.vec (Con.typ cS (flT th m fu)) (169 : Nat), AObj.map (CK.arr IntKind.u8 (64 : Nat)) (flM m fu)] (AV.s (SV.bool (burnF fu == (0 : Int))))))) (Tree.need (Slf (some [AV.ptr (0 : Nat) (0 : Nat)])) (Tree.need (Slf (some [AObj.own [AV.vec (1 : Nat), AV.mapv (2 : Nat), AV.s (SV.int IntKind.i64 (burnF fu))] (145 : Nat), AObj.vec (Con.typ cS (flT th m fu)) (169 : Nat), AObj.map (CK.arr IntKind.u8 (64 : Nat)) (flM m fu)])) (Tree.need (okD (flT th m fu) (flM m fu) (burnF fu)) (Tree.at (Cfg.mk (sl (134 : Nat) [((0 : Nat), AV.s (SV.int IntKind.i64 sc)), ((2 : Nat), AV.s (SV.ro (Con.ints IntKind.i64 beh))), ((3 : Nat), AV.s (SV.ro (Con.bools keep))), ((4 : Nat), AV.s (SV.int IntKind.i64 torn)), ((5 : Nat), AV.s (SV.int IntKind.i64 cut)), ((13 : Nat), AV.ptr (0 : Nat) (0 : Nat)), ((16 : Nat), AV.ptr (1 : Nat) (0 : Nat)), ((17 : Nat), AV.s (SV.int IntKind.i64 (0 : Int)))]) [AObj.own [AV.vec (2 : Nat), AV.mapv (3 : Nat), AV.s (SV.int IntKind.i64 (burnF fu))] (145 : Nat), AObj.own [AV.vec (4 : Nat), AV.mapv (5 : Nat), AV.s (SV.int IntKind.i64 (burnF fu))] (145 : Nat), AObj.vec (Con.typ cS (flT th m fu)) (169 : Nat), AObj.map (CK.arr IntKind.u8 (64 : Nat)) (flM m fu), AObj.vec (Con.typ cS (flT th m fu)) (169 : Nat), AObj.map (CK.arr IntKind.u8 (64 : Nat)) (flM m fu)] (hd Try.f14 (14 : Nat)) (Stk.mk none false (0 : Nat) [] (0 : Nat)))))))))) := by kernel_rfl
theorem loopDf14 (beh : List Int) (keep : List Bool) (torn cut sc : Int) (th : Th) (m : As) (fu : Int) (th' : Th) (m' : As) (fu' i : Int) : run P tabLw2.sum Try.f14 nsDf (cDf14 beh keep torn cut sc th m fu th' m' fu' i) [28] =
  Tree.ite (decide (i < (↑beh.length : Int))) (Tree.need ((0 : Int) ≤ i) (Tree.need (i < (↑beh.length : Int)) (Tree.need (Slf (some [AV.ptr (0 : Nat) (0 : Nat), AV.s (SV.int IntKind.i64 (beh.getD i.toNat (0 : Int))), AV.s (SV.str (ofS (IntKind.u8.wrap i)))])) (Tree.need (Slf (some [AObj.own [AV.vec (1 : Nat), AV.mapv (2 : Nat), AV.s (SV.int IntKind.i64 fu)] (145 : Nat), AObj.vec (Con.typ cS th) (169 : Nat), AObj.map (CK.arr IntKind.u8 (64 : Nat)) m])) (Tree.need (okD th m fu) (Tree.need (inI64 (i + (1 : Int))) (Tree.at (Cfg.mk (sl (134 : Nat) [((0 : Nat), AV.s (SV.int IntKind.i64 sc)), ((2 : Nat), AV.s (SV.ro (Con.ints IntKind.i64 beh))), ((3 : Nat), AV.s (SV.ro (Con.bools keep))), ((4 : Nat), AV.s (SV.int IntKind.i64 torn)), ((5 : Nat), AV.s (SV.int IntKind.i64 cut)), ((13 : Nat), AV.ptr (0 : Nat) (0 : Nat)), ((16 : Nat), AV.ptr (1 : Nat) (0 : Nat)), ((17 : Nat), AV.s (SV.int IntKind.i64 (i + (1 : Int))))]) [AObj.own [AV.vec (2 : Nat), AV.mapv (3 : Nat), AV.s (SV.int IntKind.i64 (wrF th fu (beh.getD i.toNat (0 : Int)) (ofS (IntKind.u8.wrap i))))] (145 : Nat), AObj.own [AV.vec (4 : Nat), AV.mapv (5 : Nat), AV.s (SV.int IntKind.i64 fu')] (145 : Nat), AObj.vec (Con.typ cS th) (169 : Nat), AObj.map (CK.arr IntKind.u8 (64 : Nat)) (wrM th m fu (beh.getD i.toNat (0 : Int)) (ofS (IntKind.u8.wrap i))), AObj.vec (Con.typ cS th') (169 : Nat), AObj.map (CK.arr IntKind.u8 (64 : Nat)) m'] (hd Try.f14 (14 : Nat)) (Stk.mk none false (0 : Nat) [] (0 : Nat)))))))))) (Tree.need ((65 : Int) ≠ (0 : Int)) (Tree.need (inI64 ((IntKind.u64.wrap cut).tmod (65 : Int))) (Tree.need (Slf (some [AV.ptr (0 : Nat) (0 : Nat), AV.s (SV.ro (Con.bools keep)), AV.s (SV.int IntKind.i64 torn), AV.s (SV.int IntKind.i64 ((IntKind.u64.wrap cut).tmod (65 : Int)))])) (Tree.need (Slf (some [AObj.own [AV.vec (1 : Nat), AV.mapv (2 : Nat), AV.s (SV.int IntKind.i64 fu)] (145 : Nat), AObj.vec (Con.typ cS th) (169 : Nat), AObj.map (CK.arr IntKind.u8 (64 : Nat)) m])) (Tree.need (okD th m fu) (Tree.at (Cfg.mk (sl (134 : Nat) [((0 : Nat), AV.s (SV.int IntKind.i64 sc)), ((2 : Nat), AV.s (SV.ro (Con.ints IntKind.i64 beh))), ((13 : Nat), AV.ptr (0 : Nat) (0 : Nat)), ((16 : Nat), AV.ptr (1 : Nat) (0 : Nat)), ((18 : Nat), AV.s (SV.int IntKind.i64 (0 : Int)))]) [AObj.own [AV.vec (2 : Nat), AV.mapv (3 : Nat), AV.s (SV.int IntKind.i64 (crF fu ((IntKind.u64.wrap cut).tmod (65 : Int))))] (145 : Nat), AObj.own [AV.vec (4 : Nat), AV.mapv (5 : Nat), AV.s (SV.int IntKind.i64 fu')] (145 : Nat), AObj.vec (Con.typ cS (crH th m keep torn ((IntKind.u64.wrap cut).tmod (65 : Int)))) (169 : Nat), AObj.map (CK.arr IntKind.u8 (64 : Nat)) (crM m ((IntKind.u64.wrap cut).tmod (65 : Int))), AObj.vec (Con.typ cS th') (169 : Nat), AObj.map (CK.arr IntKind.u8 (64 : Nat)) m'] (hd Try.f14 (19 : Nat)) (Stk.mk none false (0 : Nat) [] (0 : Nat))))))))) := by kernel_rfl
theorem loopDf19 (beh : List Int) (sc : Int) (th : Th) (m : As) (fu : Int) (th' : Th) (m' : As) (fu' n : Int) : run P tabLw2.sum Try.f14 nsDf (cDf19 beh sc th m fu th' m' fu' n) [28] =
  Tree.ite (decide (n < sc)) (Tree.at (Cfg.mk (sl (134 : Nat) [((0 : Nat), AV.s (SV.int IntKind.i64 sc)), ((2 : Nat), AV.s (SV.ro (Con.ints IntKind.i64 beh))), ((13 : Nat), AV.ptr (0 : Nat) (0 : Nat)), ((16 : Nat), AV.ptr (1 : Nat) (0 : Nat)), ((18 : Nat), AV.s (SV.int IntKind.i64 n)), ((19 : Nat), AV.s (SV.bool false)), ((20 : Nat), AV.s (SV.int IntKind.i64 (0 : Int)))]) [AObj.own [AV.vec (2 : Nat), AV.mapv (3 : Nat), AV.s (SV.int IntKind.i64 fu)] (145 : Nat), AObj.own [AV.vec (4 : Nat), AV.mapv (5 : Nat), AV.s (SV.int IntKind.i64 fu')] (145 : Nat), AObj.vec (Con.typ cS th) (169 : Nat), AObj.map (CK.arr IntKind.u8 (64 : Nat)) m, AObj.vec (Con.typ cS th') (169 : Nat), AObj.map (CK.arr IntKind.u8 (64 : Nat)) m'] (hd Try.f14 (23 : Nat)) (Stk.mk none false (0 : Nat) [] (0 : Nat)))) (Tree.ret [AObj.own [AV.vec (2 : Nat), AV.mapv (3 : Nat), AV.s (SV.int IntKind.i64 fu)] (145 : Nat), AObj.own [AV.vec (4 : Nat), AV.mapv (5 : Nat), AV.s (SV.int IntKind.i64 fu')] (145 : Nat), AObj.vec (Con.typ cS th) (169 : Nat), AObj.map (CK.arr IntKind.u8 (64 : Nat)) m, AObj.vec (Con.typ cS th') (169 : Nat), AObj.map (CK.arr IntKind.u8 (64 : Nat)) m'] (AV.s (SV.blit true))) := by kernel_rfl
theorem loopDf23 (beh : List Int) (sc : Int) (th : Th) (m : As) (fu : Int) (th' : Th) (m' : As) (fu' n : Int) (b : Bool) (i : Int) : run P tabLw2.sum Try.f14 nsDf (cDf23 beh sc th m fu th' m' fu' n b i) [28] =
  Tree.ite (decide (i < (↑beh.length : Int))) (Tree.ite b (Tree.need (inI64 (i + (1 : Int))) (Tree.at (Cfg.mk (sl (134 : Nat) [((0 : Nat), AV.s (SV.int IntKind.i64 sc)), ((2 : Nat), AV.s (SV.ro (Con.ints IntKind.i64 beh))), ((13 : Nat), AV.ptr (0 : Nat) (0 : Nat)), ((16 : Nat), AV.ptr (1 : Nat) (0 : Nat)), ((18 : Nat), AV.s (SV.int IntKind.i64 n)), ((19 : Nat), AV.s (SV.bool true)), ((20 : Nat), AV.s (SV.int IntKind.i64 (i + (1 : Int))))]) [AObj.own [AV.vec (2 : Nat), AV.mapv (3 : Nat), AV.s (SV.int IntKind.i64 fu)] (145 : Nat), AObj.own [AV.vec (4 : Nat), AV.mapv (5 : Nat), AV.s (SV.int IntKind.i64 fu')] (145 : Nat), AObj.vec (Con.typ cS th) (169 : Nat), AObj.map (CK.arr IntKind.u8 (64 : Nat)) m, AObj.vec (Con.typ cS th') (169 : Nat), AObj.map (CK.arr IntKind.u8 (64 : Nat)) m'] (hd Try.f14 (23 : Nat)) (Stk.mk none false (0 : Nat) [] (0 : Nat))))) (Tree.need ((0 : Int) ≤ i) (Tree.need (i < (↑beh.length : Int)) (Tree.need (inI64 (i + (1 : Int))) (Tree.at (Cfg.mk (sl (134 : Nat) [((0 : Nat), AV.s (SV.int IntKind.i64 sc)), ((2 : Nat), AV.s (SV.ro (Con.ints IntKind.i64 beh))), ((13 : Nat), AV.ptr (0 : Nat) (0 : Nat)), ((16 : Nat), AV.ptr (1 : Nat) (0 : Nat)), ((18 : Nat), AV.s (SV.int IntKind.i64 n)), ((19 : Nat), AV.s (SV.bool (beh.getD i.toNat (0 : Int) == n))), ((20 : Nat), AV.s (SV.int IntKind.i64 (i + (1 : Int))))]) [AObj.own [AV.vec (2 : Nat), AV.mapv (3 : Nat), AV.s (SV.int IntKind.i64 fu)] (145 : Nat), AObj.own [AV.vec (4 : Nat), AV.mapv (5 : Nat), AV.s (SV.int IntKind.i64 fu')] (145 : Nat), AObj.vec (Con.typ cS th) (169 : Nat), AObj.map (CK.arr IntKind.u8 (64 : Nat)) m, AObj.vec (Con.typ cS th') (169 : Nat), AObj.map (CK.arr IntKind.u8 (64 : Nat)) m'] (hd Try.f14 (23 : Nat)) (Stk.mk none false (0 : Nat) [] (0 : Nat)))))))) (Tree.at (Cfg.mk (sl (134 : Nat) [((0 : Nat), AV.s (SV.int IntKind.i64 sc)), ((2 : Nat), AV.s (SV.ro (Con.ints IntKind.i64 beh))), ((13 : Nat), AV.ptr (0 : Nat) (0 : Nat)), ((16 : Nat), AV.ptr (1 : Nat) (0 : Nat)), ((18 : Nat), AV.s (SV.int IntKind.i64 n)), ((19 : Nat), AV.s (SV.bool b))]) [AObj.own [AV.vec (2 : Nat), AV.mapv (3 : Nat), AV.s (SV.int IntKind.i64 fu)] (145 : Nat), AObj.own [AV.vec (4 : Nat), AV.mapv (5 : Nat), AV.s (SV.int IntKind.i64 fu')] (145 : Nat), AObj.vec (Con.typ cS th) (169 : Nat), AObj.map (CK.arr IntKind.u8 (64 : Nat)) m, AObj.vec (Con.typ cS th') (169 : Nat), AObj.map (CK.arr IntKind.u8 (64 : Nat)) m'] (hr Try.f14 (26 : Nat)) (Stk.mk none false (0 : Nat) [] (0 : Nat)))) := by kernel_rfl
theorem loopDf26 (beh : List Int) (sc : Int) (th : Th) (m : As) (fu : Int) (th' : Th) (m' : As) (fu' n : Int) (b : Bool) : run P tabLw2.sum Try.f14 nsDf (cDf26 beh sc th m fu th' m' fu' n b) [28] =
  Tree.need (Slf (some [AV.ptr (0 : Nat) (0 : Nat), AV.s (SV.int IntKind.i64 n)])) (Tree.need (Slf (some [AObj.own [AV.vec (1 : Nat), AV.mapv (2 : Nat), AV.s (SV.int IntKind.i64 fu)] (145 : Nat), AObj.vec (Con.typ cS th) (169 : Nat), AObj.map (CK.arr IntKind.u8 (64 : Nat)) m])) (Tree.need (okD th m fu) (Tree.need (Slf (some [AV.ptr (0 : Nat) (0 : Nat), AV.s (SV.int IntKind.i64 n)])) (Tree.need (Slf (some [AObj.own [AV.vec (1 : Nat), AV.mapv (2 : Nat), AV.s (SV.int IntKind.i64 fu')] (145 : Nat), AObj.vec (Con.typ cS th') (169 : Nat), AObj.map (CK.arr IntKind.u8 (64 : Nat)) m'])) (Tree.need (okD th' m' fu') (Tree.ite (!b) (Tree.ite (!decide (rdS th m n = rdS th' m' n)) (Tree.ret [AObj.own [AV.vec (2 : Nat), AV.mapv (3 : Nat), AV.s (SV.int IntKind.i64 fu)] (145 : Nat), AObj.own [AV.vec (4 : Nat), AV.mapv (5 : Nat), AV.s (SV.int IntKind.i64 fu')] (145 : Nat), AObj.vec (Con.typ cS th) (169 : Nat), AObj.map (CK.arr IntKind.u8 (64 : Nat)) m, AObj.vec (Con.typ cS th') (169 : Nat), AObj.map (CK.arr IntKind.u8 (64 : Nat)) m'] (AV.s (SV.blit false))) (Tree.need (inI64 (n + (1 : Int))) (Tree.at (Cfg.mk (sl (134 : Nat) [((0 : Nat), AV.s (SV.int IntKind.i64 sc)), ((2 : Nat), AV.s (SV.ro (Con.ints IntKind.i64 beh))), ((13 : Nat), AV.ptr (0 : Nat) (0 : Nat)), ((16 : Nat), AV.ptr (1 : Nat) (0 : Nat)), ((18 : Nat), AV.s (SV.int IntKind.i64 (n + (1 : Int))))]) [AObj.own [AV.vec (2 : Nat), AV.mapv (3 : Nat), AV.s (SV.int IntKind.i64 fu)] (145 : Nat), AObj.own [AV.vec (4 : Nat), AV.mapv (5 : Nat), AV.s (SV.int IntKind.i64 fu')] (145 : Nat), AObj.vec (Con.typ cS th) (169 : Nat), AObj.map (CK.arr IntKind.u8 (64 : Nat)) m, AObj.vec (Con.typ cS th') (169 : Nat), AObj.map (CK.arr IntKind.u8 (64 : Nat)) m'] (hd Try.f14 (19 : Nat)) (Stk.mk none false (0 : Nat) [] (0 : Nat)))))) (Tree.need (inI64 (n + (1 : Int))) (Tree.at (Cfg.mk (sl (134 : Nat) [((0 : Nat), AV.s (SV.int IntKind.i64 sc)), ((2 : Nat), AV.s (SV.ro (Con.ints IntKind.i64 beh))), ((13 : Nat), AV.ptr (0 : Nat) (0 : Nat)), ((16 : Nat), AV.ptr (1 : Nat) (0 : Nat)), ((18 : Nat), AV.s (SV.int IntKind.i64 (n + (1 : Int))))]) [AObj.own [AV.vec (2 : Nat), AV.mapv (3 : Nat), AV.s (SV.int IntKind.i64 fu)] (145 : Nat), AObj.own [AV.vec (4 : Nat), AV.mapv (5 : Nat), AV.s (SV.int IntKind.i64 fu')] (145 : Nat), AObj.vec (Con.typ cS th) (169 : Nat), AObj.map (CK.arr IntKind.u8 (64 : Nat)) m, AObj.vec (Con.typ cS th') (169 : Nat), AObj.map (CK.arr IntKind.u8 (64 : Nat)) m'] (hd Try.f14 (19 : Nat)) (Stk.mk none false (0 : Nat) [] (0 : Nat))))))))))) := by kernel_rfl
theorem take_succ_mem {l : List Int} {k : Nat} (h : k < l.length) (x : Int) : x ∈ l.take (k + 1) ↔ x ∈ l.take k ∨ l[k] = x := by
  rw [List.take_succ_eq_append_getElem h, List.mem_append, List.mem_singleton]
  exact ⟨fun h => h.imp id Eq.symm, fun h => h.imp id Eq.symm⟩
theorem df_out {Z : Glob} {X : Ctx} (hX : ∀ id, X.H id = none) (hz : ZCtx Z X) (hT : tabLw2.Ok P Z) (beh : List Int) (hb : beh.length ≤ 100) (N : Nat) (th th' : Th) (m m' : As) (fu fu' : Int) (hd : okD th m fu) (hd' : okD th' m' fu') (hN : N ≤ 4096)
    (same : ∀ n : Nat, n < N → (n : Int) ∉ beh → rdS th m (n : Int) = rdS th' m' (n : Int)) : ∀ (j n : Nat), n + j = N → Safe P 14 X (Ends [tBool] (true, ())) (cDf19 beh (N : Int) th m fu th' m' fu' (n : Int)) := by
  intro j
  induction j with
  | zero =>
    intro n hn
    exact go hz hX hT Try.func14 (loopDf19 beh (N : Int) th m fu th' m' fu' n) ⟨fun h => absurd (of_decide_eq_true h) (by omega), fun _ => ends_bl⟩
  | succ j ih =>
    intro n hn
    have next := ih (n + 1) (by omega)
    have fin : ∀ b : Bool, (b = false → (n : Int) ∉ beh) → Safe P 14 X (Ends [tBool] (true, ())) (cDf26 beh (N : Int) th m fu th' m' fu' (n : Int) b) := by
      intro b hb
      refine go hz hX hT Try.func14 (loopDf26 beh (N : Int) th m fu th' m' fu' n b) ?_
      have hsame := fun h => same n (by omega) (hb h)
      repeat' (with_reducible (first | refine h_eq ?_ | refine h_need ?_ ?_ | refine h_dec (fun _ => ?_) (fun _ => ?_) | refine h_beq (fun _ => ?_) (fun _ => ?_) | refine h_bne (fun _ => ?_) (fun _ => ?_) | refine h_tt ?_ | refine h_ff ?_ | refine h_not ?_ | refine h_ite (fun _ => ?_) (fun _ => ?_) | refine h_both (fun _ => ?_) (fun _ => ?_) | refine h_ret ?_ | refine h_at ?_))
      all_goals first | assumption | exact next | omega | exact ⟨by omega, by omega⟩ | exact absurd (hsame (by assumption)) (by assumption)
    have inner : ∀ (i k : Nat) (b : Bool), k + i = beh.length → (b = false → (n : Int) ∉ beh.take k) → Safe P 14 X (Ends [tBool] (true, ())) (cDf23 beh (N : Int) th m fu th' m' fu' (n : Int) b (k : Int)) := by
      intro i
      induction i with
      | zero =>
        intro k b hk hbk
        refine go hz hX hT Try.func14 (loopDf23 beh (N : Int) th m fu th' m' fu' n b k) ⟨fun h => absurd (of_decide_eq_true h) (by omega), fun _ => ?_⟩
        refine fin b fun h => ?_
        have := hbk h
        rwa [List.take_of_length_le (by omega)] at this
      | succ i ihi =>
        intro k b hk hbk
        have hlt : k < beh.length := by omega
        refine go hz hX hT Try.func14 (loopDf23 beh (N : Int) th m fu th' m' fu' n b k) ⟨fun _ => ⟨fun hb1 => ⟨⟨by omega, by omega⟩, ihi (k + 1) true (by omega) (fun h => by cases h)⟩, fun hb0 => ⟨by omega, by omega, ⟨by omega, by omega⟩, ?_⟩⟩, fun h => absurd (of_decide_eq_false h) (by omega)⟩
        rw [Int.toNat_natCast]
        refine ihi (k + 1) _ (by omega) fun h hm => ?_
        rcases (take_succ_mem hlt _).1 hm with h1 | h1
        · exact hbk hb0 h1
        · rw [getD_lt hlt, h1] at h
          simp at h
    refine go hz hX hT Try.func14 (loopDf19 beh (N : Int) th m fu th' m' fu' n) ⟨fun _ => ?_, fun h => absurd (of_decide_eq_false h) (by omega)⟩
    exact inner beh.length 0 false (by omega) (fun _ => by simp)
theorem df_write {Z : Glob} {X : Ctx} (hX : ∀ id, X.H id = none) (hz : ZCtx Z X) (hT : tabLw2.Ok P Z) (beh : List Int) (hb : beh.length ≤ 100) (keep : List Bool) (torn cut : Int) (T : Th) (fu' : Int) (hd' : okD T [] fu') :
    ∀ (j k : Nat) (m : As) (fu : Int), k + j = beh.length → okD T m fu → (∀ p ∈ m, p.1 ∈ beh) → Safe P 14 X (Ends [tBool] (true, ())) (cDf14 beh keep torn cut (T.length : Int) T m fu T [] fu' (k : Int)) := by
  intro j
  induction j with
  | zero =>
    intro k m fu hk hd hin
    refine go hz hX hT Try.func14 (loopDf14 beh keep torn cut (T.length : Int) T m fu T [] fu' k) ⟨fun h => absurd (of_decide_eq_true h) (by omega), fun _ => ?_⟩
    have z0 : 0 ≤ (IntKind.u64.wrap cut).tmod 65 := Int.tmod_nonneg _ (u64_mod cut)
    have z1 : (IntKind.u64.wrap cut).tmod 65 < 65 := Int.tmod_lt_of_pos _ (by omega)
    generalize (IntKind.u64.wrap cut).tmod 65 = c at *
    have hcc : okC c = true := okC_iff.2 ⟨z0, by omega⟩
    have fin := df_out hX hz hT beh hb T.length (crH T m keep torn c) T (crM m c) [] (crF fu c) fu' (ok_cr hd) hd' hd.t.1 (fun n hn hno => by
      rw [rd_crH hd hcc hn, if_neg]
      · unfold rdS
        rw [if_pos (inTh_iff.2 ⟨by omega, by omega⟩)]
        rfl
      · intro hm
        obtain ⟨p, hp, e⟩ := asK_mem hm
        exact hno (e ▸ hin p hp)) T.length 0 (by omega)
    repeat' (with_reducible (first | refine h_eq ?_ | refine h_need ?_ ?_ | refine h_dec (fun _ => ?_) (fun _ => ?_) | refine h_beq (fun _ => ?_) (fun _ => ?_) | refine h_bne (fun _ => ?_) (fun _ => ?_) | refine h_tt ?_ | refine h_ff ?_ | refine h_not ?_ | refine h_ite (fun _ => ?_) (fun _ => ?_) | refine h_both (fun _ => ?_) (fun _ => ?_) | refine h_ret ?_ | refine h_at ?_))
    all_goals first | trivial | assumption | omega | exact ⟨by omega, by omega⟩ | exact fin
  | succ j ih =>
    intro k m fu hk hd hin
    have hlt : k < beh.length := by omega
    refine go hz hX hT Try.func14 (loopDf14 beh keep torn cut (T.length : Int) T m fu T [] fu' k) ⟨fun _ => ⟨by omega, by omega, ?_⟩, fun h => absurd (of_decide_eq_false h) (by omega)⟩
    have next := fun s => ih (k + 1) _ _ (by omega) (ok_wr (n := beh.getD (k : Int).toNat 0) (s := s) hd) (fun p hp => by
      unfold wrM at hp
      split at hp
      · rcases mput_key p hp with hp | rfl
        · exact hin p hp
        · show beh.getD (k : Int).toNat 0 ∈ beh
          rw [Int.toNat_natCast, getD_lt hlt]
          exact List.getElem_mem hlt
      · exact hin p hp)
    repeat' (with_reducible (first | refine h_eq ?_ | refine h_need ?_ ?_ | refine h_dec (fun _ => ?_) (fun _ => ?_) | refine h_beq (fun _ => ?_) (fun _ => ?_) | refine h_bne (fun _ => ?_) (fun _ => ?_) | refine h_tt ?_ | refine h_ff ?_ | refine h_not ?_ | refine h_ite (fun _ => ?_) (fun _ => ?_) | refine h_both (fun _ => ?_) (fun _ => ?_) | refine h_ret ?_ | refine h_at ?_))
    all_goals first | trivial | assumption | omega | exact ⟨by omega, by omega⟩ | exact next _
theorem df_flush {Z : Glob} {X : Ctx} (hX : ∀ id, X.H id = none) (hz : ZCtx Z X) (hT : tabLw2.Ok P Z) (beh : List Int) (hb : beh.length ≤ 100) (keep : List Bool) (torn cut : Int) (th : Th) (m : As) (fu : Int) (hd : okD th m fu) : Safe P 14 X (Ends [tBool] (true, ())) (cDf10 beh keep torn cut (th.length : Int) th m fu) := by
  refine go hz hX hT Try.func14 (loopDf10 beh keep torn cut (th.length : Int) th m fu) ?_
  have hd' := ok_fl hd
  by_cases h : fu = 0
  · subst h
    repeat' (with_reducible (first | refine h_eq ?_ | refine h_need ?_ ?_ | refine h_dec (fun _ => ?_) (fun _ => ?_) | refine h_beq (fun _ => ?_) (fun _ => ?_) | refine h_bne (fun _ => ?_) (fun _ => ?_) | refine h_tt ?_ | refine h_ff ?_ | refine h_not ?_ | refine h_ite (fun _ => ?_) (fun _ => ?_) | refine h_both (fun _ => ?_) (fun _ => ?_) | refine h_ret ?_ | refine h_at ?_))
    all_goals first | trivial | assumption | (exfalso; simp_all [flE]; done) | exact ends_b
  · have e1 : flE fu = 0 := by simp [flE, h]
    have e2 : flM m fu = [] := by simp [flM, h]
    have e3 : (flT th m fu).length = th.length := by unfold flT; rw [if_neg h]; exact ovl_len _ _
    rw [e2] at hd' ⊢
    rw [e1, ← e3]
    have := df_write hX hz hT beh hb keep torn cut (flT th m fu) (burnF fu) hd' beh.length 0 [] (burnF fu) (by omega) hd' (fun p hp => by cases hp)
    repeat' (with_reducible (first | refine h_eq ?_ | refine h_need ?_ ?_ | refine h_dec (fun _ => ?_) (fun _ => ?_) | refine h_beq (fun _ => ?_) (fun _ => ?_) | refine h_bne (fun _ => ?_) (fun _ => ?_) | refine h_tt ?_ | refine h_ff ?_ | refine h_not ?_ | refine h_ite (fun _ => ?_) (fun _ => ?_) | refine h_both (fun _ => ?_) (fun _ => ?_) | refine h_ret ?_ | refine h_at ?_))
    all_goals first | trivial | assumption | exact this | exact absurd rfl (by assumption)
theorem diskFlushed_ok {Z : Glob} : FnOk P Z 14 [tInt, tSteps, tInts, tBools, tInt, tInt] [tBool] (preWf _) (fun _ => (true, ())) := by
  refine fnOk_of_safe Try.func14 (by kernel_rfl) (by kernel_rfl) ?_
  rintro ⟨(sc : Int), (l : List (CL cSt)), (beh : List Int), (keep : List Bool), (torn : Int), (cut : Int), ⟨⟩⟩ ⟨_, (hl : l.length ≤ maxLen), _⟩ ⟨⟨hsec, hwl, _⟩, _⟩ X hX hz
  have hN := okSt_wf hwl
  show Safe P 14 X (Ends [tBool] (true, ())) _
  have hl2 : l.length ≤ 9223372036854775807 := by unfold maxLen at hl; omega
  have hT : tabLw2.Ok P Z := tabLw2_ok
  have loop : beh.length ≤ 100 → ∀ (j k : Nat) (th : Th) (m : As) (fu : Int), k + j = l.length → okD th m fu → (th.length : Int) = sc → Safe P 14 X (Ends [tBool] (true, ())) (cDf7 l beh keep torn cut sc th m fu (k : Int)) := by
    intro hb j
    induction j with
    | zero =>
      intro k th m fu hk hd hsc
      refine go hz hX hT Try.func14 (loopDf7 l beh keep torn cut sc th m fu k) ⟨fun h => absurd (of_decide_eq_true h) (by omega), fun _ => ?_⟩
      rw [← hsc]
      exact df_flush hX hz hT beh hb keep torn cut th m fu hd
    | succ j ih =>
      intro k th m fu hk hd hsc
      have hlt : k < l.length := by omega
      refine go hz hX hT Try.func14 (loopDf7 l beh keep torn cut sc th m fu k) ?_
      have hx := hN _ (List.getElem_mem hlt)
      rw [← el_lt hlt] at hx
      generalize el l (k : Int) = x at *
      have hd' := ok_st (k := stK x) (n := stN x) (c := stC x) (s := stS x) (ks := stB x) hd hx.n.2
      have next := ih (k + 1) _ _ _ (by omega) hd' (by rw [stT_len]; exact hsc)
      repeat' (with_reducible (first | refine h_eq ?_ | refine h_need ?_ ?_ | refine h_dec (fun _ => ?_) (fun _ => ?_) | refine h_beq (fun _ => ?_) (fun _ => ?_) | refine h_bne (fun _ => ?_) (fun _ => ?_) | refine h_tt ?_ | refine h_ff ?_ | refine h_not ?_ | refine h_ite (fun _ => ?_) (fun _ => ?_) | refine h_both (fun _ => ?_) (fun _ => ?_) | refine h_ret ?_ | refine h_at ?_))
      all_goals first | omega | exact ⟨by omega, by omega⟩ | assumption | exact next
  refine go hz hX hT Try.func14 (treeDf sc l beh keep torn cut) ?_
  repeat' (with_reducible (first | refine h_eq ?_ | refine h_need ?_ ?_ | refine h_dec (fun _ => ?_) (fun _ => ?_) | refine h_beq (fun _ => ?_) (fun _ => ?_) | refine h_bne (fun _ => ?_) (fun _ => ?_) | refine h_tt ?_ | refine h_ff ?_ | refine h_not ?_ | refine h_ite (fun _ => ?_) (fun _ => ?_) | refine h_both (fun _ => ?_) (fun _ => ?_) | refine h_ret ?_ | refine h_at ?_))
  all_goals first | omega | exact ends_b | exact ends_bl | skip
  exact loop (by omega) l.length 0 (List.replicate sc.toNat (CL.d cS)) [] (-1) (by omega) (ok_new (by omega)) (by simp; omega)
end Ds
