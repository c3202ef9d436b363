/- Lemmas: D10, D11, D12. -/
import Derived.Test.YtjmdfmafnenjnaaPD

namespace Ds
open Go Go.Sx Go.Proofs Lf
abbrev stK (x : CL cSt) : Int := x.1
abbrev stN (x : CL cSt) : Int := x.2.1
abbrev stS (x : CL cSt) : ByteArray := x.2.2.1
abbrev stB (x : CL cSt) : List Bool := x.2.2.2.1
abbrev stC (x : CL cSt) : Int := x.2.2.2.2.1
def mLg : List AV → RM (List (CL cSt) × List Nat)
  | [.s (.ro (.typ [.int .u8, .int .i64, .str, .bools, .int .i64] l))] => .ret (l, [])
  | _ => .fail "no steps"
abbrev sumLg := sumS sLg mLg
abbrev sumWk := sumOf [] [tBool] (fun _ => []) (fun _ => (true, ()))
def tabLw : Tab := [(56, sumWk), (57, sumLg), (58, sumRd), (59, sumDo), (60, sumWh), (69, sumFu), (64, sumDe), (62, sumCo),
  (61, sumAs), (63, sumCr), (65, sumFl), (66, sumWr), (67, sumOfF)]
abbrev avSteps (l : List (CL cSt)) : AV := .s (.ro (.typ cSt l))
abbrev avI (n : Int) : AV := .s (.int .i64 n)
/-! DiskReads -/
def nsDr : List (Nat × Norm) := [(7, ⟨[], [1, 2, 7, 9], 0, []⟩)]
noncomputable def cDr (l : List (CL cSt)) (n : Int) (th : Th) (m : As) (fu i : Int) : Cfg := ⟨sl 101 [(1, avSteps l), (2, avI n), (7, .ptr 0 0), (9, avI i)], hD th m fu, hd Try.f12 7, {}⟩
theorem treeDr (sec : Int) (l : List (CL cSt)) (n : Int) : run P tabLw.sum Try.f12 nsDr (start Try.f12 [avI sec, avSteps l, avI n] []) [28] =
  Tree.ite false (Tree.ret [] (AV.s (SV.bool true))) (Tree.need (@Slf (Option (List AV)) (some [AV.s (SV.ro (Con.typ cSt l))])) (Tree.need NoObj (Tree.need (l.length ≤ (9223372036854775807 : Nat)) (Tree.both True (l.length - (300 : Nat) = (0 : Nat)) (Tree.ret [] (AV.s (SV.bool true))) (Tree.ite (decide (sec > (60 : Int))) (Tree.ret [] (AV.s (SV.bool true))) (Tree.ite (decide (sec < (1 : Int))) (Tree.ret [] (AV.s (SV.blit true))) (Tree.ite (decide (sec > (4096 : Int))) (Tree.ret [] (AV.s (SV.blit true))) (Tree.need ((0 : Int) ≤ sec) (Tree.need (sec ≤ sec) (Tree.need (sec ≤ (1073741824 : Int)) (Tree.at (Cfg.mk (sl (101 : Nat) [((1 : Nat), AV.s (SV.ro (Con.typ cSt l))), ((2 : Nat), AV.s (SV.int IntKind.i64 n)), ((7 : Nat), AV.ptr (0 : Nat) (0 : Nat)), ((9 : Nat), AV.s (SV.int IntKind.i64 (0 : Int)))]) [AObj.own [AV.vec (1 : Nat), AV.mapv (2 : Nat), AV.s (SV.int IntKind.i64 (-1 : Int))] (145 : Nat), AObj.vec (Con.typ [CK.arr IntKind.u8 (64 : Nat)] (List.replicate sec.toNat (CL.d [CK.arr IntKind.u8 (64 : Nat)]))) (169 : Nat), AObj.map (CK.arr IntKind.u8 (64 : Nat)) []] (hd Try.f12 (7 : Nat)) (Stk.mk none false (0 : Nat) [] (0 : Nat)))))))))))))) := by kernel_rfl
theorem loopDr (l : List (CL cSt)) (n : Int) (th : Th) (m : As) (fu i : Int) : run P tabLw.sum Try.f12 nsDr (cDr l n th m fu i) [28] =
  Tree.ite (decide (i < (↑l.length : Int)))
  (Tree.need ((0 : Int) ≤ i)
    (Tree.need (i < (↑l.length : Int))
      (Tree.ite (decide (stK (el l i) > (2 : Int))) (Tree.need (inI64 (i + (1 : Int))) (Tree.at (Cfg.mk (sl (101 : Nat) [((1 : Nat), AV.s (SV.ro (Con.typ cSt l))), ((2 : Nat), AV.s (SV.int IntKind.i64 n)), ((7 : Nat), AV.ptr (0 : Nat) (0 : Nat)), ((9 : Nat), AV.s (SV.int IntKind.i64 (i + (1 : Int))))]) [AObj.own [AV.vec (1 : Nat), AV.mapv (2 : Nat), AV.s (SV.int IntKind.i64 fu)] (145 : Nat), AObj.vec (Con.typ [CK.arr IntKind.u8 (64 : Nat)] th) (169 : Nat), AObj.map (CK.arr IntKind.u8 (64 : Nat)) m] (hd Try.f12 (7 : Nat)) (Stk.mk none false (0 : Nat) [] (0 : Nat)))))
        (Tree.need (@Slf (Option (List AV)) (some [AV.ptr (0 : Nat) (0 : Nat), AV.s (SV.int IntKind.i64 n)]))
          (Tree.need (@Slf (Option (List AObj)) (some [AObj.own [AV.vec (1 : Nat), AV.mapv (2 : Nat), AV.s (SV.int IntKind.i64 fu)] (145 : Nat), AObj.vec (Con.typ [CK.arr IntKind.u8 (64 : Nat)] th) (169 : Nat), AObj.map (CK.arr IntKind.u8 (64 : Nat)) m]))
            (Tree.need (okD th m fu)
              (Tree.need ((0 : Int) ≤ i)
                (Tree.need (i < (↑l.length : Int))
                  (Tree.need (@Slf (Option (List AV)) (some [AV.agg [AV.s (SV.int IntKind.u8 (stK (el l i))), AV.s (SV.int IntKind.i64 (stN (el l i))), AV.s (SV.str (stS (el l i))), AV.s (SV.ro (Con.bools (stB (el l i)))), AV.s (SV.int IntKind.i64 (stC (el l i)))], AV.ptr (0 : Nat) (0 : Nat)]))
                    (Tree.need (@Slf (Option (List AObj)) (some [AObj.own [AV.vec (1 : Nat), AV.mapv (2 : Nat), AV.s (SV.int IntKind.i64 fu)] (145 : Nat), AObj.vec (Con.typ [CK.arr IntKind.u8 (64 : Nat)] th) (169 : Nat), AObj.map (CK.arr IntKind.u8 (64 : Nat)) m]))
                      (Tree.need (okD th m fu)
                        (Tree.need (@Slf (Option (List AV)) (some [AV.ptr (0 : Nat) (0 : Nat), AV.s (SV.int IntKind.i64 n)]))
                          (Tree.need (@Slf (Option (List AObj)) (some [AObj.own [AV.vec (1 : Nat), AV.mapv (2 : Nat), AV.s (SV.int IntKind.i64 (stF th fu (stK (el l i)) (stN (el l i)) (stS (el l i)) (stC (el l i))))] (145 : Nat), AObj.vec (Con.typ [CK.arr IntKind.u8 (64 : Nat)] (stT th m fu (stK (el l i)) (stN (el l i)) (stB (el l i)) (stC (el l i)))) (169 : Nat), AObj.map (CK.arr IntKind.u8 (64 : Nat)) (stM th m fu (stK (el l i)) (stN (el l i)) (stS (el l i)) (stC (el l i)))]))
                            (Tree.need (okD (stT th m fu (stK (el l i)) (stN (el l i)) (stB (el l i)) (stC (el l i))) (stM th m fu (stK (el l i)) (stN (el l i)) (stS (el l i)) (stC (el l i))) (stF th fu (stK (el l i)) (stN (el l i)) (stS (el l i)) (stC (el l i))))
                              (Tree.ite (rdE th n != rdE (stT th m fu (stK (el l i)) (stN (el l i)) (stB (el l i)) (stC (el l i))) n) (Tree.ret [AObj.own [AV.vec (1 : Nat), AV.mapv (2 : Nat), AV.s (SV.int IntKind.i64 (stF th fu (stK (el l i)) (stN (el l i)) (stS (el l i)) (stC (el l i))))] (145 : Nat), AObj.vec (Con.typ [CK.arr IntKind.u8 (64 : Nat)] (stT th m fu (stK (el l i)) (stN (el l i)) (stB (el l i)) (stC (el l i)))) (169 : Nat), AObj.map (CK.arr IntKind.u8 (64 : Nat)) (stM th m fu (stK (el l i)) (stN (el l i)) (stS (el l i)) (stC (el l i)))] (AV.s (SV.blit false)))
                                (Tree.need ((0 : Int) ≤ i)
                                  (Tree.need (i < (↑l.length : Int))
                                    (Tree.ite (stK (el l i) == (0 : Int))
                                      (Tree.need ((0 : Int) ≤ i)
                                        (Tree.need (i < (↑l.length : Int))
                                          (Tree.ite (stN (el l i) == n) (Tree.ite (stE fu (stK (el l i)) (stN (el l i)) th (stS (el l i)) (stC (el l i)) == (0 : Int)) (Tree.need ((0 : Int) ≤ i) (Tree.need (i < (↑l.length : Int)) (Tree.need ((0 : Int) ≤ i) (Tree.need (i < (↑l.length : Int)) (Tree.ite (!decide (rdS (stT th m fu (stK (el l i)) (stN (el l i)) (stB (el l i)) (stC (el l i))) (stM th m fu (stK (el l i)) (stN (el l i)) (stS (el l i)) (stC (el l i))) n = whS (stS (el l i)) (stC (el l i)))) (Tree.ret [AObj.own [AV.vec (1 : Nat), AV.mapv (2 : Nat), AV.s (SV.int IntKind.i64 (stF th fu (stK (el l i)) (stN (el l i)) (stS (el l i)) (stC (el l i))))] (145 : Nat), AObj.vec (Con.typ [CK.arr IntKind.u8 (64 : Nat)] (stT th m fu (stK (el l i)) (stN (el l i)) (stB (el l i)) (stC (el l i)))) (169 : Nat), AObj.map (CK.arr IntKind.u8 (64 : Nat)) (stM th m fu (stK (el l i)) (stN (el l i)) (stS (el l i)) (stC (el l i)))] (AV.s (SV.blit false))) (Tree.need (inI64 (i + (1 : Int))) (Tree.at (Cfg.mk (sl (101 : Nat) [((1 : Nat), AV.s (SV.ro (Con.typ cSt l))), ((2 : Nat), AV.s (SV.int IntKind.i64 n)), ((7 : Nat), AV.ptr (0 : Nat) (0 : Nat)), ((9 : Nat), AV.s (SV.int IntKind.i64 (i + (1 : Int))))]) [AObj.own [AV.vec (1 : Nat), AV.mapv (2 : Nat), AV.s (SV.int IntKind.i64 (stF th fu (stK (el l i)) (stN (el l i)) (stS (el l i)) (stC (el l i))))] (145 : Nat), AObj.vec (Con.typ [CK.arr IntKind.u8 (64 : Nat)] (stT th m fu (stK (el l i)) (stN (el l i)) (stB (el l i)) (stC (el l i)))) (169 : Nat), AObj.map (CK.arr IntKind.u8 (64 : Nat)) (stM th m fu (stK (el l i)) (stN (el l i)) (stS (el l i)) (stC (el l i)))] (hd Try.f12 (7 : Nat)) (Stk.mk none false (0 : Nat) [] (0 : Nat)))))))))) (Tree.ite (!decide (rdS (stT th m fu (stK (el l i)) (stN (el l i)) (stB (el l i)) (stC (el l i))) (stM th m fu (stK (el l i)) (stN (el l i)) (stS (el l i)) (stC (el l i))) n = rdS th m n)) (Tree.ret [AObj.own [AV.vec (1 : Nat), AV.mapv (2 : Nat), AV.s (SV.int IntKind.i64 (stF th fu (stK (el l i)) (stN (el l i)) (stS (el l i)) (stC (el l i))))] (145 : Nat), AObj.vec (Con.typ [CK.arr IntKind.u8 (64 : Nat)] (stT th m fu (stK (el l i)) (stN (el l i)) (stB (el l i)) (stC (el l i)))) (169 : Nat), AObj.map (CK.arr IntKind.u8 (64 : Nat)) (stM th m fu (stK (el l i)) (stN (el l i)) (stS (el l i)) (stC (el l i)))] (AV.s (SV.blit false))) (Tree.need (inI64 (i + (1 : Int))) (Tree.at (Cfg.mk (sl (101 : Nat) [((1 : Nat), AV.s (SV.ro (Con.typ cSt l))), ((2 : Nat), AV.s (SV.int IntKind.i64 n)), ((7 : Nat), AV.ptr (0 : Nat) (0 : Nat)), ((9 : Nat), AV.s (SV.int IntKind.i64 (i + (1 : Int))))]) [AObj.own [AV.vec (1 : Nat), AV.mapv (2 : Nat), AV.s (SV.int IntKind.i64 (stF th fu (stK (el l i)) (stN (el l i)) (stS (el l i)) (stC (el l i))))] (145 : Nat), AObj.vec (Con.typ [CK.arr IntKind.u8 (64 : Nat)] (stT th m fu (stK (el l i)) (stN (el l i)) (stB (el l i)) (stC (el l i)))) (169 : Nat), AObj.map (CK.arr IntKind.u8 (64 : Nat)) (stM th m fu (stK (el l i)) (stN (el l i)) (stS (el l i)) (stC (el l i)))] (hd Try.f12 (7 : Nat)) (Stk.mk none false (0 : Nat) [] (0 : Nat)))))))
                                            (Tree.ite (!decide (rdS (stT th m fu (stK (el l i)) (stN (el l i)) (stB (el l i)) (stC (el l i))) (stM th m fu (stK (el l i)) (stN (el l i)) (stS (el l i)) (stC (el l i))) n = rdS th m n)) (Tree.ret [AObj.own [AV.vec (1 : Nat), AV.mapv (2 : Nat), AV.s (SV.int IntKind.i64 (stF th fu (stK (el l i)) (stN (el l i)) (stS (el l i)) (stC (el l i))))] (145 : Nat), AObj.vec (Con.typ [CK.arr IntKind.u8 (64 : Nat)] (stT th m fu (stK (el l i)) (stN (el l i)) (stB (el l i)) (stC (el l i)))) (169 : Nat), AObj.map (CK.arr IntKind.u8 (64 : Nat)) (stM th m fu (stK (el l i)) (stN (el l i)) (stS (el l i)) (stC (el l i)))] (AV.s (SV.blit false))) (Tree.need (inI64 (i + (1 : Int))) (Tree.at (Cfg.mk (sl (101 : Nat) [((1 : Nat), AV.s (SV.ro (Con.typ cSt l))), ((2 : Nat), AV.s (SV.int IntKind.i64 n)), ((7 : Nat), AV.ptr (0 : Nat) (0 : Nat)), ((9 : Nat), AV.s (SV.int IntKind.i64 (i + (1 : Int))))]) [AObj.own [AV.vec (1 : Nat), AV.mapv (2 : Nat), AV.s (SV.int IntKind.i64 (stF th fu (stK (el l i)) (stN (el l i)) (stS (el l i)) (stC (el l i))))] (145 : Nat), AObj.vec (Con.typ [CK.arr IntKind.u8 (64 : Nat)] (stT th m fu (stK (el l i)) (stN (el l i)) (stB (el l i)) (stC (el l i)))) (169 : Nat), AObj.map (CK.arr IntKind.u8 (64 : Nat)) (stM th m fu (stK (el l i)) (stN (el l i)) (stS (el l i)) (stC (el l i)))] (hd Try.f12 (7 : Nat)) (Stk.mk none false (0 : Nat) [] (0 : Nat)))))))))
                                      (Tree.ite (!decide (rdS (stT th m fu (stK (el l i)) (stN (el l i)) (stB (el l i)) (stC (el l i))) (stM th m fu (stK (el l i)) (stN (el l i)) (stS (el l i)) (stC (el l i))) n = rdS th m n)) (Tree.ret [AObj.own [AV.vec (1 : Nat), AV.mapv (2 : Nat), AV.s (SV.int IntKind.i64 (stF th fu (stK (el l i)) (stN (el l i)) (stS (el l i)) (stC (el l i))))] (145 : Nat), AObj.vec (Con.typ [CK.arr IntKind.u8 (64 : Nat)] (stT th m fu (stK (el l i)) (stN (el l i)) (stB (el l i)) (stC (el l i)))) (169 : Nat), AObj.map (CK.arr IntKind.u8 (64 : Nat)) (stM th m fu (stK (el l i)) (stN (el l i)) (stS (el l i)) (stC (el l i)))] (AV.s (SV.blit false))) (Tree.need (inI64 (i + (1 : Int))) (Tree.at (Cfg.mk (sl (101 : Nat) [((1 : Nat), AV.s (SV.ro (Con.typ cSt l))), ((2 : Nat), AV.s (SV.int IntKind.i64 n)), ((7 : Nat), AV.ptr (0 : Nat) (0 : Nat)), ((9 : Nat), AV.s (SV.int IntKind.i64 (i + (1 : Int))))]) [AObj.own [AV.vec (1 : Nat), AV.mapv (2 : Nat), AV.s (SV.int IntKind.i64 (stF th fu (stK (el l i)) (stN (el l i)) (stS (el l i)) (stC (el l i))))] (145 : Nat), AObj.vec (Con.typ [CK.arr IntKind.u8 (64 : Nat)] (stT th m fu (stK (el l i)) (stN (el l i)) (stB (el l i)) (stC (el l i)))) (169 : Nat), AObj.map (CK.arr IntKind.u8 (64 : Nat)) (stM th m fu (stK (el l i)) (stN (el l i)) (stS (el l i)) (stC (el l i)))] (hd Try.f12 (7 : Nat)) (Stk.mk none false (0 : Nat) [] (0 : Nat))))))))))))))))))))))))
  (Tree.ret [AObj.own [AV.vec (1 : Nat), AV.mapv (2 : Nat), AV.s (SV.int IntKind.i64 fu)] (145 : Nat), AObj.vec (Con.typ [CK.arr IntKind.u8 (64 : Nat)] th) (169 : Nat), AObj.map (CK.arr IntKind.u8 (64 : Nat)) m] (AV.s (SV.blit true))) := by kernel_rfl
theorem el_lt {cs : List CK} {l : List (CL cs)} {k : Nat} (h : k < l.length) : el l (k : Int) = l[k] := by
  show l.getD (k : Int).toNat _ = _
  rw [Int.toNat_natCast]; exact getD_lt h
/-! what a step leaves of a disk -/
theorem ok_new {n : Nat} (h : n ≤ 4096) : okD (List.replicate n (CL.d cS)) [] (-1) := by
  refine ⟨⟨by simpa using h, fun i hi => ?_⟩, ⟨by simp, fun p hp => by cases hp⟩, by omega, by omega⟩
  simp only [List.length_replicate] at hi
  rw [getD_lt (by simpa using hi), List.getElem_replicate]
  rfl
theorem mput_keys {m : As} (h : (m.map (·.1)).Nodup) {n : Int} {v : kS.V} : ((mput m n v).map (·.1)).Nodup := by
  unfold mput
  split
  · rw [map_keys_put]; exact h
  · rename_i hn
    have hn : ∀ p ∈ m, p.1 ≠ n := fun p hp e => hn (by simp only [mhas, List.any_eq_true, beq_iff_eq]; exact ⟨p, hp, e⟩)
    rw [List.map_append, List.nodup_append]
    refine ⟨h, by simp, fun a ha b hb => ?_⟩
    simp only [List.map_cons, List.map_nil, List.mem_singleton] at hb
    obtain ⟨p, hp, rfl⟩ := List.mem_map.1 ha
    rw [hb]; exact hn p hp
theorem ok_burn {fu : Int} (h : okF fu) : okF (burnF fu) := by
  unfold okF burnF imax at *
  split
  · omega
  · split <;> omega
theorem ok_wr {th : Th} {m : As} {fu n : Int} {s : ByteArray} (h : okD th m fu) : okD th (wrM th m fu n s) (wrF th fu n s) := by
  refine ⟨h.t, ?_, ?_⟩
  · unfold wrM
    split
    · rename_i he
      have hin : inTh th n = true ∧ s.size = 64 := by
        unfold wrE at he
        repeat' split at he
        all_goals first | (cases he; done) | exact ⟨by assumption, by assumption⟩
      obtain ⟨h0, h1⟩ := inTh_iff.1 hin.1
      refine ⟨mput_keys h.m.1, fun p hp => ?_⟩
      rcases mput_key p hp with hp | rfl
      · exact h.m.2 p hp
      · exact ⟨h0, h1, by show (strInts s).length = 64; rw [strInts_len]; exact hin.2⟩
    · exact h.m
  · unfold wrF
    split
    · exact ok_burn h.f
    · exact h.f
theorem ok_ovl {th : Th} {m : As} (h : okT th) (hm : okM th.length m) : okT (ovl th m) := by
  refine ⟨by rw [ovl_len]; exact h.1, fun i hi => ?_⟩
  rw [ovl_len] at hi
  rw [ovl_get hi]
  exact nowS_len (fu := 0) ⟨h, hm, by omega, by omega⟩ (inTh_iff.2 ⟨by omega, by omega⟩)
theorem ok_fl {th : Th} {m : As} {fu : Int} (h : okD th m fu) : okD (flT th m fu) (flM m fu) (burnF fu) := by
  unfold flT flM
  split
  · exact ⟨h.t, h.m, ok_burn h.f⟩
  · exact ⟨ok_ovl h.t h.m, ⟨by simp, fun p hp => by cases hp⟩, ok_burn h.f⟩
theorem ok_fu {th : Th} {m : As} {fu n : Int} (h : okD th m fu) (hn : n ≤ 9223372036854775807) : okD th m (fuF fu n) := by
  refine ⟨h.t, h.m, ?_⟩
  have := h.f
  unfold okF fuF at *
  split
  · exact this
  · split <;> omega
theorem crT_len {keep : List Bool} {torn cut : Int} {m : As} : ∀ (l : List Int) (k : Nat) (th : Th), (crT keep torn cut m l k th).length = th.length
  | [], k, th => rfl
  | n :: l, k, th => (crT_len l (k + 1) _).trans crStep_len
theorem crT_ok {keep : List Bool} {torn cut : Int} {m : As} (hc : 0 ≤ cut) (hc2 : cut ≤ 64) : ∀ (l : List Int) (k : Nat) (th : Th), okT th → (∀ x ∈ l, (nowA m x).length = 64 ∧ 0 ≤ x ∧ x < (th.length : Int)) → okT (crT keep torn cut m l k th)
  | [], k, th, h, _ => h
  | n :: l, k, th, h, hl => by
    obtain ⟨h1, h2, h3⟩ := hl n List.mem_cons_self
    refine crT_ok hc hc2 l (k + 1) _ (crStep_ok h h2 h3 hc hc2 h1) fun x hx => ?_
    rw [crStep_len]
    exact hl x (List.mem_cons_of_mem _ hx)
theorem okC_iff {cut : Int} : okC cut = true ↔ 0 ≤ cut ∧ cut ≤ 64 := by simp [okC]
theorem ok_cr {th : Th} {m : As} {fu torn cut : Int} {keep : List Bool} (h : okD th m fu) : okD (crH th m keep torn cut) (crM m cut) (crF fu cut) := by
  unfold crH crM crF
  split
  · rename_i hc
    obtain ⟨h0, h1⟩ := okC_iff.1 hc
    exact ⟨crT_ok h0 h1 _ _ _ h.t fun x hx => nowA_len h.m hx, ⟨by simp, fun p hp => by cases hp⟩, by omega, by omega⟩
  · exact h
theorem stT_len {th : Th} {m : As} {fu k n c : Int} {ks : List Bool} : (stT th m fu k n ks c).length = th.length := by
  unfold stT flT crH
  repeat' split
  all_goals first | rfl | exact ovl_len _ _ | exact crT_len _ _ _
theorem ok_st {th : Th} {m : As} {fu k n c : Int} {s : ByteArray} {ks : List Bool} (h : okD th m fu) (hn : n ≤ 9223372036854775807) : okD (stT th m fu k n ks c) (stM th m fu k n s c) (stF th fu k n s c) := by
  unfold stT stM stF
  repeat' split
  all_goals first | exact ok_wr h | exact ok_fl h | exact ok_fu h hn | exact ok_cr h
/-! what is read behind it -/
theorem bytes_strInts (s : ByteArray) : bytesStr (strInts s) = s := by
  obtain ⟨⟨l⟩⟩ := s
  simp only [bytesStr, strInts, List.map_map]
  congr 2
  refine (List.map_congr_left fun b _ => ?_).trans (List.map_id l)
  simp
theorem mget_put {m : As} (h : (m.map (·.1)).Nodup) {n x : Int} {v : kS.V} : mget (mput m n v) x = if x = n then some v else mget m x := by
  split
  · rename_i e
    subst e
    have hm : (x, v) ∈ mput m x v := by
      unfold mput
      split
      · rename_i hh
        simp only [mhas, List.any_eq_true, beq_iff_eq] at hh
        obtain ⟨p, hp, e⟩ := hh
        exact List.mem_map.2 ⟨p, hp, by rw [if_pos (by simpa using e)]⟩
      · exact List.mem_append_right _ List.mem_cons_self
    exact mget_of (mput_keys h) hm
  · rename_i e
    cases hg : mget m x with
    | none =>
      refine mget_none fun p hp ep => ?_
      rcases mput_key p hp with hp | rfl
      · have := mget_of h hp
        rw [ep, hg] at this
        cases this
      · exact e ep.symm
    | some u =>
      have hu := mget_mem hg
      refine mget_of (mput_keys h) (p := (x, u)) ?_
      unfold mput
      split
      · exact List.mem_map.2 ⟨_, hu, by rw [if_neg (by simpa using e)]⟩
      · exact List.mem_append_left _ hu
theorem nowS_put {th : Th} {m : As} (h : (m.map (·.1)).Nodup) {n x : Int} {v : List Int} : nowS th (mput m n v) x = if x = n then v else nowS th m x := by
  have e := mget_put h (n := n) (x := x) (v := v)
  unfold nowS
  by_cases hx : x = n
  · rw [if_pos hx] at e ⊢
    rw [e]
  · rw [if_neg hx] at e ⊢
    rw [e]
theorem nowS_ovl {th : Th} {m : As} {x : Int} (h : inTh th x = true) : nowS (ovl th m) [] x = nowS th m x := by
  obtain ⟨h0, h1⟩ := inTh_iff.1 h
  have : nowS (ovl th m) [] x = arrOf ((ovl th m).getD x.toNat (CL.d cS)) := rfl
  rw [this, ovl_get (by omega)]
  congr 1
  omega
theorem inTh_len {th th' : Th} (h : th'.length = th.length) (x : Int) : inTh th' x = inTh th x := by unfold inTh; rw [h]
theorem wrE_zero {th : Th} {fu n : Int} {s : ByteArray} : wrE th fu n s = 0 ↔ inTh th n = true ∧ s.size = 64 ∧ fu ≠ 0 := by
  unfold wrE
  constructor
  · intro h
    repeat' split at h
    all_goals first | (cases h; done) | exact ⟨by assumption, by assumption, by assumption⟩
  · rintro ⟨h1, h2, h3⟩
    simp [h1, h2, h3]
theorem rd_wr {th : Th} {m : As} {fu n x : Int} {s : ByteArray} (h : okD th m fu) : rdS th (wrM th m fu n s) x = if wrE th fu n s = 0 ∧ x = n then s else rdS th m x := by
  unfold wrM
  by_cases he : wrE th fu n s = 0
  · rw [if_pos he]
    obtain ⟨h1, h2, _⟩ := wrE_zero.1 he
    unfold rdS
    rw [nowS_put h.m.1]
    by_cases hx : x = n
    · subst hx
      rw [if_pos h1, if_pos rfl, if_pos ⟨he, rfl⟩, bytes_strInts]
    · simp only [if_neg hx, hx, and_false, if_false]
  · simp only [if_neg he, he, false_and, if_false]
theorem rd_fl {th : Th} {m : As} {fu x : Int} : rdS (flT th m fu) (flM m fu) x = rdS th m x := by
  unfold flT flM
  split
  · rfl
  · unfold rdS
    rw [inTh_len (ovl_len th m)]
    split
    · rename_i hh; rw [nowS_ovl hh]
    · rfl
theorem tabLw_ok {Z : Glob} : tabLw.Ok P Z := Tab.Ok.cons wk_ok.sum (Tab.Ok.cons (lg_ok.sum mLg) (Tab.Ok.cons (read_ok.sum mRd) (Tab.Ok.cons (do_ok.sum mDo) (Tab.Ok.cons wh_ok.sum (Tab.Ok.cons (fuse_ok.sum mFu) (Tab.Ok.cons (dead_ok.sum mAs) (Tab.Ok.cons (copy_ok.sum mAs)
  (Tab.Ok.cons (aside_ok.sum mAs) (Tab.Ok.cons (sumFrz_ok (crash_ok.sum mCr) 1 (.bools [])) (Tab.Ok.cons (flush_ok.sum mAs) (Tab.Ok.cons (write_ok.sum mWr) (Tab.Ok.cons of_ok.sum Tab.Ok.nil))))))))))))
abbrev preWf (ts : List Ty) : AL ts → List Prop := fun x => [AL.wf ts x]
theorem i64_wf {n : Int} (h : (Lit.int .i64 n).wf = true) : -9223372036854775808 ≤ n ∧ n ≤ 9223372036854775807 := by
  simp only [Lit.wf, Bool.and_eq_true, decide_eq_true_eq] at h
  exact h
theorem u8_wf {n : Int} (h : (Lit.int .u8 n).wf = true) : 0 ≤ n ∧ n ≤ 255 := by
  simp only [Lit.wf, Bool.and_eq_true, decide_eq_true_eq] at h
  exact h
structure okSt (x : CL cSt) : Prop where
  k : 0 ≤ stK x ∧ stK x ≤ 255
  n : -9223372036854775808 ≤ stN x ∧ stN x ≤ 9223372036854775807
theorem okSt_wf {l : List (CL cSt)} (h : ∀ y ∈ l, CL.wf cSt y) : ∀ x ∈ l, okSt x := fun x hx => ⟨u8_wf (h x hx).1, i64_wf (h x hx).2.1⟩
theorem diskReads_ok {Z : Glob} : FnOk P Z 12 [tInt, tSteps, tInt] [tBool] (preWf _) (fun _ => (true, ())) := by
  refine fnOk_of_safe Try.func12 (by kernel_rfl) (by kernel_rfl) ?_
  rintro ⟨(sec : Int), (l : List (CL cSt)), (n : Int), ⟨⟩⟩ ⟨_, (hl : l.length ≤ maxLen), _⟩ ⟨⟨hsec, hwl, _⟩, _⟩ X hX hz
  have hN := okSt_wf hwl
  show Safe P 12 X (Ends [tBool] (true, ())) _
  have hl2 : l.length ≤ 9223372036854775807 := by unfold maxLen at hl; omega
  have hT : tabLw.Ok P Z := tabLw_ok
  have loop : ∀ (j k : Nat) (th : Th) (m : As) (fu : Int), k + j = l.length → okD th m fu → Safe P 12 X (Ends [tBool] (true, ())) (cDr l n th m fu (k : Int)) := by
    intro j
    induction j with
    | zero =>
      intro k th m fu hk hd
      refine go hz hX hT Try.func12 (loopDr l n th m fu k) ?_
      repeat' (with_reducible (first | refine h_eq ?_ | refine h_need ?_ ?_ | refine h_dec (fun _ => ?_) (fun _ => ?_) | refine h_beq (fun _ => ?_) (fun _ => ?_) | refine h_bne (fun _ => ?_) (fun _ => ?_) | refine h_tt ?_ | refine h_ff ?_ | refine h_not ?_ | refine h_ite (fun _ => ?_) (fun _ => ?_) | refine h_both (fun _ => ?_) (fun _ => ?_) | refine h_ret ?_ | refine h_at ?_))
      all_goals first | omega | exact ends_bl
    | succ j ih =>
      intro k th m fu hk hd
      have hlt : k < l.length := by omega
      refine go hz hX hT Try.func12 (loopDr l n th m fu k) ?_
      have hx := hN _ (List.getElem_mem hlt)
      rw [← el_lt hlt] at hx
      generalize el l (k : Int) = x at *
      have hd' := ok_st (k := stK x) (n := stN x) (c := stC x) (s := stS x) (ks := stB x) hd hx.n.2
      have next := ih (k + 1) _ _ _ (by omega) hd'
      have next0 := ih (k + 1) _ _ _ (by omega) hd
      have hE : rdE (stT th m fu (stK x) (stN x) (stB x) (stC x)) n = rdE th n := by unfold rdE; rw [inTh_len stT_len]
      have same : ¬ stK x > 2 → ¬ (stK x = 0 ∧ stN x = n ∧ stE fu (stK x) (stN x) th (stS x) (stC x) = 0) → rdS (stT th m fu (stK x) (stN x) (stB x) (stC x)) (stM th m fu (stK x) (stN x) (stS x) (stC x)) n = rdS th m n := by
        intro h1 h2
        have h0 := hx.k.1
        unfold stT stM
        by_cases k0 : stK x = 0
        · rw [if_pos k0, if_pos k0, rd_wr hd, if_neg]
          rintro ⟨e1, e2⟩
          exact h2 ⟨k0, e2.symm, by unfold stE; rw [if_pos k0]; exact e1⟩
        · rw [if_neg k0, if_neg k0]
          by_cases k1 : stK x = 1
          · rw [if_pos k1, if_pos k1, rd_fl]
          · rw [if_neg k1, if_neg k1, if_pos (by omega), if_pos (by omega)]
      have wr : stK x = 0 → stN x = n → stE fu (stK x) (stN x) th (stS x) (stC x) = 0 → rdS (stT th m fu (stK x) (stN x) (stB x) (stC x)) (stM th m fu (stK x) (stN x) (stS x) (stC x)) n = whS (stS x) (stC x) := by
        intro k0 e1 e2
        unfold stE at e2
        rw [if_pos k0] at e2
        unfold stT stM
        rw [if_pos k0, if_pos k0, rd_wr hd, if_pos ⟨e2, e1.symm⟩]
      repeat' (with_reducible (first | refine h_eq ?_ | refine h_need ?_ ?_ | refine h_dec (fun _ => ?_) (fun _ => ?_) | refine h_beq (fun _ => ?_) (fun _ => ?_) | refine h_bne (fun _ => ?_) (fun _ => ?_) | refine h_tt ?_ | refine h_ff ?_ | refine h_not ?_ | refine h_ite (fun _ => ?_) (fun _ => ?_) | refine h_both (fun _ => ?_) (fun _ => ?_) | refine h_ret ?_ | refine h_at ?_))
      all_goals first | omega | exact ⟨by omega, by omega⟩ | assumption | exact next | exact next0 | (exfalso; simp_all; done) | skip
  refine go hz hX hT Try.func12 (treeDr sec l n) ?_
  repeat' (with_reducible (first | refine h_eq ?_ | refine h_need ?_ ?_ | refine h_dec (fun _ => ?_) (fun _ => ?_) | refine h_beq (fun _ => ?_) (fun _ => ?_) | refine h_bne (fun _ => ?_) (fun _ => ?_) | refine h_tt ?_ | refine h_ff ?_ | refine h_not ?_ | refine h_ite (fun _ => ?_) (fun _ => ?_) | refine h_both (fun _ => ?_) (fun _ => ?_) | refine h_ret ?_ | refine h_at ?_))
  all_goals first | omega | exact ends_b | exact ends_bl | skip
  have := loop l.length 0 (List.replicate sec.toNat (CL.d cS)) [] (-1) (by omega) (ok_new (by omega))
  exact this
end Ds

namespace Ds
open Go Go.Sx Go.Proofs Lf
/-! ### Same -/
abbrev arrS (x : CL cS) : List Int := x.1
abbrev fEq : FuncId := 116
def nsEq : List (Nat × Norm) := [(4, ⟨[], [0, 1, 12, 13], 2, []⟩)]
noncomputable def cEq (th th' : Th) (i : Int) : Cfg := ⟨sl 26 [(0, .vec 0), (1, .vec 1), (12, avI (th.length : Int)), (13, avI i)], [.vec (.typ cS th) eS, .vec (.typ cS th') eS], hd Try.f116 4, {}⟩
theorem treeEq (th th' : Th) : run P tab0.sum Try.f116 nsEq (start Try.f116 [.vec 0, .vec 1] [.vec (.typ cS th) eS, .vec (.typ cS th') eS]) =
  Tree.ite ((↑(List.length th) : Int) != (↑(List.length th') : Int)) (Tree.ret [AObj.vec (Con.typ cS th) (169 : Nat), AObj.vec (Con.typ cS th') (169 : Nat)] (AV.s (SV.blit false))) (Tree.at (Cfg.mk (sl (26 : Nat) [((0 : Nat), AV.vec (0 : Nat)), ((1 : Nat), AV.vec (1 : Nat)), ((12 : Nat), AV.s (SV.int IntKind.i64 (↑(List.length th) : Int))), ((13 : Nat), AV.s (SV.int IntKind.i64 (0 : Int)))]) [AObj.vec (Con.typ cS th) (169 : Nat), AObj.vec (Con.typ cS th') (169 : Nat)] (hd Try.f116 (4 : Nat)) (Stk.mk none false (0 : Nat) [] (0 : Nat)))) := by kernel_rfl
theorem loopEq (th th' : Th) (i : Int) : run P tab0.sum Try.f116 nsEq (cEq th th' i) =
  Tree.ite (decide (i < (↑(List.length th) : Int))) (Tree.need ((0 : Int) ≤ i) (Tree.need (i < (↑(List.length th) : Int)) (Tree.need ((arrS (el th i)).length = (64 : Nat)) (Tree.need ((0 : Int) ≤ i) (Tree.need (i < (↑(List.length th') : Int)) (Tree.need ((arrS (el th' i)).length = (64 : Nat)) (Tree.ite (!decide (arrS (el th i) = arrS (el th' i))) (Tree.ret [AObj.vec (Con.typ cS th) (169 : Nat), AObj.vec (Con.typ cS th') (169 : Nat)] (AV.s (SV.blit false))) (Tree.need (inI64 (i + (1 : Int))) (Tree.at (Cfg.mk (sl (26 : Nat) [((0 : Nat), AV.vec (0 : Nat)), ((1 : Nat), AV.vec (1 : Nat)), ((12 : Nat), AV.s (SV.int IntKind.i64 (↑(List.length th) : Int))), ((13 : Nat), AV.s (SV.int IntKind.i64 (i + (1 : Int))))]) [AObj.vec (Con.typ cS th) (169 : Nat), AObj.vec (Con.typ cS th') (169 : Nat)] (hd Try.f116 (4 : Nat)) (Stk.mk none false (0 : Nat) [] (0 : Nat)))))))))))) (Tree.ret [AObj.vec (Con.typ cS th) (169 : Nat), AObj.vec (Con.typ cS th') (169 : Nat)] (AV.s (SV.blit true))) := by kernel_rfl
abbrev fMe : FuncId := 117
def nsMe : List (Nat × Norm) := [(midKey + 3001, ⟨[], [0, 1, 14], 2, []⟩), (4, ⟨[], [1, 15], 2, []⟩)]
noncomputable def cMe3 (m m' : As) : Cfg := ⟨sl 34 [(0, .mapv 0), (1, .mapv 1), (14, .mapv 0)], [.map kS m, .map kS m'], cal Try.f117 3 1, ki 3⟩
noncomputable def cMe3b (m m' : As) : Cfg := ⟨sl 34 [(0, .mapv 0), (1, .mapv 1), (14, .mapv 0), (15, .ptr 3 0)], [.mapb kS m 2, .map kS m', .dead, .iter 0 2 kS m none], cal Try.f117 3 2, ki 3⟩
noncomputable def cMe4 (m m' left : As) (cur : Option (Int × kS.V)) : Cfg := ⟨sl 34 [(1, .mapv 1), (15, .ptr 2 0)], [.mapb kS m 3, .map kS m', .iter 0 3 kS left cur, .dead], hd Try.f117 4, {}⟩
noncomputable def cMe4o (m m' : As) : Cfg := ⟨sl 34 [(1, .mapv 1), (15, .ptr 2 0), (16, .tup [.s (.blit false)])], [.map kS m, .map kS m', .dead, .dead], cal Try.f117 4 1, ki 4⟩
noncomputable def cMe4e (m m' left : As) (p : Int × kS.V) : Cfg := ⟨sl 34 [(1, .mapv 1), (15, .ptr 2 0), (16, .tup [.s (.blit true), avI p.1, kS.av p.2])], [.mapb kS m 3, .map kS m', .iter 0 3 kS left (some p), .dead], cal Try.f117 4 1, ki 4⟩
theorem treeMe (m m' : As) : run P tab0.sum Try.f117 nsMe (start Try.f117 [.mapv 0, .mapv 1] [.map kS m, .map kS m']) =
  Tree.ite ((↑(List.length m) : Int) != (↑(List.length m') : Int)) (Tree.ret [AObj.map (CK.arr IntKind.u8 (64 : Nat)) m, AObj.map (CK.arr IntKind.u8 (64 : Nat)) m'] (AV.s (SV.blit false))) (Tree.at (Cfg.mk (sl (34 : Nat) [((0 : Nat), AV.mapv (0 : Nat)), ((1 : Nat), AV.mapv (1 : Nat)), ((14 : Nat), AV.mapv (0 : Nat))]) [AObj.map (CK.arr IntKind.u8 (64 : Nat)) m, AObj.map (CK.arr IntKind.u8 (64 : Nat)) m'] (cal Try.f117 (3 : Nat) (1 : Nat)) (Stk.mk none false (0 : Nat) [] (3 : Nat)))) := by kernel_rfl
theorem treeMe3b (m m' : As) : run P tab0.sum Try.f117 nsMe (cMe3b m m') =
  Tree.at (Cfg.mk (sl (34 : Nat) [((1 : Nat), AV.mapv (1 : Nat)), ((15 : Nat), AV.ptr (2 : Nat) (0 : Nat))]) [AObj.mapb (CK.arr IntKind.u8 (64 : Nat)) m (3 : Nat), AObj.map (CK.arr IntKind.u8 (64 : Nat)) m', AObj.iter (0 : Nat) (3 : Nat) (CK.arr IntKind.u8 (64 : Nat)) m none, AObj.dead] (hd Try.f117 (4 : Nat)) (Stk.mk none false (0 : Nat) [] (0 : Nat))) := by kernel_rfl
theorem treeMe4 (m m' left : As) (cur : Option (Int × kS.V)) : run P tab0.sum Try.f117 nsMe (cMe4 m m' left cur) =
  Tree.at (Cfg.mk (sl (34 : Nat) [((1 : Nat), AV.mapv (1 : Nat)), ((15 : Nat), AV.ptr (2 : Nat) (0 : Nat))]) [AObj.mapb (CK.arr IntKind.u8 (64 : Nat)) m (3 : Nat), AObj.map (CK.arr IntKind.u8 (64 : Nat)) m', AObj.iter (0 : Nat) (3 : Nat) (CK.arr IntKind.u8 (64 : Nat)) left cur, AObj.dead] (cal Try.f117 (4 : Nat) (0 : Nat)) (Stk.mk none false (0 : Nat) [] (4 : Nat))) := by kernel_rfl
theorem treeMe4o (m m' : As) : run P tab0.sum Try.f117 nsMe (cMe4o m m') =
  Tree.ret [AObj.map (CK.arr IntKind.u8 (64 : Nat)) m, AObj.map (CK.arr IntKind.u8 (64 : Nat)) m', AObj.dead, AObj.dead] (AV.s (SV.blit true)) := by kernel_rfl
theorem treeMe4e (m m' left : As) (p : Int × kS.V) : run P tab0.sum Try.f117 nsMe (cMe4e m m' left p) =
  Tree.ite (!mhas m' p.fst) (Tree.ret [AObj.mapb (CK.arr IntKind.u8 (64 : Nat)) m (3 : Nat), AObj.map (CK.arr IntKind.u8 (64 : Nat)) m', AObj.iter (0 : Nat) (3 : Nat) (CK.arr IntKind.u8 (64 : Nat)) left (some p), AObj.dead, AObj.own [AV.ints IntKind.u8 (64 : Nat) p.snd] (169 : Nat), AObj.own [AV.ints IntKind.u8 (64 : Nat) ((mget m' p.fst).getD (CK.arr IntKind.u8 (64 : Nat)).d)] (169 : Nat)] (AV.s (SV.blit false))) (Tree.ite (!decide (p.snd = (mget m' p.fst).getD (CK.arr IntKind.u8 (64 : Nat)).d)) (Tree.ret [AObj.mapb (CK.arr IntKind.u8 (64 : Nat)) m (3 : Nat), AObj.map (CK.arr IntKind.u8 (64 : Nat)) m', AObj.iter (0 : Nat) (3 : Nat) (CK.arr IntKind.u8 (64 : Nat)) left (some p), AObj.dead, AObj.own [AV.ints IntKind.u8 (64 : Nat) p.snd] (169 : Nat), AObj.own [AV.ints IntKind.u8 (64 : Nat) ((mget m' p.fst).getD (CK.arr IntKind.u8 (64 : Nat)).d)] (169 : Nat)] (AV.s (SV.blit false))) (Tree.at (Cfg.mk (sl (34 : Nat) [((1 : Nat), AV.mapv (1 : Nat)), ((15 : Nat), AV.ptr (2 : Nat) (0 : Nat))]) [AObj.mapb (CK.arr IntKind.u8 (64 : Nat)) m (3 : Nat), AObj.map (CK.arr IntKind.u8 (64 : Nat)) m', AObj.iter (0 : Nat) (3 : Nat) (CK.arr IntKind.u8 (64 : Nat)) left (some p), AObj.dead] (hd Try.f117 (4 : Nat)) (Stk.mk none false (0 : Nat) [] (0 : Nat))))) := by kernel_rfl
def thEq (a b : Th) : Bool := a.length == b.length && (List.range a.length).all fun i => decide (arrS (el a (i : Int)) = arrS (el b (i : Int)))
def mEq (m m' : As) : Bool := m.length == m'.length && m.all fun p => mhas m' p.1 && decide (p.2 = (mget m' p.1).getD kS.d)
abbrev sEq : Spec (Th × Th) := ⟨fun _ => [.vec 0, .vec 1], fun (a, b) => [.vec (.typ cS a) eS, .vec (.typ cS b) eS], fun (a, b) => [okT a, okT b], fun (a, b) => [.vec (.typ cS a) eS, .vec (.typ cS b) eS], fun (a, b) => .s (.bool (thEq a b))⟩
abbrev sMe : Spec (As × As) := ⟨fun _ => [.mapv 0, .mapv 1], fun (m, m') => [.map kS m, .map kS m'], fun _ => [], fun (m, m') => [.map kS m, .map kS m'], fun (m, m') => .s (.bool (mEq m m'))⟩
def mEqT : List AV → RM ((Th × Th) × List Nat)
  | [.vec i, .vec j] => .look i fun o => match o with
    | some (.vec (.typ [.arr .u8 64] a) _) => .look j fun o => match o with
      | some (.vec (.typ [.arr .u8 64] b) _) => .ret ((a, b), [i, j])
      | _ => .fail "no row"
    | _ => .fail "no row"
  | _ => .fail "no row"
def mEqM : List AV → RM ((As × As) × List Nat)
  | [.mapv i, .mapv j] => .look i fun o => match o with
    | some (.map (.arr .u8 64) a) => .look j fun o => match o with
      | some (.map (.arr .u8 64) b) => .ret ((a, b), [i, j])
      | _ => .fail "no map"
    | _ => .fail "no map"
  | _ => .fail "no map"
abbrev hD2 (th : Th) (m : As) (fu : Int) (th' : Th) (m' : As) (fu' : Int) : List AObj := hD th m fu ++ [obD 4 5 fu', .vec (.typ cS th') eS, .map kS m']
abbrev sSm : Spec (Th × As × Int × Th × As × Int) := ⟨fun _ => [.ptr 0 0, .ptr 3 0], fun (th, m, fu, th', m', fu') => hD2 th m fu th' m' fu', fun (th, _, _, th', _, _) => [okT th, okT th'], fun (th, m, fu, th', m', fu') => hD2 th m fu th' m' fu',
  fun (th, m, fu, th', m', fu') => .s (.bool (fu == fu' && (thEq th th' && mEq m m')))⟩
def tabSm : Tab := [(fEq, sumS sEq mEqT), (fMe, sumS sMe mEqM)]
theorem treeSm (th : Th) (m : As) (fu : Int) (th' : Th) (m' : As) (fu' : Int) : run P tabSm.sum Try.f72 [] (start Try.f72 [.ptr 0 0, .ptr 3 0] (hD2 th m fu th' m' fu')) =
  Tree.ite (fu == fu') (Tree.need (@Slf (Option (List AV)) (some [AV.vec (0 : Nat), AV.vec (1 : Nat)])) (Tree.need (@Slf (Option (List AObj)) (some [AObj.vec (Con.typ cS th) (169 : Nat), AObj.vec (Con.typ cS th') (169 : Nat)])) (Tree.need (okT th) (Tree.need (okT th') (Tree.ite (thEq th th') (Tree.need (@Slf (Option (List AV)) (some [AV.mapv (0 : Nat), AV.mapv (1 : Nat)])) (Tree.need (@Slf (Option (List AObj)) (some [AObj.map (CK.arr IntKind.u8 (64 : Nat)) m, AObj.map (CK.arr IntKind.u8 (64 : Nat)) m'])) (Tree.ret [AObj.own [AV.vec (1 : Nat), AV.mapv (2 : Nat), AV.s (SV.int IntKind.i64 fu)] (145 : Nat), AObj.vec (Con.typ cS th) (169 : Nat), AObj.map (CK.arr IntKind.u8 (64 : Nat)) m, AObj.own [AV.vec (4 : Nat), AV.mapv (5 : Nat), AV.s (SV.int IntKind.i64 fu')] (145 : Nat), AObj.vec (Con.typ cS th') (169 : Nat), AObj.map (CK.arr IntKind.u8 (64 : Nat)) m'] (AV.s (SV.bool (mEq m m')))))) (Tree.ret [AObj.own [AV.vec (1 : Nat), AV.mapv (2 : Nat), AV.s (SV.int IntKind.i64 fu)] (145 : Nat), AObj.vec (Con.typ cS th) (169 : Nat), AObj.map (CK.arr IntKind.u8 (64 : Nat)) m, AObj.own [AV.vec (4 : Nat), AV.mapv (5 : Nat), AV.s (SV.int IntKind.i64 fu')] (145 : Nat), AObj.vec (Con.typ cS th') (169 : Nat), AObj.map (CK.arr IntKind.u8 (64 : Nat)) m'] (AV.s (SV.blit false)))))))) (Tree.ret [AObj.own [AV.vec (1 : Nat), AV.mapv (2 : Nat), AV.s (SV.int IntKind.i64 fu)] (145 : Nat), AObj.vec (Con.typ cS th) (169 : Nat), AObj.map (CK.arr IntKind.u8 (64 : Nat)) m, AObj.own [AV.vec (4 : Nat), AV.mapv (5 : Nat), AV.s (SV.int IntKind.i64 fu')] (145 : Nat), AObj.vec (Con.typ cS th') (169 : Nat), AObj.map (CK.arr IntKind.u8 (64 : Nat)) m'] (AV.s (SV.blit false))) := by kernel_rfl
theorem eq_ok {Z : Glob} : FnS P Z fEq sEq := by
  refine fnS_of_safe Try.func116 (by kernel_rfl) (fun x => Nat.le_of_ble_eq_true (by kernel_rfl)) ?_
  rintro ⟨(a : Th), (b : Th)⟩ ⟨(ha : okT a), (hb : okT b), _⟩ X hX hz
  have hns : ∀ x ∈ nsEq, (sEq.heap (a, b)).length ≤ x.2.m := by intro y hy; simp [nsEq] at hy; rcases hy with rfl; exact Nat.le_refl _
  have la := ha.1
  have loop : a.length = b.length → ∀ (j k : Nat), k + j = a.length → (∀ i, i < k → arrS (el a (i : Int)) = arrS (el b (i : Int))) → Safe P fEq X (EndS sEq (a, b)) (cEq a b (k : Int)) := by
    intro hl j
    induction j with
    | zero =>
      intro k hk hi
      refine goS hz hX hns Tab.Ok.nil Try.func116 (loopEq a b k) ?_
      have e : thEq a b = true := by
        simp only [thEq, Bool.and_eq_true, beq_iff_eq, List.all_eq_true, List.mem_range, decide_eq_true_eq]
        exact ⟨hl, fun i h => hi i (by omega)⟩
      repeat' (with_reducible (first | refine h_eq ?_ | refine h_need ?_ ?_ | refine h_dec (fun _ => ?_) (fun _ => ?_) | refine h_beq (fun _ => ?_) (fun _ => ?_) | refine h_bne (fun _ => ?_) (fun _ => ?_) | refine h_tt ?_ | refine h_ff ?_ | refine h_not ?_ | refine h_ite (fun _ => ?_) (fun _ => ?_) | refine h_both (fun _ => ?_) (fun _ => ?_) | refine h_ret ?_ | refine h_at ?_))
      all_goals first | omega | skip
      refine endS 2 rfl (Nat.le_refl _) ?_ rfl
      simp [e, rnS]
    | succ j ih =>
      intro k hk hi
      refine goS hz hX hns Tab.Ok.nil Try.func116 (loopEq a b k) ?_
      have e1 : (arrS (el a (k : Int))).length = 64 := by
        have := ha.2 k (by omega)
        show List.length (α := Int) (a.getD (k : Int).toNat _).1 = 64
        rw [Int.toNat_natCast]; exact this
      have e2 : (arrS (el b (k : Int))).length = 64 := by
        have := hb.2 k (by omega)
        show List.length (α := Int) (b.getD (k : Int).toNat _).1 = 64
        rw [Int.toNat_natCast]; exact this
      repeat' (with_reducible (first | refine h_eq ?_ | refine h_need ?_ ?_ | refine h_dec (fun _ => ?_) (fun _ => ?_) | refine h_beq (fun _ => ?_) (fun _ => ?_) | refine h_bne (fun _ => ?_) (fun _ => ?_) | refine h_tt ?_ | refine h_ff ?_ | refine h_not ?_ | refine h_ite (fun _ => ?_) (fun _ => ?_) | refine h_both (fun _ => ?_) (fun _ => ?_) | refine h_ret ?_ | refine h_at ?_))
      all_goals first | omega | exact e1 | exact e2 | exact ⟨by omega, by omega⟩ | skip
      · refine ih (k + 1) (by omega) fun i h => ?_
        by_cases hik : i = k
        · subst hik; assumption
        · exact hi i (by omega)
      · rename_i hne
        have e : thEq a b = false := by
          rw [← Bool.not_eq_true]
          simp only [thEq, Bool.and_eq_true, beq_iff_eq, List.all_eq_true, List.mem_range, decide_eq_true_eq]
          exact fun h => hne (h.2 k (by omega))
        refine endS 2 rfl (Nat.le_refl _) ?_ rfl
        simp [e, rnS]
  refine goS hz hX hns Tab.Ok.nil Try.func116 (treeEq a b) ?_
  repeat' (with_reducible (first | refine h_eq ?_ | refine h_need ?_ ?_ | refine h_dec (fun _ => ?_) (fun _ => ?_) | refine h_beq (fun _ => ?_) (fun _ => ?_) | refine h_bne (fun _ => ?_) (fun _ => ?_) | refine h_tt ?_ | refine h_ff ?_ | refine h_not ?_ | refine h_ite (fun _ => ?_) (fun _ => ?_) | refine h_both (fun _ => ?_) (fun _ => ?_) | refine h_ret ?_ | refine h_at ?_))
  · have hne : a.length ≠ b.length := by omega
    have e : thEq a b = false := by simp [thEq, hne]
    refine endS 2 rfl (Nat.le_refl _) ?_ rfl
    simp [e, rnS]
  · exact loop (by omega) a.length 0 (by omega) fun i h => absurd h (Nat.not_lt_zero _)
theorem me_ok {Z : Glob} : FnS P Z fMe sMe := by
  refine fnS_of_safe Try.func117 (by kernel_rfl) (fun x => Nat.le_of_ble_eq_true (by kernel_rfl)) ?_
  rintro ⟨(m : As), (m' : As)⟩ _ X hX hz
  have hns : ∀ x ∈ nsMe, (sMe.heap (m, m')).length ≤ x.2.m := by intro y hy; simp [nsMe] at hy; rcases hy with rfl | rfl <;> exact Nat.le_refl _
  let g : Int × kS.V → Bool := fun p => mhas m' p.1 && decide (p.2 = (mget m' p.1).getD kS.d)
  have bad : ∀ p ∈ m, g p = false → mEq m m' = false := fun p hp hg => by
    rw [← Bool.not_eq_true]
    simp only [mEq, Bool.and_eq_true, List.all_eq_true]
    intro h
    have := h.2 p hp
    have h2 : g p = true := by simp only [g, Bool.and_eq_true]; exact this
    rw [hg] at h2; cases h2
  have loop : m.length = m'.length → ∀ (k : Nat) (left : As) (cur : Option (Int × kS.V)), left.length = k → (∀ p ∈ left, p ∈ m) → (left.all g = true → m.all g = true) →
      Safe P fMe X (EndS sMe (m, m')) (cMe4 m m' left cur) := by
    intro hlen k
    induction k with
    | zero =>
      intro left cur hl hin hal
      obtain rfl := List.eq_nil_of_length_eq_zero hl
      refine goS hz hX hns Tab.Ok.nil Try.func117 (treeMe4 m m' [] cur) ?_
      refine next_safe (x := 15) (d := 16) (by kernel_rfl) (by kernel_rfl) (id := 2) (mid := 0) (gid := 3) (ck := kS) (ck' := kS) rfl rfl rfl rfl (fun _ => ?_) (fun j hj => absurd hj (Nat.not_lt_zero _))
      refine goS hz hX hns Tab.Ok.nil Try.func117 (treeMe4o m m') ?_
      have e : mEq m m' = true := by
        have := hal rfl
        simp only [mEq, Bool.and_eq_true, beq_iff_eq]
        exact ⟨hlen, this⟩
      refine endS 2 rfl (Nat.le_refl _) ?_ rfl
      simp [e, rnS]
    | succ k ih =>
      intro left cur hl hin hal
      refine goS hz hX hns Tab.Ok.nil Try.func117 (treeMe4 m m' left cur) ?_
      refine next_safe (x := 15) (d := 16) (by kernel_rfl) (by kernel_rfl) (id := 2) (mid := 0) (gid := 3) (ck := kS) (ck' := kS) rfl rfl rfl rfl (fun h0 => ?_) (fun j hj => ?_)
      · subst h0; simp at hl
      · have hgj : left.getD j (0, kS.d) = left[j] := getD_lt hj
        refine goS hz hX hns Tab.Ok.nil Try.func117 (treeMe4e m m' (left.eraseIdx j) (left.getD j (0, kS.d))) ?_
        rw [hgj]
        have hjm := hin _ (List.getElem_mem hj)
        have hg : left.all g = (g left[j] && (left.eraseIdx j).all g) := ((erase_perm hj).all_eq (f := g)).symm
        have next := fun h : g left[j] = true => ih (left.eraseIdx j) (some left[j]) (by rw [List.length_eraseIdx, if_pos hj]; omega) (fun p hp => hin p (List.mem_of_mem_eraseIdx hp)) (fun h2 => hal (by rw [hg, h, h2]; rfl))
        have fin : g left[j] = false → sMe.out (m, m') = .s (.bool false) := fun h => by show AV.s (.bool (mEq m m')) = _; rw [bad _ hjm h]
        repeat' (with_reducible (first | refine h_eq ?_ | refine h_need ?_ ?_ | refine h_dec (fun _ => ?_) (fun _ => ?_) | refine h_beq (fun _ => ?_) (fun _ => ?_) | refine h_bne (fun _ => ?_) (fun _ => ?_) | refine h_tt ?_ | refine h_ff ?_ | refine h_not ?_ | refine h_ite (fun _ => ?_) (fun _ => ?_) | refine h_both (fun _ => ?_) (fun _ => ?_) | refine h_ret ?_ | refine h_at ?_))
        · rename_i h1 h2
          refine next ?_
          simp only [g]; rw [decide_eq_true h2, h1]; rfl
        · rename_i h1 h2
          refine endS 2 rfl (Nat.le_refl _) (fin ?_) rfl
          simp only [g]; rw [decide_eq_false h2, Bool.and_false]
        · rename_i h
          refine endS 2 rfl (Nat.le_refl _) (fin ?_) rfl
          simp only [g]; rw [h]; rfl
  refine goS hz hX hns Tab.Ok.nil Try.func117 (treeMe m m') ?_
  repeat' (with_reducible (first | refine h_eq ?_ | refine h_need ?_ ?_ | refine h_dec (fun _ => ?_) (fun _ => ?_) | refine h_beq (fun _ => ?_) (fun _ => ?_) | refine h_bne (fun _ => ?_) (fun _ => ?_) | refine h_tt ?_ | refine h_ff ?_ | refine h_not ?_ | refine h_ite (fun _ => ?_) (fun _ => ?_) | refine h_both (fun _ => ?_) (fun _ => ?_) | refine h_ret ?_ | refine h_at ?_))
  · have hne : m.length ≠ m'.length := by omega
    have e : mEq m m' = false := by simp [mEq, hne]
    refine endS 2 rfl (Nat.le_refl _) ?_ rfl
    simp [e, rnS]
  · refine range_safe (t := 143) (x := 14) (d := 15) (by kernel_rfl) (by kernel_rfl) (by kernel_rfl) (id := 0) (ck := kS) rfl rfl ?_
    refine goS hz hX hns Tab.Ok.nil Try.func117 (treeMe3b m m') ?_
    exact loop (by omega) m.length m none rfl (fun p hp => hp) (fun h => h)
theorem tabSm_ok {Z : Glob} : tabSm.Ok P Z := Tab.Ok.cons (eq_ok.sum mEqT) (Tab.Ok.cons (me_ok.sum mEqM) Tab.Ok.nil)
theorem same_ok {Z : Glob} : FnS P Z 72 sSm := by
  refine fnS_of_safe Try.func72 (by kernel_rfl) (fun x => Nat.le_of_ble_eq_true (by kernel_rfl)) ?_
  rintro ⟨(th : Th), (m : As), (fu : Int), (th' : Th), (m' : As), (fu' : Int)⟩ ⟨(h1 : okT th), (h2 : okT th'), _⟩ X hX hz
  refine goS hz hX (by simp) tabSm_ok Try.func72 (treeSm th m fu th' m' fu') ?_
  repeat' (with_reducible (first | refine h_eq ?_ | refine h_need ?_ ?_ | refine h_dec (fun _ => ?_) (fun _ => ?_) | refine h_beq (fun _ => ?_) (fun _ => ?_) | refine h_bne (fun _ => ?_) (fun _ => ?_) | refine h_tt ?_ | refine h_ff ?_ | refine h_not ?_ | refine h_ite (fun _ => ?_) (fun _ => ?_) | refine h_both (fun _ => ?_) (fun _ => ?_) | refine h_ret ?_ | refine h_at ?_))
  all_goals first | assumption | omega | (exact ⟨by omega, by omega⟩) | skip
  all_goals refine endS 6 rfl (Nat.le_refl _) ?_ rfl <;> simp [rnS, *]
end Ds

namespace Ds
open Go Go.Sx Go.Proofs Lf
def mSm : List AV → RM ((Th × As × Int × Th × As × Int) × List Nat)
  | [a, b] => (mAs [a]).bind fun ((th, m, fu), σ) => (mAs [b]).bind fun ((th', m', fu'), σ') => .ret ((th, m, fu, th', m', fu'), σ ++ σ')
  | _ => .fail "no disks"
abbrev sumSm := sumS sSm mSm
def tabLw2 : Tab := (72, sumSm) :: tabLw
abbrev hDD (th : Th) (m : As) (fu : Int) (th' : Th) (m' : As) (fu' : Int) : List AObj := [obD 2 3 fu, obD 4 5 fu', .vec (.typ cS th) eS, .map kS m, .vec (.typ cS th') eS, .map kS m']
/-! DiskDead -/
def nsDd : List (Nat × Norm) := [(7, ⟨[], [1, 2, 7], 0, []⟩), (9, ⟨[], [1, 2, 7, 9], 0, []⟩), (14, ⟨[], [1, 2, 7, 9, 10, 11], 0, []⟩)]
noncomputable def cDd7 (l : List (CL cSt)) (z : Int) (th : Th) (m : As) (fu : Int) : Cfg := ⟨sl 103 [(1, avSteps l), (2, avI z), (7, .ptr 0 0)], hD th m fu, hr Try.f16 7, {}⟩
noncomputable def cDd (l : List (CL cSt)) (z : Int) (th : Th) (m : As) (fu i : Int) : Cfg := ⟨sl 103 [(1, avSteps l), (2, avI z), (7, .ptr 0 0), (9, avI i)], hD th m fu, hd Try.f16 9, {}⟩
noncomputable def cDd14 (l : List (CL cSt)) (z : Int) (th : Th) (m : As) (fu i e : Int) (th' : Th) (m' : As) (fu' : Int) : Cfg := ⟨sl 103 [(1, avSteps l), (2, avI z), (7, .ptr 0 0), (9, avI i), (10, .ptr 1 0), (11, avI e)], hDD th' m' fu' th m fu, hr Try.f16 14, {}⟩
theorem treeDd (sec : Int) (l : List (CL cSt)) (n : Int) : run P tabLw2.sum Try.f16 nsDd (start Try.f16 [avI sec, avSteps l, avI n] []) [28] =
  Tree.ite false (Tree.ret [] (AV.s (SV.bool true))) (Tree.need (Slf (some [AV.s (SV.ro (Con.typ cSt l))])) (Tree.need NoObj (Tree.need (l.length ≤ (9223372036854775807 : Nat)) (Tree.both True (l.length - (300 : Nat) = (0 : Nat)) (Tree.ret [] (AV.s (SV.bool true))) (Tree.ite (decide (sec > (60 : Int))) (Tree.ret [] (AV.s (SV.bool true))) (Tree.ite (decide (sec < (1 : Int))) (Tree.ret [] (AV.s (SV.blit true))) (Tree.ite (decide (sec > (4096 : Int))) (Tree.ret [] (AV.s (SV.blit true))) (Tree.need ((0 : Int) ≤ sec) (Tree.need (sec ≤ sec) (Tree.need (sec ≤ (1073741824 : Int)) (Tree.need ((20 : Int) ≠ (0 : Int)) (Tree.need (inI64 ((IntKind.u64.wrap n).tmod (20 : Int))) (Tree.at (Cfg.mk (sl (103 : Nat) [((1 : Nat), AV.s (SV.ro (Con.typ cSt l))), ((2 : Nat), AV.s (SV.int IntKind.i64 ((IntKind.u64.wrap n).tmod (20 : Int)))), ((7 : Nat), AV.ptr (0 : Nat) (0 : Nat))]) [AObj.own [AV.vec (1 : Nat), AV.mapv (2 : Nat), AV.s (SV.int IntKind.i64 (-1 : Int))] (145 : Nat), AObj.vec (Con.typ cS (List.replicate sec.toNat (CL.d cS))) (169 : Nat), AObj.map (CK.arr IntKind.u8 (64 : Nat)) []] (hr Try.f16 (7 : Nat)) (Stk.mk none false (0 : Nat) [] (0 : Nat)))))))))))))))) := by kernel_rfl
theorem treeDd7 (l : List (CL cSt)) (z : Int) (th : Th) (m : As) (fu : Int) : run P tabLw2.sum Try.f16 nsDd (cDd7 l z th m fu) [28] =
  Tree.need (Slf (some [AV.ptr (0 : Nat) (0 : Nat), AV.s (SV.int IntKind.i64 z)])) (Tree.need (Slf (some [AObj.own [AV.vec (1 : Nat), AV.mapv (2 : Nat), AV.s (SV.int IntKind.i64 fu)] (145 : Nat), AObj.vec (Con.typ cS th) (169 : Nat), AObj.map (CK.arr IntKind.u8 (64 : Nat)) m])) (Tree.at (Cfg.mk (sl (103 : Nat) [((1 : Nat), AV.s (SV.ro (Con.typ cSt l))), ((2 : Nat), AV.s (SV.int IntKind.i64 z)), ((7 : Nat), AV.ptr (0 : Nat) (0 : Nat)), ((9 : Nat), AV.s (SV.int IntKind.i64 (0 : Int)))]) [AObj.own [AV.vec (1 : Nat), AV.mapv (2 : Nat), AV.s (SV.int IntKind.i64 (fuF fu z))] (145 : Nat), AObj.vec (Con.typ cS th) (169 : Nat), AObj.map (CK.arr IntKind.u8 (64 : Nat)) m] (hd Try.f16 (9 : Nat)) (Stk.mk none false (0 : Nat) [] (0 : Nat))))) := by kernel_rfl
theorem loopDd (l : List (CL cSt)) (z : Int) (th : Th) (m : As) (fu i : Int) : run P tabLw2.sum Try.f16 nsDd (cDd l z th m fu i) [28] =
  Tree.ite (decide (i < (↑l.length : Int))) (Tree.need ((0 : Int) ≤ i) (Tree.need (i < (↑l.length : Int)) (Tree.ite (decide (stK (el l i) > (1 : Int))) (Tree.need (inI64 (i + (1 : Int))) (Tree.at (Cfg.mk (sl (103 : Nat) [((1 : Nat), AV.s (SV.ro (Con.typ cSt l))), ((2 : Nat), AV.s (SV.int IntKind.i64 z)), ((7 : Nat), AV.ptr (0 : Nat) (0 : Nat)), ((9 : Nat), AV.s (SV.int IntKind.i64 (i + (1 : Int))))]) [AObj.own [AV.vec (1 : Nat), AV.mapv (2 : Nat), AV.s (SV.int IntKind.i64 fu)] (145 : Nat), AObj.vec (Con.typ cS th) (169 : Nat), AObj.map (CK.arr IntKind.u8 (64 : Nat)) m] (hd Try.f16 (9 : Nat)) (Stk.mk none false (0 : Nat) [] (0 : Nat))))) (Tree.need (Slf (some [AV.ptr (0 : Nat) (0 : Nat)])) (Tree.need (Slf (some [AObj.own [AV.vec (1 : Nat), AV.mapv (2 : Nat), AV.s (SV.int IntKind.i64 fu)] (145 : Nat), AObj.vec (Con.typ cS th) (169 : Nat), AObj.map (CK.arr IntKind.u8 (64 : Nat)) m])) (Tree.need (okD th m fu) (Tree.need ((0 : Int) ≤ i) (Tree.need (i < (↑l.length : Int)) (Tree.need (Slf (some [AV.agg [AV.s (SV.int IntKind.u8 (stK (el l i))), AV.s (SV.int IntKind.i64 (stN (el l i))), AV.s (SV.str (stS (el l i))), AV.s (SV.ro (Con.bools (stB (el l i)))), AV.s (SV.int IntKind.i64 (stC (el l i)))], AV.ptr (0 : Nat) (0 : Nat)])) (Tree.need (Slf (some [AObj.own [AV.vec (1 : Nat), AV.mapv (2 : Nat), AV.s (SV.int IntKind.i64 fu)] (145 : Nat), AObj.vec (Con.typ cS th) (169 : Nat), AObj.map (CK.arr IntKind.u8 (64 : Nat)) m])) (Tree.need (okD th m fu) (Tree.at (Cfg.mk (sl (103 : Nat) [((1 : Nat), AV.s (SV.ro (Con.typ cSt l))), ((2 : Nat), AV.s (SV.int IntKind.i64 z)), ((7 : Nat), AV.ptr (0 : Nat) (0 : Nat)), ((9 : Nat), AV.s (SV.int IntKind.i64 i)), ((10 : Nat), AV.ptr (1 : Nat) (0 : Nat)), ((11 : Nat), AV.s (SV.int IntKind.i64 (stE fu (stK (el l i)) (stN (el l i)) th (stS (el l i)) (stC (el l i)))))]) [AObj.own [AV.vec (2 : Nat), AV.mapv (3 : Nat), AV.s (SV.int IntKind.i64 (stF th fu (stK (el l i)) (stN (el l i)) (stS (el l i)) (stC (el l i))))] (145 : Nat), AObj.own [AV.vec (4 : Nat), AV.mapv (5 : Nat), AV.s (SV.int IntKind.i64 fu)] (145 : Nat), AObj.vec (Con.typ cS (stT th m fu (stK (el l i)) (stN (el l i)) (stB (el l i)) (stC (el l i)))) (169 : Nat), AObj.map (CK.arr IntKind.u8 (64 : Nat)) (stM th m fu (stK (el l i)) (stN (el l i)) (stS (el l i)) (stC (el l i))), AObj.vec (Con.typ cS th) (169 : Nat), AObj.map (CK.arr IntKind.u8 (64 : Nat)) m] (hr Try.f16 (14 : Nat)) (Stk.mk none false (0 : Nat) [] (0 : Nat))))))))))))))) (Tree.need (Slf (some [AV.ptr (0 : Nat) (0 : Nat)])) (Tree.need (Slf (some [AObj.own [AV.vec (1 : Nat), AV.mapv (2 : Nat), AV.s (SV.int IntKind.i64 fu)] (145 : Nat), AObj.vec (Con.typ cS th) (169 : Nat), AObj.map (CK.arr IntKind.u8 (64 : Nat)) m])) (Tree.ret [AObj.own [AV.vec (1 : Nat), AV.mapv (2 : Nat), AV.s (SV.int IntKind.i64 fu)] (145 : Nat), AObj.vec (Con.typ cS th) (169 : Nat), AObj.map (CK.arr IntKind.u8 (64 : Nat)) m] (AV.s (SV.bool ((fu == (0 : Int)) == (z == (0 : Int)))))))) := by kernel_rfl
theorem loopDd14 (l : List (CL cSt)) (z : Int) (th : Th) (m : As) (fu i e : Int) (th' : Th) (m' : As) (fu' : Int) : run P tabLw2.sum Try.f16 nsDd (cDd14 l z th m fu i e th' m' fu') [28] =
  Tree.need (Slf (some [AV.ptr (0 : Nat) (0 : Nat)]))
  (Tree.need (Slf (some [AObj.own [AV.vec (1 : Nat), AV.mapv (2 : Nat), AV.s (SV.int IntKind.i64 fu')] (145 : Nat), AObj.vec (Con.typ cS th') (169 : Nat), AObj.map (CK.arr IntKind.u8 (64 : Nat)) m']))
    (Tree.ite (z == (0 : Int))
      (Tree.ite (!(fu' == (0 : Int)) == true) (Tree.ret [AObj.own [AV.vec (2 : Nat), AV.mapv (3 : Nat), AV.s (SV.int IntKind.i64 fu')] (145 : Nat), AObj.own [AV.vec (4 : Nat), AV.mapv (5 : Nat), AV.s (SV.int IntKind.i64 fu)] (145 : Nat), AObj.vec (Con.typ cS th') (169 : Nat), AObj.map (CK.arr IntKind.u8 (64 : Nat)) m', AObj.vec (Con.typ cS th) (169 : Nat), AObj.map (CK.arr IntKind.u8 (64 : Nat)) m] (AV.s (SV.blit false)))
        (Tree.ite (z == (0 : Int))
          (Tree.ite (e == (0 : Int)) (Tree.ret [AObj.own [AV.vec (2 : Nat), AV.mapv (3 : Nat), AV.s (SV.int IntKind.i64 fu')] (145 : Nat), AObj.own [AV.vec (4 : Nat), AV.mapv (5 : Nat), AV.s (SV.int IntKind.i64 fu)] (145 : Nat), AObj.vec (Con.typ cS th') (169 : Nat), AObj.map (CK.arr IntKind.u8 (64 : Nat)) m', AObj.vec (Con.typ cS th) (169 : Nat), AObj.map (CK.arr IntKind.u8 (64 : Nat)) m] (AV.s (SV.blit false)))
            (Tree.need (Slf (some [AV.ptr (0 : Nat) (0 : Nat), AV.ptr (3 : Nat) (0 : Nat)]))
              (Tree.need (Slf (some [AObj.own [AV.vec (1 : Nat), AV.mapv (2 : Nat), AV.s (SV.int IntKind.i64 fu)] (145 : Nat), AObj.vec (Con.typ cS th) (169 : Nat), AObj.map (CK.arr IntKind.u8 (64 : Nat)) m, AObj.own [AV.vec (4 : Nat), AV.mapv (5 : Nat), AV.s (SV.int IntKind.i64 fu')] (145 : Nat), AObj.vec (Con.typ cS th') (169 : Nat), AObj.map (CK.arr IntKind.u8 (64 : Nat)) m'])) (Tree.need (okT th) (Tree.need (okT th') (Tree.ite (!(fu == fu' && (thEq th th' && mEq m m'))) (Tree.ret [AObj.own [AV.vec (2 : Nat), AV.mapv (3 : Nat), AV.s (SV.int IntKind.i64 fu')] (145 : Nat), AObj.own [AV.vec (4 : Nat), AV.mapv (5 : Nat), AV.s (SV.int IntKind.i64 fu)] (145 : Nat), AObj.vec (Con.typ cS th') (169 : Nat), AObj.map (CK.arr IntKind.u8 (64 : Nat)) m', AObj.vec (Con.typ cS th) (169 : Nat), AObj.map (CK.arr IntKind.u8 (64 : Nat)) m] (AV.s (SV.blit false))) (Tree.ite (e != (0 : Int)) (Tree.need (Slf (some [AV.ptr (0 : Nat) (0 : Nat), AV.ptr (3 : Nat) (0 : Nat)])) (Tree.need (Slf (some [AObj.own [AV.vec (1 : Nat), AV.mapv (2 : Nat), AV.s (SV.int IntKind.i64 fu)] (145 : Nat), AObj.vec (Con.typ cS th) (169 : Nat), AObj.map (CK.arr IntKind.u8 (64 : Nat)) m, AObj.own [AV.vec (4 : Nat), AV.mapv (5 : Nat), AV.s (SV.int IntKind.i64 fu')] (145 : Nat), AObj.vec (Con.typ cS th') (169 : Nat), AObj.map (CK.arr IntKind.u8 (64 : Nat)) m'])) (Tree.need (okT th) (Tree.need (okT th') (Tree.ite (!(fu == fu' && (thEq th th' && mEq m m'))) (Tree.ret [AObj.own [AV.vec (2 : Nat), AV.mapv (3 : Nat), AV.s (SV.int IntKind.i64 fu')] (145 : Nat), AObj.own [AV.vec (4 : Nat), AV.mapv (5 : Nat), AV.s (SV.int IntKind.i64 fu)] (145 : Nat), AObj.vec (Con.typ cS th') (169 : Nat), AObj.map (CK.arr IntKind.u8 (64 : Nat)) m', AObj.vec (Con.typ cS th) (169 : Nat), AObj.map (CK.arr IntKind.u8 (64 : Nat)) m] (AV.s (SV.blit false))) (Tree.ite (e == (0 : Int)) (Tree.need (inI64 (z - (1 : Int))) (Tree.need (inI64 (i + (1 : Int))) (Tree.at (Cfg.mk (sl (103 : Nat) [((1 : Nat), AV.s (SV.ro (Con.typ cSt l))), ((2 : Nat), AV.s (SV.int IntKind.i64 (z - (1 : Int)))), ((7 : Nat), AV.ptr (0 : Nat) (0 : Nat)), ((9 : Nat), AV.s (SV.int IntKind.i64 (i + (1 : Int))))]) [AObj.own [AV.vec (1 : Nat), AV.mapv (2 : Nat), AV.s (SV.int IntKind.i64 fu')] (145 : Nat), AObj.vec (Con.typ cS th') (169 : Nat), AObj.map (CK.arr IntKind.u8 (64 : Nat)) m'] (hd Try.f16 (9 : Nat)) (Stk.mk none false (0 : Nat) [] (0 : Nat)))))) (Tree.need (inI64 (i + (1 : Int))) (Tree.at (Cfg.mk (sl (103 : Nat) [((1 : Nat), AV.s (SV.ro (Con.typ cSt l))), ((2 : Nat), AV.s (SV.int IntKind.i64 z)), ((7 : Nat), AV.ptr (0 : Nat) (0 : Nat)), ((9 : Nat), AV.s (SV.int IntKind.i64 (i + (1 : Int))))]) [AObj.own [AV.vec (1 : Nat), AV.mapv (2 : Nat), AV.s (SV.int IntKind.i64 fu')] (145 : Nat), AObj.vec (Con.typ cS th') (169 : Nat), AObj.map (CK.arr IntKind.u8 (64 : Nat)) m'] (hd Try.f16 (9 : Nat)) (Stk.mk none false (0 : Nat) [] (0 : Nat))))))))))) (Tree.ite (e == (0 : Int)) (Tree.need (inI64 (z - (1 : Int))) (Tree.need (inI64 (i + (1 : Int))) (Tree.at (Cfg.mk (sl (103 : Nat) [((1 : Nat), AV.s (SV.ro (Con.typ cSt l))), ((2 : Nat), AV.s (SV.int IntKind.i64 (z - (1 : Int)))), ((7 : Nat), AV.ptr (0 : Nat) (0 : Nat)), ((9 : Nat), AV.s (SV.int IntKind.i64 (i + (1 : Int))))]) [AObj.own [AV.vec (1 : Nat), AV.mapv (2 : Nat), AV.s (SV.int IntKind.i64 fu')] (145 : Nat), AObj.vec (Con.typ cS th') (169 : Nat), AObj.map (CK.arr IntKind.u8 (64 : Nat)) m'] (hd Try.f16 (9 : Nat)) (Stk.mk none false (0 : Nat) [] (0 : Nat)))))) (Tree.need (inI64 (i + (1 : Int))) (Tree.at (Cfg.mk (sl (103 : Nat) [((1 : Nat), AV.s (SV.ro (Con.typ cSt l))), ((2 : Nat), AV.s (SV.int IntKind.i64 z)), ((7 : Nat), AV.ptr (0 : Nat) (0 : Nat)), ((9 : Nat), AV.s (SV.int IntKind.i64 (i + (1 : Int))))]) [AObj.own [AV.vec (1 : Nat), AV.mapv (2 : Nat), AV.s (SV.int IntKind.i64 fu')] (145 : Nat), AObj.vec (Con.typ cS th') (169 : Nat), AObj.map (CK.arr IntKind.u8 (64 : Nat)) m'] (hd Try.f16 (9 : Nat)) (Stk.mk none false (0 : Nat) [] (0 : Nat)))))))))))))
          (Tree.ite (e != (0 : Int)) (Tree.need (Slf (some [AV.ptr (0 : Nat) (0 : Nat), AV.ptr (3 : Nat) (0 : Nat)])) (Tree.need (Slf (some [AObj.own [AV.vec (1 : Nat), AV.mapv (2 : Nat), AV.s (SV.int IntKind.i64 fu)] (145 : Nat), AObj.vec (Con.typ cS th) (169 : Nat), AObj.map (CK.arr IntKind.u8 (64 : Nat)) m, AObj.own [AV.vec (4 : Nat), AV.mapv (5 : Nat), AV.s (SV.int IntKind.i64 fu')] (145 : Nat), AObj.vec (Con.typ cS th') (169 : Nat), AObj.map (CK.arr IntKind.u8 (64 : Nat)) m'])) (Tree.need (okT th) (Tree.need (okT th') (Tree.ite (!(fu == fu' && (thEq th th' && mEq m m'))) (Tree.ret [AObj.own [AV.vec (2 : Nat), AV.mapv (3 : Nat), AV.s (SV.int IntKind.i64 fu')] (145 : Nat), AObj.own [AV.vec (4 : Nat), AV.mapv (5 : Nat), AV.s (SV.int IntKind.i64 fu)] (145 : Nat), AObj.vec (Con.typ cS th') (169 : Nat), AObj.map (CK.arr IntKind.u8 (64 : Nat)) m', AObj.vec (Con.typ cS th) (169 : Nat), AObj.map (CK.arr IntKind.u8 (64 : Nat)) m] (AV.s (SV.blit false))) (Tree.ite (e == (0 : Int)) (Tree.need (inI64 (z - (1 : Int))) (Tree.need (inI64 (i + (1 : Int))) (Tree.at (Cfg.mk (sl (103 : Nat) [((1 : Nat), AV.s (SV.ro (Con.typ cSt l))), ((2 : Nat), AV.s (SV.int IntKind.i64 (z - (1 : Int)))), ((7 : Nat), AV.ptr (0 : Nat) (0 : Nat)), ((9 : Nat), AV.s (SV.int IntKind.i64 (i + (1 : Int))))]) [AObj.own [AV.vec (1 : Nat), AV.mapv (2 : Nat), AV.s (SV.int IntKind.i64 fu')] (145 : Nat), AObj.vec (Con.typ cS th') (169 : Nat), AObj.map (CK.arr IntKind.u8 (64 : Nat)) m'] (hd Try.f16 (9 : Nat)) (Stk.mk none false (0 : Nat) [] (0 : Nat)))))) (Tree.need (inI64 (i + (1 : Int))) (Tree.at (Cfg.mk (sl (103 : Nat) [((1 : Nat), AV.s (SV.ro (Con.typ cSt l))), ((2 : Nat), AV.s (SV.int IntKind.i64 z)), ((7 : Nat), AV.ptr (0 : Nat) (0 : Nat)), ((9 : Nat), AV.s (SV.int IntKind.i64 (i + (1 : Int))))]) [AObj.own [AV.vec (1 : Nat), AV.mapv (2 : Nat), AV.s (SV.int IntKind.i64 fu')] (145 : Nat), AObj.vec (Con.typ cS th') (169 : Nat), AObj.map (CK.arr IntKind.u8 (64 : Nat)) m'] (hd Try.f16 (9 : Nat)) (Stk.mk none false (0 : Nat) [] (0 : Nat))))))))))) (Tree.ite (e == (0 : Int)) (Tree.need (inI64 (z - (1 : Int))) (Tree.need (inI64 (i + (1 : Int))) (Tree.at (Cfg.mk (sl (103 : Nat) [((1 : Nat), AV.s (SV.ro (Con.typ cSt l))), ((2 : Nat), AV.s (SV.int IntKind.i64 (z - (1 : Int)))), ((7 : Nat), AV.ptr (0 : Nat) (0 : Nat)), ((9 : Nat), AV.s (SV.int IntKind.i64 (i + (1 : Int))))]) [AObj.own [AV.vec (1 : Nat), AV.mapv (2 : Nat), AV.s (SV.int IntKind.i64 fu')] (145 : Nat), AObj.vec (Con.typ cS th') (169 : Nat), AObj.map (CK.arr IntKind.u8 (64 : Nat)) m'] (hd Try.f16 (9 : Nat)) (Stk.mk none false (0 : Nat) [] (0 : Nat)))))) (Tree.need (inI64 (i + (1 : Int))) (Tree.at (Cfg.mk (sl (103 : Nat) [((1 : Nat), AV.s (SV.ro (Con.typ cSt l))), ((2 : Nat), AV.s (SV.int IntKind.i64 z)), ((7 : Nat), AV.ptr (0 : Nat) (0 : Nat)), ((9 : Nat), AV.s (SV.int IntKind.i64 (i + (1 : Int))))]) [AObj.own [AV.vec (1 : Nat), AV.mapv (2 : Nat), AV.s (SV.int IntKind.i64 fu')] (145 : Nat), AObj.vec (Con.typ cS th') (169 : Nat), AObj.map (CK.arr IntKind.u8 (64 : Nat)) m'] (hd Try.f16 (9 : Nat)) (Stk.mk none false (0 : Nat) [] (0 : Nat)))))))))
      (Tree.ite (z == (1 : Int))
        (Tree.ite (!(fu' == (0 : Int)) == (e == (0 : Int))) (Tree.ret [AObj.own [AV.vec (2 : Nat), AV.mapv (3 : Nat), AV.s (SV.int IntKind.i64 fu')] (145 : Nat), AObj.own [AV.vec (4 : Nat), AV.mapv (5 : Nat), AV.s (SV.int IntKind.i64 fu)] (145 : Nat), AObj.vec (Con.typ cS th') (169 : Nat), AObj.map (CK.arr IntKind.u8 (64 : Nat)) m', AObj.vec (Con.typ cS th) (169 : Nat), AObj.map (CK.arr IntKind.u8 (64 : Nat)) m] (AV.s (SV.blit false)))
          (Tree.ite (z == (0 : Int))
            (Tree.ite (e == (0 : Int)) (Tree.ret [AObj.own [AV.vec (2 : Nat), AV.mapv (3 : Nat), AV.s (SV.int IntKind.i64 fu')] (145 : Nat), AObj.own [AV.vec (4 : Nat), AV.mapv (5 : Nat), AV.s (SV.int IntKind.i64 fu)] (145 : Nat), AObj.vec (Con.typ cS th') (169 : Nat), AObj.map (CK.arr IntKind.u8 (64 : Nat)) m', AObj.vec (Con.typ cS th) (169 : Nat), AObj.map (CK.arr IntKind.u8 (64 : Nat)) m] (AV.s (SV.blit false)))
              (Tree.need (Slf (some [AV.ptr (0 : Nat) (0 : Nat), AV.ptr (3 : Nat) (0 : Nat)]))
                (Tree.need (Slf (some [AObj.own [AV.vec (1 : Nat), AV.mapv (2 : Nat), AV.s (SV.int IntKind.i64 fu)] (145 : Nat), AObj.vec (Con.typ cS th) (169 : Nat), AObj.map (CK.arr IntKind.u8 (64 : Nat)) m, AObj.own [AV.vec (4 : Nat), AV.mapv (5 : Nat), AV.s (SV.int IntKind.i64 fu')] (145 : Nat), AObj.vec (Con.typ cS th') (169 : Nat), AObj.map (CK.arr IntKind.u8 (64 : Nat)) m'])) (Tree.need (okT th) (Tree.need (okT th') (Tree.ite (!(fu == fu' && (thEq th th' && mEq m m'))) (Tree.ret [AObj.own [AV.vec (2 : Nat), AV.mapv (3 : Nat), AV.s (SV.int IntKind.i64 fu')] (145 : Nat), AObj.own [AV.vec (4 : Nat), AV.mapv (5 : Nat), AV.s (SV.int IntKind.i64 fu)] (145 : Nat), AObj.vec (Con.typ cS th') (169 : Nat), AObj.map (CK.arr IntKind.u8 (64 : Nat)) m', AObj.vec (Con.typ cS th) (169 : Nat), AObj.map (CK.arr IntKind.u8 (64 : Nat)) m] (AV.s (SV.blit false))) (Tree.ite (e != (0 : Int)) (Tree.need (Slf (some [AV.ptr (0 : Nat) (0 : Nat), AV.ptr (3 : Nat) (0 : Nat)])) (Tree.need (Slf (some [AObj.own [AV.vec (1 : Nat), AV.mapv (2 : Nat), AV.s (SV.int IntKind.i64 fu)] (145 : Nat), AObj.vec (Con.typ cS th) (169 : Nat), AObj.map (CK.arr IntKind.u8 (64 : Nat)) m, AObj.own [AV.vec (4 : Nat), AV.mapv (5 : Nat), AV.s (SV.int IntKind.i64 fu')] (145 : Nat), AObj.vec (Con.typ cS th') (169 : Nat), AObj.map (CK.arr IntKind.u8 (64 : Nat)) m'])) (Tree.need (okT th) (Tree.need (okT th') (Tree.ite (!(fu == fu' && (thEq th th' && mEq m m'))) (Tree.ret [AObj.own [AV.vec (2 : Nat), AV.mapv (3 : Nat), AV.s (SV.int IntKind.i64 fu')] (145 : Nat), AObj.own [AV.vec (4 : Nat), AV.mapv (5 : Nat), AV.s (SV.int IntKind.i64 fu)] (145 : Nat), AObj.vec (Con.typ cS th') (169 : Nat), AObj.map (CK.arr IntKind.u8 (64 : Nat)) m', AObj.vec (Con.typ cS th) (169 : Nat), AObj.map (CK.arr IntKind.u8 (64 : Nat)) m] (AV.s (SV.blit false))) (Tree.ite (e == (0 : Int)) (Tree.need (inI64 (z - (1 : Int))) (Tree.need (inI64 (i + (1 : Int))) (Tree.at (Cfg.mk (sl (103 : Nat) [((1 : Nat), AV.s (SV.ro (Con.typ cSt l))), ((2 : Nat), AV.s (SV.int IntKind.i64 (z - (1 : Int)))), ((7 : Nat), AV.ptr (0 : Nat) (0 : Nat)), ((9 : Nat), AV.s (SV.int IntKind.i64 (i + (1 : Int))))]) [AObj.own [AV.vec (1 : Nat), AV.mapv (2 : Nat), AV.s (SV.int IntKind.i64 fu')] (145 : Nat), AObj.vec (Con.typ cS th') (169 : Nat), AObj.map (CK.arr IntKind.u8 (64 : Nat)) m'] (hd Try.f16 (9 : Nat)) (Stk.mk none false (0 : Nat) [] (0 : Nat)))))) (Tree.need (inI64 (i + (1 : Int))) (Tree.at (Cfg.mk (sl (103 : Nat) [((1 : Nat), AV.s (SV.ro (Con.typ cSt l))), ((2 : Nat), AV.s (SV.int IntKind.i64 z)), ((7 : Nat), AV.ptr (0 : Nat) (0 : Nat)), ((9 : Nat), AV.s (SV.int IntKind.i64 (i + (1 : Int))))]) [AObj.own [AV.vec (1 : Nat), AV.mapv (2 : Nat), AV.s (SV.int IntKind.i64 fu')] (145 : Nat), AObj.vec (Con.typ cS th') (169 : Nat), AObj.map (CK.arr IntKind.u8 (64 : Nat)) m'] (hd Try.f16 (9 : Nat)) (Stk.mk none false (0 : Nat) [] (0 : Nat))))))))))) (Tree.ite (e == (0 : Int)) (Tree.need (inI64 (z - (1 : Int))) (Tree.need (inI64 (i + (1 : Int))) (Tree.at (Cfg.mk (sl (103 : Nat) [((1 : Nat), AV.s (SV.ro (Con.typ cSt l))), ((2 : Nat), AV.s (SV.int IntKind.i64 (z - (1 : Int)))), ((7 : Nat), AV.ptr (0 : Nat) (0 : Nat)), ((9 : Nat), AV.s (SV.int IntKind.i64 (i + (1 : Int))))]) [AObj.own [AV.vec (1 : Nat), AV.mapv (2 : Nat), AV.s (SV.int IntKind.i64 fu')] (145 : Nat), AObj.vec (Con.typ cS th') (169 : Nat), AObj.map (CK.arr IntKind.u8 (64 : Nat)) m'] (hd Try.f16 (9 : Nat)) (Stk.mk none false (0 : Nat) [] (0 : Nat)))))) (Tree.need (inI64 (i + (1 : Int))) (Tree.at (Cfg.mk (sl (103 : Nat) [((1 : Nat), AV.s (SV.ro (Con.typ cSt l))), ((2 : Nat), AV.s (SV.int IntKind.i64 z)), ((7 : Nat), AV.ptr (0 : Nat) (0 : Nat)), ((9 : Nat), AV.s (SV.int IntKind.i64 (i + (1 : Int))))]) [AObj.own [AV.vec (1 : Nat), AV.mapv (2 : Nat), AV.s (SV.int IntKind.i64 fu')] (145 : Nat), AObj.vec (Con.typ cS th') (169 : Nat), AObj.map (CK.arr IntKind.u8 (64 : Nat)) m'] (hd Try.f16 (9 : Nat)) (Stk.mk none false (0 : Nat) [] (0 : Nat)))))))))))))
            (Tree.ite (e != (0 : Int)) (Tree.need (Slf (some [AV.ptr (0 : Nat) (0 : Nat), AV.ptr (3 : Nat) (0 : Nat)])) (Tree.need (Slf (some [AObj.own [AV.vec (1 : Nat), AV.mapv (2 : Nat), AV.s (SV.int IntKind.i64 fu)] (145 : Nat), AObj.vec (Con.typ cS th) (169 : Nat), AObj.map (CK.arr IntKind.u8 (64 : Nat)) m, AObj.own [AV.vec (4 : Nat), AV.mapv (5 : Nat), AV.s (SV.int IntKind.i64 fu')] (145 : Nat), AObj.vec (Con.typ cS th') (169 : Nat), AObj.map (CK.arr IntKind.u8 (64 : Nat)) m'])) (Tree.need (okT th) (Tree.need (okT th') (Tree.ite (!(fu == fu' && (thEq th th' && mEq m m'))) (Tree.ret [AObj.own [AV.vec (2 : Nat), AV.mapv (3 : Nat), AV.s (SV.int IntKind.i64 fu')] (145 : Nat), AObj.own [AV.vec (4 : Nat), AV.mapv (5 : Nat), AV.s (SV.int IntKind.i64 fu)] (145 : Nat), AObj.vec (Con.typ cS th') (169 : Nat), AObj.map (CK.arr IntKind.u8 (64 : Nat)) m', AObj.vec (Con.typ cS th) (169 : Nat), AObj.map (CK.arr IntKind.u8 (64 : Nat)) m] (AV.s (SV.blit false))) (Tree.ite (e == (0 : Int)) (Tree.need (inI64 (z - (1 : Int))) (Tree.need (inI64 (i + (1 : Int))) (Tree.at (Cfg.mk (sl (103 : Nat) [((1 : Nat), AV.s (SV.ro (Con.typ cSt l))), ((2 : Nat), AV.s (SV.int IntKind.i64 (z - (1 : Int)))), ((7 : Nat), AV.ptr (0 : Nat) (0 : Nat)), ((9 : Nat), AV.s (SV.int IntKind.i64 (i + (1 : Int))))]) [AObj.own [AV.vec (1 : Nat), AV.mapv (2 : Nat), AV.s (SV.int IntKind.i64 fu')] (145 : Nat), AObj.vec (Con.typ cS th') (169 : Nat), AObj.map (CK.arr IntKind.u8 (64 : Nat)) m'] (hd Try.f16 (9 : Nat)) (Stk.mk none false (0 : Nat) [] (0 : Nat)))))) (Tree.need (inI64 (i + (1 : Int))) (Tree.at (Cfg.mk (sl (103 : Nat) [((1 : Nat), AV.s (SV.ro (Con.typ cSt l))), ((2 : Nat), AV.s (SV.int IntKind.i64 z)), ((7 : Nat), AV.ptr (0 : Nat) (0 : Nat)), ((9 : Nat), AV.s (SV.int IntKind.i64 (i + (1 : Int))))]) [AObj.own [AV.vec (1 : Nat), AV.mapv (2 : Nat), AV.s (SV.int IntKind.i64 fu')] (145 : Nat), AObj.vec (Con.typ cS th') (169 : Nat), AObj.map (CK.arr IntKind.u8 (64 : Nat)) m'] (hd Try.f16 (9 : Nat)) (Stk.mk none false (0 : Nat) [] (0 : Nat))))))))))) (Tree.ite (e == (0 : Int)) (Tree.need (inI64 (z - (1 : Int))) (Tree.need (inI64 (i + (1 : Int))) (Tree.at (Cfg.mk (sl (103 : Nat) [((1 : Nat), AV.s (SV.ro (Con.typ cSt l))), ((2 : Nat), AV.s (SV.int IntKind.i64 (z - (1 : Int)))), ((7 : Nat), AV.ptr (0 : Nat) (0 : Nat)), ((9 : Nat), AV.s (SV.int IntKind.i64 (i + (1 : Int))))]) [AObj.own [AV.vec (1 : Nat), AV.mapv (2 : Nat), AV.s (SV.int IntKind.i64 fu')] (145 : Nat), AObj.vec (Con.typ cS th') (169 : Nat), AObj.map (CK.arr IntKind.u8 (64 : Nat)) m'] (hd Try.f16 (9 : Nat)) (Stk.mk none false (0 : Nat) [] (0 : Nat)))))) (Tree.need (inI64 (i + (1 : Int))) (Tree.at (Cfg.mk (sl (103 : Nat) [((1 : Nat), AV.s (SV.ro (Con.typ cSt l))), ((2 : Nat), AV.s (SV.int IntKind.i64 z)), ((7 : Nat), AV.ptr (0 : Nat) (0 : Nat)), ((9 : Nat), AV.s (SV.int IntKind.i64 (i + (1 : Int))))]) [AObj.own [AV.vec (1 : Nat), AV.mapv (2 : Nat), AV.s (SV.int IntKind.i64 fu')] (145 : Nat), AObj.vec (Con.typ cS th') (169 : Nat), AObj.map (CK.arr IntKind.u8 (64 : Nat)) m'] (hd Try.f16 (9 : Nat)) (Stk.mk none false (0 : Nat) [] (0 : Nat)))))))))
        (Tree.ite (!(fu' == (0 : Int)) == false) (Tree.ret [AObj.own [AV.vec (2 : Nat), AV.mapv (3 : Nat), AV.s (SV.int IntKind.i64 fu')] (145 : Nat), AObj.own [AV.vec (4 : Nat), AV.mapv (5 : Nat), AV.s (SV.int IntKind.i64 fu)] (145 : Nat), AObj.vec (Con.typ cS th') (169 : Nat), AObj.map (CK.arr IntKind.u8 (64 : Nat)) m', AObj.vec (Con.typ cS th) (169 : Nat), AObj.map (CK.arr IntKind.u8 (64 : Nat)) m] (AV.s (SV.blit false)))
          (Tree.ite (z == (0 : Int))
            (Tree.ite (e == (0 : Int)) (Tree.ret [AObj.own [AV.vec (2 : Nat), AV.mapv (3 : Nat), AV.s (SV.int IntKind.i64 fu')] (145 : Nat), AObj.own [AV.vec (4 : Nat), AV.mapv (5 : Nat), AV.s (SV.int IntKind.i64 fu)] (145 : Nat), AObj.vec (Con.typ cS th') (169 : Nat), AObj.map (CK.arr IntKind.u8 (64 : Nat)) m', AObj.vec (Con.typ cS th) (169 : Nat), AObj.map (CK.arr IntKind.u8 (64 : Nat)) m] (AV.s (SV.blit false)))
              (Tree.need (Slf (some [AV.ptr (0 : Nat) (0 : Nat), AV.ptr (3 : Nat) (0 : Nat)]))
                (Tree.need (Slf (some [AObj.own [AV.vec (1 : Nat), AV.mapv (2 : Nat), AV.s (SV.int IntKind.i64 fu)] (145 : Nat), AObj.vec (Con.typ cS th) (169 : Nat), AObj.map (CK.arr IntKind.u8 (64 : Nat)) m, AObj.own [AV.vec (4 : Nat), AV.mapv (5 : Nat), AV.s (SV.int IntKind.i64 fu')] (145 : Nat), AObj.vec (Con.typ cS th') (169 : Nat), AObj.map (CK.arr IntKind.u8 (64 : Nat)) m'])) (Tree.need (okT th) (Tree.need (okT th') (Tree.ite (!(fu == fu' && (thEq th th' && mEq m m'))) (Tree.ret [AObj.own [AV.vec (2 : Nat), AV.mapv (3 : Nat), AV.s (SV.int IntKind.i64 fu')] (145 : Nat), AObj.own [AV.vec (4 : Nat), AV.mapv (5 : Nat), AV.s (SV.int IntKind.i64 fu)] (145 : Nat), AObj.vec (Con.typ cS th') (169 : Nat), AObj.map (CK.arr IntKind.u8 (64 : Nat)) m', AObj.vec (Con.typ cS th) (169 : Nat), AObj.map (CK.arr IntKind.u8 (64 : Nat)) m] (AV.s (SV.blit false))) (Tree.ite (e != (0 : Int)) (Tree.need (Slf (some [AV.ptr (0 : Nat) (0 : Nat), AV.ptr (3 : Nat) (0 : Nat)])) (Tree.need (Slf (some [AObj.own [AV.vec (1 : Nat), AV.mapv (2 : Nat), AV.s (SV.int IntKind.i64 fu)] (145 : Nat), AObj.vec (Con.typ cS th) (169 : Nat), AObj.map (CK.arr IntKind.u8 (64 : Nat)) m, AObj.own [AV.vec (4 : Nat), AV.mapv (5 : Nat), AV.s (SV.int IntKind.i64 fu')] (145 : Nat), AObj.vec (Con.typ cS th') (169 : Nat), AObj.map (CK.arr IntKind.u8 (64 : Nat)) m'])) (Tree.need (okT th) (Tree.need (okT th') (Tree.ite (!(fu == fu' && (thEq th th' && mEq m m'))) (Tree.ret [AObj.own [AV.vec (2 : Nat), AV.mapv (3 : Nat), AV.s (SV.int IntKind.i64 fu')] (145 : Nat), AObj.own [AV.vec (4 : Nat), AV.mapv (5 : Nat), AV.s (SV.int IntKind.i64 fu)] (145 : Nat), AObj.vec (Con.typ cS th') (169 : Nat), AObj.map (CK.arr IntKind.u8 (64 : Nat)) m', AObj.vec (Con.typ cS th) (169 : Nat), AObj.map (CK.arr IntKind.u8 (64 : Nat)) m] (AV.s (SV.blit false))) (Tree.ite (e == (0 : Int)) (Tree.need (inI64 (z - (1 : Int))) (Tree.need (inI64 (i + (1 : Int))) (Tree.at (Cfg.mk (sl (103 : Nat) [((1 : Nat), AV.s (SV.ro (Con.typ cSt l))), ((2 : Nat), AV.s (SV.int IntKind.i64 (z - (1 : Int)))), ((7 : Nat), AV.ptr (0 : Nat) (0 : Nat)), ((9 : Nat), AV.s (SV.int IntKind.i64 (i + (1 : Int))))]) [AObj.own [AV.vec (1 : Nat), AV.mapv (2 : Nat), AV.s (SV.int IntKind.i64 fu')] (145 : Nat), AObj.vec (Con.typ cS th') (169 : Nat), AObj.map (CK.arr IntKind.u8 (64 : Nat)) m'] (hd Try.f16 (9 : Nat)) (Stk.mk none false (0 : Nat) [] (0 : Nat)))))) (Tree.need (inI64 (i + (1 : Int))) (Tree.at (Cfg.mk (sl (103 : Nat) [((1 : Nat), AV.s (SV.ro (Con.typ cSt l))), ((2 : Nat), AV.s (SV.int IntKind.i64 z)), ((7 : Nat), AV.ptr (0 : Nat) (0 : Nat)), ((9 : Nat), AV.s (SV.int IntKind.i64 (i + (1 : Int))))]) [AObj.own [AV.vec (1 : Nat), AV.mapv (2 : Nat), AV.s (SV.int IntKind.i64 fu')] (145 : Nat), AObj.vec (Con.typ cS th') (169 : Nat), AObj.map (CK.arr IntKind.u8 (64 : Nat)) m'] (hd Try.f16 (9 : Nat)) (Stk.mk none false (0 : Nat) [] (0 : Nat))))))))))) (Tree.ite (e == (0 : Int)) (Tree.need (inI64 (z - (1 : Int))) (Tree.need (inI64 (i + (1 : Int))) (Tree.at (Cfg.mk (sl (103 : Nat) [((1 : Nat), AV.s (SV.ro (Con.typ cSt l))), ((2 : Nat), AV.s (SV.int IntKind.i64 (z - (1 : Int)))), ((7 : Nat), AV.ptr (0 : Nat) (0 : Nat)), ((9 : Nat), AV.s (SV.int IntKind.i64 (i + (1 : Int))))]) [AObj.own [AV.vec (1 : Nat), AV.mapv (2 : Nat), AV.s (SV.int IntKind.i64 fu')] (145 : Nat), AObj.vec (Con.typ cS th') (169 : Nat), AObj.map (CK.arr IntKind.u8 (64 : Nat)) m'] (hd Try.f16 (9 : Nat)) (Stk.mk none false (0 : Nat) [] (0 : Nat)))))) (Tree.need (inI64 (i + (1 : Int))) (Tree.at (Cfg.mk (sl (103 : Nat) [((1 : Nat), AV.s (SV.ro (Con.typ cSt l))), ((2 : Nat), AV.s (SV.int IntKind.i64 z)), ((7 : Nat), AV.ptr (0 : Nat) (0 : Nat)), ((9 : Nat), AV.s (SV.int IntKind.i64 (i + (1 : Int))))]) [AObj.own [AV.vec (1 : Nat), AV.mapv (2 : Nat), AV.s (SV.int IntKind.i64 fu')] (145 : Nat), AObj.vec (Con.typ cS th') (169 : Nat), AObj.map (CK.arr IntKind.u8 (64 : Nat)) m'] (hd Try.f16 (9 : Nat)) (Stk.mk none false (0 : Nat) [] (0 : Nat)))))))))))))
            (Tree.ite (e != (0 : Int)) (Tree.need (Slf (some [AV.ptr (0 : Nat) (0 : Nat), AV.ptr (3 : Nat) (0 : Nat)])) (Tree.need (Slf (some [AObj.own [AV.vec (1 : Nat), AV.mapv (2 : Nat), AV.s (SV.int IntKind.i64 fu)] (145 : Nat), AObj.vec (Con.typ cS th) (169 : Nat), AObj.map (CK.arr IntKind.u8 (64 : Nat)) m, AObj.own [AV.vec (4 : Nat), AV.mapv (5 : Nat), AV.s (SV.int IntKind.i64 fu')] (145 : Nat), AObj.vec (Con.typ cS th') (169 : Nat), AObj.map (CK.arr IntKind.u8 (64 : Nat)) m'])) (Tree.need (okT th) (Tree.need (okT th') (Tree.ite (!(fu == fu' && (thEq th th' && mEq m m'))) (Tree.ret [AObj.own [AV.vec (2 : Nat), AV.mapv (3 : Nat), AV.s (SV.int IntKind.i64 fu')] (145 : Nat), AObj.own [AV.vec (4 : Nat), AV.mapv (5 : Nat), AV.s (SV.int IntKind.i64 fu)] (145 : Nat), AObj.vec (Con.typ cS th') (169 : Nat), AObj.map (CK.arr IntKind.u8 (64 : Nat)) m', AObj.vec (Con.typ cS th) (169 : Nat), AObj.map (CK.arr IntKind.u8 (64 : Nat)) m] (AV.s (SV.blit false))) (Tree.ite (e == (0 : Int)) (Tree.need (inI64 (z - (1 : Int))) (Tree.need (inI64 (i + (1 : Int))) (Tree.at (Cfg.mk (sl (103 : Nat) [((1 : Nat), AV.s (SV.ro (Con.typ cSt l))), ((2 : Nat), AV.s (SV.int IntKind.i64 (z - (1 : Int)))), ((7 : Nat), AV.ptr (0 : Nat) (0 : Nat)), ((9 : Nat), AV.s (SV.int IntKind.i64 (i + (1 : Int))))]) [AObj.own [AV.vec (1 : Nat), AV.mapv (2 : Nat), AV.s (SV.int IntKind.i64 fu')] (145 : Nat), AObj.vec (Con.typ cS th') (169 : Nat), AObj.map (CK.arr IntKind.u8 (64 : Nat)) m'] (hd Try.f16 (9 : Nat)) (Stk.mk none false (0 : Nat) [] (0 : Nat)))))) (Tree.need (inI64 (i + (1 : Int))) (Tree.at (Cfg.mk (sl (103 : Nat) [((1 : Nat), AV.s (SV.ro (Con.typ cSt l))), ((2 : Nat), AV.s (SV.int IntKind.i64 z)), ((7 : Nat), AV.ptr (0 : Nat) (0 : Nat)), ((9 : Nat), AV.s (SV.int IntKind.i64 (i + (1 : Int))))]) [AObj.own [AV.vec (1 : Nat), AV.mapv (2 : Nat), AV.s (SV.int IntKind.i64 fu')] (145 : Nat), AObj.vec (Con.typ cS th') (169 : Nat), AObj.map (CK.arr IntKind.u8 (64 : Nat)) m'] (hd Try.f16 (9 : Nat)) (Stk.mk none false (0 : Nat) [] (0 : Nat))))))))))) (Tree.ite (e == (0 : Int)) (Tree.need (inI64 (z - (1 : Int))) (Tree.need (inI64 (i + (1 : Int))) (Tree.at (Cfg.mk (sl (103 : Nat) [((1 : Nat), AV.s (SV.ro (Con.typ cSt l))), ((2 : Nat), AV.s (SV.int IntKind.i64 (z - (1 : Int)))), ((7 : Nat), AV.ptr (0 : Nat) (0 : Nat)), ((9 : Nat), AV.s (SV.int IntKind.i64 (i + (1 : Int))))]) [AObj.own [AV.vec (1 : Nat), AV.mapv (2 : Nat), AV.s (SV.int IntKind.i64 fu')] (145 : Nat), AObj.vec (Con.typ cS th') (169 : Nat), AObj.map (CK.arr IntKind.u8 (64 : Nat)) m'] (hd Try.f16 (9 : Nat)) (Stk.mk none false (0 : Nat) [] (0 : Nat)))))) (Tree.need (inI64 (i + (1 : Int))) (Tree.at (Cfg.mk (sl (103 : Nat) [((1 : Nat), AV.s (SV.ro (Con.typ cSt l))), ((2 : Nat), AV.s (SV.int IntKind.i64 z)), ((7 : Nat), AV.ptr (0 : Nat) (0 : Nat)), ((9 : Nat), AV.s (SV.int IntKind.i64 (i + (1 : Int))))]) [AObj.own [AV.vec (1 : Nat), AV.mapv (2 : Nat), AV.s (SV.int IntKind.i64 fu')] (145 : Nat), AObj.vec (Con.typ cS th') (169 : Nat), AObj.map (CK.arr IntKind.u8 (64 : Nat)) m'] (hd Try.f16 (9 : Nat)) (Stk.mk none false (0 : Nat) [] (0 : Nat)))))))))))) := by kernel_rfl
theorem tabLw2_ok {Z : Glob} : tabLw2.Ok P Z := Tab.Ok.cons (same_ok.sum mSm) tabLw_ok
theorem thEq_refl (a : Th) : thEq a a = true := by simp [thEq]
theorem mEq_refl {m : As} (h : (m.map (·.1)).Nodup) : mEq m m = true := by
  simp only [mEq, Bool.and_eq_true, List.all_eq_true, decide_eq_true_eq, beq_iff_eq, true_and]
  intro p hp
  rw [mget_has, mget_of h hp]
  exact ⟨rfl, rfl⟩
theorem u64_mod (n : Int) : 0 ≤ IntKind.u64.wrap n := by
  unfold IntKind.wrap
  simp only [show IntKind.u64.signed = false from rfl, Bool.false_and, Bool.false_eq_true, if_false]
  exact Int.emod_nonneg _ (by decide)
theorem st_same {th : Th} {m : As} {fu k n c : Int} {s : ByteArray} {ks : List Bool} (hk : 0 ≤ k) (hk1 : ¬ k > 1) (he : stE fu k n th s c ≠ 0) :
    stT th m fu k n ks c = th ∧ stM th m fu k n s c = m ∧ stF th fu k n s c = fu := by
  unfold stE at he
  unfold stT stM stF
  by_cases k0 : k = 0
  · rw [if_pos k0] at he ⊢
    rw [if_pos k0, if_pos k0]
    refine ⟨rfl, by unfold wrM; rw [if_neg he], ?_⟩
    unfold wrF
    split
    · rename_i hh
      have : fu = 0 := Classical.byContradiction fun hf => he (wrE_zero.2 ⟨hh.1, hh.2, hf⟩)
      simp [burnF, this]
    · rfl
  · have k1 : k = 1 := by omega
    rw [if_neg k0, if_pos k1] at he ⊢
    rw [if_neg k0, if_pos k1, if_neg k0, if_pos k1]
    have : fu = 0 := by
      unfold flE at he
      split at he
      · assumption
      · exact absurd rfl he
    simp [flT, flM, burnF, this]
theorem st_fuse {th : Th} {fu k n c : Int} {s : ByteArray} (hk : 0 ≤ k) (hk1 : ¬ k > 1) (hf : 0 ≤ fu) (he : stE fu k n th s c = 0) : fu ≠ 0 ∧ stF th fu k n s c = fu - 1 := by
  unfold stE at he
  unfold stF
  by_cases k0 : k = 0
  · rw [if_pos k0] at he ⊢
    obtain ⟨h1, h2, h3⟩ := wrE_zero.1 he
    refine ⟨h3, ?_⟩
    unfold wrF burnF imax
    rw [if_pos ⟨h1, h2⟩, if_neg h3]
    split <;> omega
  · have k1 : k = 1 := by omega
    rw [if_neg k0, if_pos k1] at he ⊢
    have h3 : fu ≠ 0 := by
      unfold flE at he
      split at he
      · cases he
      · assumption
    refine ⟨h3, ?_⟩
    unfold burnF imax
    rw [if_neg h3]
    split <;> omega
theorem diskDead_ok {Z : Glob} : FnOk P Z 16 [tInt, tSteps, tInt] [tBool] (preWf _) (fun _ => (true, ())) := by
  refine fnOk_of_safe Try.func16 (by kernel_rfl) (by kernel_rfl) ?_
  rintro ⟨(sec : Int), (l : List (CL cSt)), (n : Int), ⟨⟩⟩ ⟨_, (hl : l.length ≤ maxLen), _⟩ ⟨⟨hsec, hwl, _⟩, _⟩ X hX hz
  have hN := okSt_wf hwl
  show Safe P 16 X (Ends [tBool] (true, ())) _
  have hl2 : l.length ≤ 9223372036854775807 := by unfold maxLen at hl; omega
  have hT : tabLw2.Ok P Z := tabLw2_ok
  have loop : ∀ (j k : Nat) (th : Th) (m : As) (z : Int), k + j = l.length → okD th m z → 0 ≤ z → Safe P 16 X (Ends [tBool] (true, ())) (cDd l z th m z (k : Int)) := by
    intro j
    induction j with
    | zero =>
      intro k th m z hk hd h0
      refine go hz hX hT Try.func16 (loopDd l z th m z k) ?_
      repeat' (with_reducible (first | refine h_eq ?_ | refine h_need ?_ ?_ | refine h_dec (fun _ => ?_) (fun _ => ?_) | refine h_beq (fun _ => ?_) (fun _ => ?_) | refine h_bne (fun _ => ?_) (fun _ => ?_) | refine h_tt ?_ | refine h_ff ?_ | refine h_not ?_ | refine h_ite (fun _ => ?_) (fun _ => ?_) | refine h_both (fun _ => ?_) (fun _ => ?_) | refine h_ret ?_ | refine h_at ?_))
      all_goals first | omega | skip
      have e : ((z == 0) == (z == 0)) = true := by simp
      show Ends _ _ _ (.s (.bool ((z == 0) == (z == 0))))
      rw [e]; exact ends_b
    | succ j ih =>
      intro k th m z hk hd h0
      have hlt : k < l.length := by omega
      refine go hz hX hT Try.func16 (loopDd l z th m z k) ?_
      have hx := hN _ (List.getElem_mem hlt)
      rw [← el_lt hlt] at hx
      generalize el l (k : Int) = x at *
      have hd' := ok_st (k := stK x) (n := stN x) (c := stC x) (s := stS x) (ks := stB x) hd hx.n.2
      have next0 := ih (k + 1) _ _ _ (by omega) hd h0
      have hzf := hd.f.2
      repeat' (with_reducible (first | refine h_eq ?_ | refine h_need ?_ ?_ | refine h_dec (fun _ => ?_) (fun _ => ?_) | refine h_beq (fun _ => ?_) (fun _ => ?_) | refine h_bne (fun _ => ?_) (fun _ => ?_) | refine h_tt ?_ | refine h_ff ?_ | refine h_not ?_ | refine h_ite (fun _ => ?_) (fun _ => ?_) | refine h_both (fun _ => ?_) (fun _ => ?_) | refine h_ret ?_ | refine h_at ?_))
      all_goals first | omega | exact ⟨by omega, by omega⟩ | assumption | exact next0 | skip
      have hk1 : ¬ stK x > 1 := by assumption
      show Safe P _ X _ (cDd14 l z th m z k (stE z (stK x) (stN x) th (stS x) (stC x)) _ _ _)
      by_cases he : stE z (stK x) (stN x) th (stS x) (stC x) = 0
      · obtain ⟨f1, f2⟩ := st_fuse hx.k.1 hk1 h0 he
        have next := ih (k + 1) _ _ _ (by omega) hd' (by omega)
        have ht := hd'.t
        rw [f2] at next ⊢
        rw [he]
        generalize stT th m z (stK x) (stN x) (stB x) (stC x) = th' at *
        generalize stM th m z (stK x) (stN x) (stS x) (stC x) = m' at *
        refine go hz hX hT Try.func16 (loopDd14 l z th m z k 0 th' m' (z - 1)) ?_
        repeat' (with_reducible (first | refine h_eq ?_ | refine h_need ?_ ?_ | refine h_dec (fun _ => ?_) (fun _ => ?_) | refine h_beq (fun _ => ?_) (fun _ => ?_) | refine h_bne (fun _ => ?_) (fun _ => ?_) | refine h_tt ?_ | refine h_ff ?_ | refine h_not ?_ | refine h_ite (fun _ => ?_) (fun _ => ?_) | refine h_both (fun _ => ?_) (fun _ => ?_) | refine h_ret ?_ | refine h_at ?_))
        all_goals first | omega | exact ⟨by omega, by omega⟩ | assumption | exact hd.t | exact next | skip
        all_goals first | (exfalso; simp_all; done) | (exfalso; simp_all; omega)
      · obtain ⟨f1, f2, f3⟩ := st_same (m := m) (ks := stB x) hx.k.1 hk1 he
        rw [f1, f2, f3]
        generalize stE z (stK x) (stN x) th (stS x) (stC x) = e at *
        have hs : (z == z && (thEq th th && mEq m m)) = true := by rw [thEq_refl, mEq_refl hd.m.1]; simp
        refine go hz hX hT Try.func16 (loopDd14 l z th m z k e th m z) ?_
        repeat' (with_reducible (first | refine h_eq ?_ | refine h_need ?_ ?_ | refine h_dec (fun _ => ?_) (fun _ => ?_) | refine h_beq (fun _ => ?_) (fun _ => ?_) | refine h_bne (fun _ => ?_) (fun _ => ?_) | refine h_tt ?_ | refine h_ff ?_ | refine h_not ?_ | refine h_ite (fun _ => ?_) (fun _ => ?_) | refine h_both (fun _ => ?_) (fun _ => ?_) | refine h_ret ?_ | refine h_at ?_))
        all_goals first | omega | exact ⟨by omega, by omega⟩ | assumption | exact hd.t | exact next0 | skip
        all_goals first | (exfalso; simp_all; done) | (exfalso; simp_all; omega)
  refine go hz hX hT Try.func16 (treeDd sec l n) ?_
  have hz0 := u64_mod n
  have z0 : 0 ≤ (IntKind.u64.wrap n).tmod 20 := Int.tmod_nonneg _ hz0
  have z1 : (IntKind.u64.wrap n).tmod 20 < 20 := Int.tmod_lt_of_pos _ (by omega)
  repeat' (with_reducible (first | refine h_eq ?_ | refine h_need ?_ ?_ | refine h_dec (fun _ => ?_) (fun _ => ?_) | refine h_beq (fun _ => ?_) (fun _ => ?_) | refine h_bne (fun _ => ?_) (fun _ => ?_) | refine h_tt ?_ | refine h_ff ?_ | refine h_not ?_ | refine h_ite (fun _ => ?_) (fun _ => ?_) | refine h_both (fun _ => ?_) (fun _ => ?_) | refine h_ret ?_ | refine h_at ?_))
  all_goals first | omega | exact ends_b | exact ends_bl | exact ⟨by omega, by omega⟩ | skip
  generalize (IntKind.u64.wrap n).tmod 20 = z at *
  show Safe P _ X _ (cDd7 l z _ _ _)
  have hn := ok_new (n := sec.toNat) (by omega)
  refine go hz hX hT Try.func16 (treeDd7 l z _ _ _) ⟨rfl, rfl, ?_⟩
  have := ok_fu (n := z) hn (by omega)
  have e : fuF (-1) z = z := by unfold fuF; rw [if_neg (by omega), if_neg (by omega)]
  rw [e] at this ⊢
  exact loop l.length 0 _ _ z (by omega) this z0
end Ds
