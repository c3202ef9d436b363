/- Lemmas: D10. -/
import Derived.Test.YtjmdfmafnenjnaaPD

namespace Ds
open Go Go.Sx Go.Proofs Lf
abbrev stK (x : CL cSt) : Int := x.1
abbrev stN (x : CL cSt) : Int := x.2.1
abbrev stS (x : CL cSt) : ByteArray := x.2.2.1
abbrev stB (x : CL cSt) : List Bool := x.2.2.2.1
abbrev stC (x : CL cSt) : Int := x.2.2.2.2.1
def mLg : List AV → RM (List (CL cSt) × List Nat)
  | [.s (.ro (.typ [.int .u8, .int .i64, .str, .bools, .int .i64] l))] => .ret (l, [])
  | _ => .fail "no steps"
abbrev sumLg := sumS sLg mLg
abbrev sumWk := sumOf [] [tBool] (fun _ => []) (fun _ => (true, ()))
def tabLw : Tab := [(56, sumWk), (57, sumLg), (58, sumRd), (59, sumDo), (60, sumWh), (69, sumFu), (64, sumDe), (62, sumCo),
  (61, sumAs), (63, sumCr), (65, sumFl), (66, sumWr), (67, sumOfF)]
abbrev avSteps (l : List (CL cSt)) : AV := .s (.ro (.typ cSt l))
abbrev avI (n : Int) : AV := .s (.int .i64 n)
/-! DiskReads -/
def nsDr : List (Nat × Norm) := [(7, ⟨[], [1, 2, 7, 9], 0, []⟩)]
noncomputable def cDr (l : List (CL cSt)) (n : Int) (th : Th) (m : As) (fu i : Int) : Cfg := ⟨sl 101 [(1, avSteps l), (2, avI n), (7, .ptr 0 0), (9, avI i)], hD th m fu, hd Try.f12 7, {}⟩
theorem treeDr (sec : Int) (l : List (CL cSt)) (n : Int) : run P tabLw.sum Try.f12 nsDr (start Try.f12 [avI sec, avSteps l, avI n] []) [28] =
  Tree.ite false (Tree.ret [] (AV.s (SV.bool true))) (Tree.need (@Slf (Option (List AV)) (some [AV.s (SV.ro (Con.typ cSt l))])) (Tree.need NoObj (Tree.need (l.length ≤ (9223372036854775807 : Nat)) (Tree.both True (l.length - (300 : Nat) = (0 : Nat)) (Tree.ret [] (AV.s (SV.bool true))) (Tree.ite (decide (sec > (60 : Int))) (Tree.ret [] (AV.s (SV.bool true))) (Tree.ite (decide (sec < (1 : Int))) (Tree.ret [] (AV.s (SV.blit true))) (Tree.ite (decide (sec > (4096 : Int))) (Tree.ret [] (AV.s (SV.blit true))) (Tree.need ((0 : Int) ≤ sec) (Tree.need (sec ≤ sec) (Tree.need (sec ≤ (1073741824 : Int)) (Tree.at (Cfg.mk (sl (101 : Nat) [((1 : Nat), AV.s (SV.ro (Con.typ cSt l))), ((2 : Nat), AV.s (SV.int IntKind.i64 n)), ((7 : Nat), AV.ptr (0 : Nat) (0 : Nat)), ((9 : Nat), AV.s (SV.int IntKind.i64 (0 : Int)))]) [AObj.own [AV.vec (1 : Nat), AV.mapv (2 : Nat), AV.s (SV.int IntKind.i64 (-1 : Int))] (145 : Nat), AObj.vec (Con.typ [CK.arr IntKind.u8 (64 : Nat)] (List.replicate sec.toNat (CL.d [CK.arr IntKind.u8 (64 : Nat)]))) (169 : Nat), AObj.map (CK.arr IntKind.u8 (64 : Nat)) []] (hd Try.f12 (7 : Nat)) (Stk.mk none false (0 : Nat) [] (0 : Nat)))))))))))))) := by kernel_rfl
theorem loopDr (l : List (CL cSt)) (n : Int) (th : Th) (m : As) (fu i : Int) : run P tabLw.sum Try.f12 nsDr (cDr l n th m fu i) [28] =
  Tree.ite (decide (i < (↑l.length : Int)))
  (Tree.need ((0 : Int) ≤ i)
    (Tree.need (i < (↑l.length : Int))
      (Tree.ite (decide (stK (el l i) > (2 : Int))) (Tree.need (inI64 (i + (1 : Int))) (Tree.at (Cfg.mk (sl (101 : Nat) [((1 : Nat), AV.s (SV.ro (Con.typ cSt l))), ((2 : Nat), AV.s (SV.int IntKind.i64 n)), ((7 : Nat), AV.ptr (0 : Nat) (0 : Nat)), ((9 : Nat), AV.s (SV.int IntKind.i64 (i + (1 : Int))))]) [AObj.own [AV.vec (1 : Nat), AV.mapv (2 : Nat), AV.s (SV.int IntKind.i64 fu)] (145 : Nat), AObj.vec (Con.typ [CK.arr IntKind.u8 (64 : Nat)] th) (169 : Nat), AObj.map (CK.arr IntKind.u8 (64 : Nat)) m] (hd Try.f12 (7 : Nat)) (Stk.mk none false (0 : Nat) [] (0 : Nat)))))
        (Tree.need (@Slf (Option (List AV)) (some [AV.ptr (0 : Nat) (0 : Nat), AV.s (SV.int IntKind.i64 n)]))
          (Tree.need (@Slf (Option (List AObj)) (some [AObj.own [AV.vec (1 : Nat), AV.mapv (2 : Nat), AV.s (SV.int IntKind.i64 fu)] (145 : Nat), AObj.vec (Con.typ [CK.arr IntKind.u8 (64 : Nat)] th) (169 : Nat), AObj.map (CK.arr IntKind.u8 (64 : Nat)) m]))
            (Tree.need (okD th m fu)
              (Tree.need ((0 : Int) ≤ i)
                (Tree.need (i < (↑l.length : Int))
                  (Tree.need (@Slf (Option (List AV)) (some [AV.agg [AV.s (SV.int IntKind.u8 (stK (el l i))), AV.s (SV.int IntKind.i64 (stN (el l i))), AV.s (SV.str (stS (el l i))), AV.s (SV.ro (Con.bools (stB (el l i)))), AV.s (SV.int IntKind.i64 (stC (el l i)))], AV.ptr (0 : Nat) (0 : Nat)]))
                    (Tree.need (@Slf (Option (List AObj)) (some [AObj.own [AV.vec (1 : Nat), AV.mapv (2 : Nat), AV.s (SV.int IntKind.i64 fu)] (145 : Nat), AObj.vec (Con.typ [CK.arr IntKind.u8 (64 : Nat)] th) (169 : Nat), AObj.map (CK.arr IntKind.u8 (64 : Nat)) m]))
                      (Tree.need (okD th m fu)
                        (Tree.need (@Slf (Option (List AV)) (some [AV.ptr (0 : Nat) (0 : Nat), AV.s (SV.int IntKind.i64 n)]))
                          (Tree.need (@Slf (Option (List AObj)) (some [AObj.own [AV.vec (1 : Nat), AV.mapv (2 : Nat), AV.s (SV.int IntKind.i64 (stF th fu (stK (el l i)) (stN (el l i)) (stS (el l i)) (stC (el l i))))] (145 : Nat), AObj.vec (Con.typ [CK.arr IntKind.u8 (64 : Nat)] (stT th m fu (stK (el l i)) (stN (el l i)) (stB (el l i)) (stC (el l i)))) (169 : Nat), AObj.map (CK.arr IntKind.u8 (64 : Nat)) (stM th m fu (stK (el l i)) (stN (el l i)) (stS (el l i)) (stC (el l i)))]))
                            (Tree.need (okD (stT th m fu (stK (el l i)) (stN (el l i)) (stB (el l i)) (stC (el l i))) (stM th m fu (stK (el l i)) (stN (el l i)) (stS (el l i)) (stC (el l i))) (stF th fu (stK (el l i)) (stN (el l i)) (stS (el l i)) (stC (el l i))))
                              (Tree.ite (rdE th n != rdE (stT th m fu (stK (el l i)) (stN (el l i)) (stB (el l i)) (stC (el l i))) n) (Tree.ret [AObj.own [AV.vec (1 : Nat), AV.mapv (2 : Nat), AV.s (SV.int IntKind.i64 (stF th fu (stK (el l i)) (stN (el l i)) (stS (el l i)) (stC (el l i))))] (145 : Nat), AObj.vec (Con.typ [CK.arr IntKind.u8 (64 : Nat)] (stT th m fu (stK (el l i)) (stN (el l i)) (stB (el l i)) (stC (el l i)))) (169 : Nat), AObj.map (CK.arr IntKind.u8 (64 : Nat)) (stM th m fu (stK (el l i)) (stN (el l i)) (stS (el l i)) (stC (el l i)))] (AV.s (SV.blit false)))
                                (Tree.need ((0 : Int) ≤ i)
                                  (Tree.need (i < (↑l.length : Int))
                                    (Tree.ite (stK (el l i) == (0 : Int))
                                      (Tree.need ((0 : Int) ≤ i)
                                        (Tree.need (i < (↑l.length : Int))
                                          (Tree.ite (stN (el l i) == n) (Tree.ite (stE fu (stK (el l i)) (stN (el l i)) th (stS (el l i)) (stC (el l i)) == (0 : Int)) (Tree.need ((0 : Int) ≤ i) (Tree.need (i < (↑l.length : Int)) (Tree.need ((0 : Int) ≤ i) (Tree.need (i < (↑l.length : Int)) (Tree.ite (!decide (rdS (stT th m fu (stK (el l i)) (stN (el l i)) (stB (el l i)) (stC (el l i))) (stM th m fu (stK (el l i)) (stN (el l i)) (stS (el l i)) (stC (el l i))) n = whS (stS (el l i)) (stC (el l i)))) (Tree.ret [AObj.own [AV.vec (1 : Nat), AV.mapv (2 : Nat), AV.s (SV.int IntKind.i64 (stF th fu (stK (el l i)) (stN (el l i)) (stS (el l i)) (stC (el l i))))] (145 : Nat), AObj.vec (Con.typ [CK.arr IntKind.u8 (64 : Nat)] (stT th m fu (stK (el l i)) (stN (el l i)) (stB (el l i)) (stC (el l i)))) (169 : Nat), AObj.map (CK.arr IntKind.u8 (64 : Nat)) (stM th m fu (stK (el l i)) (stN (el l i)) (stS (el l i)) (stC (el l i)))] (AV.s (SV.blit false))) (Tree.need (inI64 (i + (1 : Int))) (Tree.at (Cfg.mk (sl (101 : Nat) [((1 : Nat), AV.s (SV.ro (Con.typ cSt l))), ((2 : Nat), AV.s (SV.int IntKind.i64 n)), ((7 : Nat), AV.ptr (0 : Nat) (0 : Nat)), ((9 : Nat), AV.s (SV.int IntKind.i64 (i + (1 : Int))))]) [AObj.own [AV.vec (1 : Nat), AV.mapv (2 : Nat), AV.s (SV.int IntKind.i64 (stF th fu (stK (el l i)) (stN (el l i)) (stS (el l i)) (stC (el l i))))] (145 : Nat), AObj.vec (Con.typ [CK.arr IntKind.u8 (64 : Nat)] (stT th m fu (stK (el l i)) (stN (el l i)) (stB (el l i)) (stC (el l i)))) (169 : Nat), AObj.map (CK.arr IntKind.u8 (64 : Nat)) (stM th m fu (stK (el l i)) (stN (el l i)) (stS (el l i)) (stC (el l i)))] (hd Try.f12 (7 : Nat)) (Stk.mk none false (0 : Nat) [] (0 : Nat)))))))))) (Tree.ite (!decide (rdS (stT th m fu (stK (el l i)) (stN (el l i)) (stB (el l i)) (stC (el l i))) (stM th m fu (stK (el l i)) (stN (el l i)) (stS (el l i)) (stC (el l i))) n = rdS th m n)) (Tree.ret [AObj.own [AV.vec (1 : Nat), AV.mapv (2 : Nat), AV.s (SV.int IntKind.i64 (stF th fu (stK (el l i)) (stN (el l i)) (stS (el l i)) (stC (el l i))))] (145 : Nat), AObj.vec (Con.typ [CK.arr IntKind.u8 (64 : Nat)] (stT th m fu (stK (el l i)) (stN (el l i)) (stB (el l i)) (stC (el l i)))) (169 : Nat), AObj.map (CK.arr IntKind.u8 (64 : Nat)) (stM th m fu (stK (el l i)) (stN (el l i)) (stS (el l i)) (stC (el l i)))] (AV.s (SV.blit false))) (Tree.need (inI64 (i + (1 : Int))) (Tree.at (Cfg.mk (sl (101 : Nat) [((1 : Nat), AV.s (SV.ro (Con.typ cSt l))), ((2 : Nat), AV.s (SV.int IntKind.i64 n)), ((7 : Nat), AV.ptr (0 : Nat) (0 : Nat)), ((9 : Nat), AV.s (SV.int IntKind.i64 (i + (1 : Int))))]) [AObj.own [AV.vec (1 : Nat), AV.mapv (2 : Nat), AV.s (SV.int IntKind.i64 (stF th fu (stK (el l i)) (stN (el l i)) (stS (el l i)) (stC (el l i))))] (145 : Nat), AObj.vec (Con.typ [CK.arr IntKind.u8 (64 : Nat)] (stT th m fu (stK (el l i)) (stN (el l i)) (stB (el l i)) (stC (el l i)))) (169 : Nat), AObj.map (CK.arr IntKind.u8 (64 : Nat)) (stM th m fu (stK (el l i)) (stN (el l i)) (stS (el l i)) (stC (el l i)))] (hd Try.f12 (7 : Nat)) (Stk.mk none false (0 : Nat) [] (0 : Nat)))))))
                                            (Tree.ite (!decide (rdS (stT th m fu (stK (el l i)) (stN (el l i)) (stB (el l i)) (stC (el l i))) (stM th m fu (stK (el l i)) (stN (el l i)) (stS (el l i)) (stC (el l i))) n = rdS th m n)) (Tree.ret [AObj.own [AV.vec (1 : Nat), AV.mapv (2 : Nat), AV.s (SV.int IntKind.i64 (stF th fu (stK (el l i)) (stN (el l i)) (stS (el l i)) (stC (el l i))))] (145 : Nat), AObj.vec (Con.typ [CK.arr IntKind.u8 (64 : Nat)] (stT th m fu (stK (el l i)) (stN (el l i)) (stB (el l i)) (stC (el l i)))) (169 : Nat), AObj.map (CK.arr IntKind.u8 (64 : Nat)) (stM th m fu (stK (el l i)) (stN (el l i)) (stS (el l i)) (stC (el l i)))] (AV.s (SV.blit false))) (Tree.need (inI64 (i + (1 : Int))) (Tree.at (Cfg.mk (sl (101 : Nat) [((1 : Nat), AV.s (SV.ro (Con.typ cSt l))), ((2 : Nat), AV.s (SV.int IntKind.i64 n)), ((7 : Nat), AV.ptr (0 : Nat) (0 : Nat)), ((9 : Nat), AV.s (SV.int IntKind.i64 (i + (1 : Int))))]) [AObj.own [AV.vec (1 : Nat), AV.mapv (2 : Nat), AV.s (SV.int IntKind.i64 (stF th fu (stK (el l i)) (stN (el l i)) (stS (el l i)) (stC (el l i))))] (145 : Nat), AObj.vec (Con.typ [CK.arr IntKind.u8 (64 : Nat)] (stT th m fu (stK (el l i)) (stN (el l i)) (stB (el l i)) (stC (el l i)))) (169 : Nat), AObj.map (CK.arr IntKind.u8 (64 : Nat)) (stM th m fu (stK (el l i)) (stN (el l i)) (stS (el l i)) (stC (el l i)))] (hd Try.f12 (7 : Nat)) (Stk.mk none false (0 : Nat) [] (0 : Nat)))))))))
                                      (Tree.ite (!decide (rdS (stT th m fu (stK (el l i)) (stN (el l i)) (stB (el l i)) (stC (el l i))) (stM th m fu (stK (el l i)) (stN (el l i)) (stS (el l i)) (stC (el l i))) n = rdS th m n)) (Tree.ret [AObj.own [AV.vec (1 : Nat), AV.mapv (2 : Nat), AV.s (SV.int IntKind.i64 (stF th fu (stK (el l i)) (stN (el l i)) (stS (el l i)) (stC (el l i))))] (145 : Nat), AObj.vec (Con.typ [CK.arr IntKind.u8 (64 : Nat)] (stT th m fu (stK (el l i)) (stN (el l i)) (stB (el l i)) (stC (el l i)))) (169 : Nat), AObj.map (CK.arr IntKind.u8 (64 : Nat)) (stM th m fu (stK (el l i)) (stN (el l i)) (stS (el l i)) (stC (el l i)))] (AV.s (SV.blit false))) (Tree.need (inI64 (i + (1 : Int))) (Tree.at (Cfg.mk (sl (101 : Nat) [((1 : Nat), AV.s (SV.ro (Con.typ cSt l))), ((2 : Nat), AV.s (SV.int IntKind.i64 n)), ((7 : Nat), AV.ptr (0 : Nat) (0 : Nat)), ((9 : Nat), AV.s (SV.int IntKind.i64 (i + (1 : Int))))]) [AObj.own [AV.vec (1 : Nat), AV.mapv (2 : Nat), AV.s (SV.int IntKind.i64 (stF th fu (stK (el l i)) (stN (el l i)) (stS (el l i)) (stC (el l i))))] (145 : Nat), AObj.vec (Con.typ [CK.arr IntKind.u8 (64 : Nat)] (stT th m fu (stK (el l i)) (stN (el l i)) (stB (el l i)) (stC (el l i)))) (169 : Nat), AObj.map (CK.arr IntKind.u8 (64 : Nat)) (stM th m fu (stK (el l i)) (stN (el l i)) (stS (el l i)) (stC (el l i)))] (hd Try.f12 (7 : Nat)) (Stk.mk none false (0 : Nat) [] (0 : Nat))))))))))))))))))))))))
  (Tree.ret [AObj.own [AV.vec (1 : Nat), AV.mapv (2 : Nat), AV.s (SV.int IntKind.i64 fu)] (145 : Nat), AObj.vec (Con.typ [CK.arr IntKind.u8 (64 : Nat)] th) (169 : Nat), AObj.map (CK.arr IntKind.u8 (64 : Nat)) m] (AV.s (SV.blit true))) := by kernel_rfl
theorem el_lt {cs : List CK} {l : List (CL cs)} {k : Nat} (h : k < l.length) : el l (k : Int) = l[k] := by
  show l.getD (k : Int).toNat _ = _
  rw [Int.toNat_natCast]; exact getD_lt h
/-! what a step leaves of a disk -/
theorem ok_new {n : Nat} (h : n ≤ 4096) : okD (List.replicate n (CL.d cS)) [] (-1) := by
  refine ⟨⟨by simpa using h, fun i hi => ?_⟩, ⟨by simp, fun p hp => by cases hp⟩, by omega, by omega⟩
  simp only [List.length_replicate] at hi
  rw [getD_lt (by simpa using hi), List.getElem_replicate]
  rfl
theorem mput_keys {m : As} (h : (m.map (·.1)).Nodup) {n : Int} {v : kS.V} : ((mput m n v).map (·.1)).Nodup := by
  unfold mput
  split
  · rw [map_keys_put]; exact h
  · rename_i hn
    have hn : ∀ p ∈ m, p.1 ≠ n := fun p hp e => hn (by simp only [mhas, List.any_eq_true, beq_iff_eq]; exact ⟨p, hp, e⟩)
    rw [List.map_append, List.nodup_append]
    refine ⟨h, by simp, fun a ha b hb => ?_⟩
    simp only [List.map_cons, List.map_nil, List.mem_singleton] at hb
    obtain ⟨p, hp, rfl⟩ := List.mem_map.1 ha
    rw [hb]; exact hn p hp
theorem ok_burn {fu : Int} (h : okF fu) : okF (burnF fu) := by
  unfold okF burnF imax at *
  split
  · omega
  · split <;> omega
theorem ok_wr {th : Th} {m : As} {fu n : Int} {s : ByteArray} (h : okD th m fu) : okD th (wrM th m fu n s) (wrF th fu n s) := by
  refine ⟨h.t, ?_, ?_⟩
  · unfold wrM
    split
    · rename_i he
      have hin : inTh th n = true ∧ s.size = 64 := by
        unfold wrE at he
        repeat' split at he
        all_goals first | (cases he; done) | exact ⟨by assumption, by assumption⟩
      obtain ⟨h0, h1⟩ := inTh_iff.1 hin.1
      refine ⟨mput_keys h.m.1, fun p hp => ?_⟩
      rcases mput_key p hp with hp | rfl
      · exact h.m.2 p hp
      · exact ⟨h0, h1, by show (strInts s).length = 64; rw [strInts_len]; exact hin.2⟩
    · exact h.m
  · unfold wrF
    split
    · exact ok_burn h.f
    · exact h.f
theorem ok_ovl {th : Th} {m : As} (h : okT th) (hm : okM th.length m) : okT (ovl th m) := by
  refine ⟨by rw [ovl_len]; exact h.1, fun i hi => ?_⟩
  rw [ovl_len] at hi
  rw [ovl_get hi]
  exact nowS_len (fu := 0) ⟨h, hm, by omega, by omega⟩ (inTh_iff.2 ⟨by omega, by omega⟩)
theorem ok_fl {th : Th} {m : As} {fu : Int} (h : okD th m fu) : okD (flT th m fu) (flM m fu) (burnF fu) := by
  unfold flT flM
  split
  · exact ⟨h.t, h.m, ok_burn h.f⟩
  · exact ⟨ok_ovl h.t h.m, ⟨by simp, fun p hp => by cases hp⟩, ok_burn h.f⟩
theorem ok_fu {th : Th} {m : As} {fu n : Int} (h : okD th m fu) (hn : n ≤ 9223372036854775807) : okD th m (fuF fu n) := by
  refine ⟨h.t, h.m, ?_⟩
  have := h.f
  unfold okF fuF at *
  split
  · exact this
  · split <;> omega
theorem crT_len {keep : List Bool} {torn cut : Int} {m : As} : ∀ (l : List Int) (k : Nat) (th : Th), (crT keep torn cut m l k th).length = th.length
  | [], k, th => rfl
  | n :: l, k, th => (crT_len l (k + 1) _).trans crStep_len
theorem crT_ok {keep : List Bool} {torn cut : Int} {m : As} (hc : 0 ≤ cut) (hc2 : cut ≤ 64) : ∀ (l : List Int) (k : Nat) (th : Th), okT th → (∀ x ∈ l, (nowA m x).length = 64 ∧ 0 ≤ x ∧ x < (th.length : Int)) → okT (crT keep torn cut m l k th)
  | [], k, th, h, _ => h
  | n :: l, k, th, h, hl => by
    obtain ⟨h1, h2, h3⟩ := hl n List.mem_cons_self
    refine crT_ok hc hc2 l (k + 1) _ (crStep_ok h h2 h3 hc hc2 h1) fun x hx => ?_
    rw [crStep_len]
    exact hl x (List.mem_cons_of_mem _ hx)
theorem okC_iff {cut : Int} : okC cut = true ↔ 0 ≤ cut ∧ cut ≤ 64 := by simp [okC]
theorem ok_cr {th : Th} {m : As} {fu torn cut : Int} {keep : List Bool} (h : okD th m fu) : okD (crH th m keep torn cut) (crM m cut) (crF fu cut) := by
  unfold crH crM crF
  split
  · rename_i hc
    obtain ⟨h0, h1⟩ := okC_iff.1 hc
    exact ⟨crT_ok h0 h1 _ _ _ h.t fun x hx => nowA_len h.m hx, ⟨by simp, fun p hp => by cases hp⟩, by omega, by omega⟩
  · exact h
theorem stT_len {th : Th} {m : As} {fu k n c : Int} {ks : List Bool} : (stT th m fu k n ks c).length = th.length := by
  unfold stT flT crH
  repeat' split
  all_goals first | rfl | exact ovl_len _ _ | exact crT_len _ _ _
theorem ok_st {th : Th} {m : As} {fu k n c : Int} {s : ByteArray} {ks : List Bool} (h : okD th m fu) (hn : n ≤ 9223372036854775807) : okD (stT th m fu k n ks c) (stM th m fu k n s c) (stF th fu k n s c) := by
  unfold stT stM stF
  repeat' split
  all_goals first | exact ok_wr h | exact ok_fl h | exact ok_fu h hn | exact ok_cr h
/-! what is read behind it -/
theorem bytes_strInts (s : ByteArray) : bytesStr (strInts s) = s := by
  obtain ⟨⟨l⟩⟩ := s
  simp only [bytesStr, strInts, List.map_map]
  congr 2
  refine (List.map_congr_left fun b _ => ?_).trans (List.map_id l)
  simp
theorem mget_put {m : As} (h : (m.map (·.1)).Nodup) {n x : Int} {v : kS.V} : mget (mput m n v) x = if x = n then some v else mget m x := by
  split
  · rename_i e
    subst e
    have hm : (x, v) ∈ mput m x v := by
      unfold mput
      split
      · rename_i hh
        simp only [mhas, List.any_eq_true, beq_iff_eq] at hh
        obtain ⟨p, hp, e⟩ := hh
        exact List.mem_map.2 ⟨p, hp, by rw [if_pos (by simpa using e)]⟩
      · exact List.mem_append_right _ List.mem_cons_self
    exact mget_of (mput_keys h) hm
  · rename_i e
    cases hg : mget m x with
    | none =>
      refine mget_none fun p hp ep => ?_
      rcases mput_key p hp with hp | rfl
      · have := mget_of h hp
        rw [ep, hg] at this
        cases this
      · exact e ep.symm
    | some u =>
      have hu := mget_mem hg
      refine mget_of (mput_keys h) (p := (x, u)) ?_
      unfold mput
      split
      · exact List.mem_map.2 ⟨_, hu, by rw [if_neg (by simpa using e)]⟩
      · exact List.mem_append_left _ hu
theorem nowS_put {th : Th} {m : As} (h : (m.map (·.1)).Nodup) {n x : Int} {v : List Int} : nowS th (mput m n v) x = if x = n then v else nowS th m x := by
  have e := mget_put h (n := n) (x := x) (v := v)
  unfold nowS
  by_cases hx : x = n
  · rw [if_pos hx] at e ⊢
    rw [e]
  · rw [if_neg hx] at e ⊢
    rw [e]
theorem nowS_ovl {th : Th} {m : As} {x : Int} (h : inTh th x = true) : nowS (ovl th m) [] x = nowS th m x := by
  obtain ⟨h0, h1⟩ := inTh_iff.1 h
  have : nowS (ovl th m) [] x = arrOf ((ovl th m).getD x.toNat (CL.d cS)) := rfl
  rw [this, ovl_get (by omega)]
  congr 1
  omega
theorem inTh_len {th th' : Th} (h : th'.length = th.length) (x : Int) : inTh th' x = inTh th x := by unfold inTh; rw [h]
theorem wrE_zero {th : Th} {fu n : Int} {s : ByteArray} : wrE th fu n s = 0 ↔ inTh th n = true ∧ s.size = 64 ∧ fu ≠ 0 := by
  unfold wrE
  constructor
  · intro h
    repeat' split at h
    all_goals first | (cases h; done) | exact ⟨by assumption, by assumption, by assumption⟩
  · rintro ⟨h1, h2, h3⟩
    simp [h1, h2, h3]
theorem rd_wr {th : Th} {m : As} {fu n x : Int} {s : ByteArray} (h : okD th m fu) : rdS th (wrM th m fu n s) x = if wrE th fu n s = 0 ∧ x = n then s else rdS th m x := by
  unfold wrM
  by_cases he : wrE th fu n s = 0
  · rw [if_pos he]
    obtain ⟨h1, h2, _⟩ := wrE_zero.1 he
    unfold rdS
    rw [nowS_put h.m.1]
    by_cases hx : x = n
    · subst hx
      rw [if_pos h1, if_pos rfl, if_pos ⟨he, rfl⟩, bytes_strInts]
    · simp only [if_neg hx, hx, and_false, if_false]
  · simp only [if_neg he, he, false_and, if_false]
theorem rd_fl {th : Th} {m : As} {fu x : Int} : rdS (flT th m fu) (flM m fu) x = rdS th m x := by
  unfold flT flM
  split
  · rfl
  · unfold rdS
    rw [inTh_len (ovl_len th m)]
    split
    · rename_i hh; rw [nowS_ovl hh]
    · rfl
theorem tabLw_ok {Z : Glob} : tabLw.Ok P Z := Tab.Ok.cons wk_ok.sum (Tab.Ok.cons (lg_ok.sum mLg) (Tab.Ok.cons (read_ok.sum mRd) (Tab.Ok.cons (do_ok.sum mDo) (Tab.Ok.cons wh_ok.sum (Tab.Ok.cons (fuse_ok.sum mFu) (Tab.Ok.cons (dead_ok.sum mAs) (Tab.Ok.cons (copy_ok.sum mAs)
  (Tab.Ok.cons (aside_ok.sum mAs) (Tab.Ok.cons (sumFrz_ok (crash_ok.sum mCr) 1 (.bools [])) (Tab.Ok.cons (flush_ok.sum mAs) (Tab.Ok.cons (write_ok.sum mWr) (Tab.Ok.cons of_ok.sum Tab.Ok.nil))))))))))))
abbrev preWf (ts : List Ty) : AL ts → List Prop := fun x => [AL.wf ts x]
theorem i64_wf {n : Int} (h : (Lit.int .i64 n).wf = true) : -9223372036854775808 ≤ n ∧ n ≤ 9223372036854775807 := by
  simp only [Lit.wf, Bool.and_eq_true, decide_eq_true_eq] at h
  exact h
theorem u8_wf {n : Int} (h : (Lit.int .u8 n).wf = true) : 0 ≤ n ∧ n ≤ 255 := by
  simp only [Lit.wf, Bool.and_eq_true, decide_eq_true_eq] at h
  exact h
structure okSt (x : CL cSt) : Prop where
  k : 0 ≤ stK x ∧ stK x ≤ 255
  n : -9223372036854775808 ≤ stN x ∧ stN x ≤ 9223372036854775807
theorem okSt_wf {l : List (CL cSt)} (h : ∀ y ∈ l, CL.wf cSt y) : ∀ x ∈ l, okSt x := fun x hx => ⟨u8_wf (h x hx).1, i64_wf (h x hx).2.1⟩
theorem diskReads_ok {Z : Glob} : FnOk P Z 12 [tInt, tSteps, tInt] [tBool] (preWf _) (fun _ => (true, ())) := by
  refine fnOk_of_safe Try.func12 (by kernel_rfl) (by kernel_rfl) ?_
  rintro ⟨(sec : Int), (l : List (CL cSt)), (n : Int), ⟨⟩⟩ ⟨_, (hl : l.length ≤ maxLen), _⟩ ⟨⟨hsec, hwl, _⟩, _⟩ X hX hz
  have hN := okSt_wf hwl
  show Safe P 12 X (Ends [tBool] (true, ())) _
  have hl2 : l.length ≤ 9223372036854775807 := by unfold maxLen at hl; omega
  have hT : tabLw.Ok P Z := tabLw_ok
  have loop : ∀ (j k : Nat) (th : Th) (m : As) (fu : Int), k + j = l.length → okD th m fu → Safe P 12 X (Ends [tBool] (true, ())) (cDr l n th m fu (k : Int)) := by
    intro j
    induction j with
    | zero =>
      intro k th m fu hk hd
      refine go hz hX hT Try.func12 (loopDr l n th m fu k) ?_
      repeat' (with_reducible (first | refine h_eq ?_ | refine h_need ?_ ?_ | refine h_dec (fun _ => ?_) (fun _ => ?_) | refine h_beq (fun _ => ?_) (fun _ => ?_) | refine h_bne (fun _ => ?_) (fun _ => ?_) | refine h_tt ?_ | refine h_ff ?_ | refine h_not ?_ | refine h_ite (fun _ => ?_) (fun _ => ?_) | refine h_both (fun _ => ?_) (fun _ => ?_) | refine h_ret ?_ | refine h_at ?_))
      all_goals first | omega | exact ends_bl
    | succ j ih =>
      intro k th m fu hk hd
      have hlt : k < l.length := by omega
      refine go hz hX hT Try.func12 (loopDr l n th m fu k) ?_
      have hx := hN _ (List.getElem_mem hlt)
      rw [← el_lt hlt] at hx
      generalize el l (k : Int) = x at *
      have hd' := ok_st (k := stK x) (n := stN x) (c := stC x) (s := stS x) (ks := stB x) hd hx.n.2
      have next := ih (k + 1) _ _ _ (by omega) hd'
      have next0 := ih (k + 1) _ _ _ (by omega) hd
      have hE : rdE (stT th m fu (stK x) (stN x) (stB x) (stC x)) n = rdE th n := by unfold rdE; rw [inTh_len stT_len]
      have same : ¬ stK x > 2 → ¬ (stK x = 0 ∧ stN x = n ∧ stE fu (stK x) (stN x) th (stS x) (stC x) = 0) → rdS (stT th m fu (stK x) (stN x) (stB x) (stC x)) (stM th m fu (stK x) (stN x) (stS x) (stC x)) n = rdS th m n := by
        intro h1 h2
        have h0 := hx.k.1
        unfold stT stM
        by_cases k0 : stK x = 0
        · rw [if_pos k0, if_pos k0, rd_wr hd, if_neg]
          rintro ⟨e1, e2⟩
          exact h2 ⟨k0, e2.symm, by unfold stE; rw [if_pos k0]; exact e1⟩
        · rw [if_neg k0, if_neg k0]
          by_cases k1 : stK x = 1
          · rw [if_pos k1, if_pos k1, rd_fl]
          · rw [if_neg k1, if_neg k1, if_pos (by omega), if_pos (by omega)]
      have wr : stK x = 0 → stN x = n → stE fu (stK x) (stN x) th (stS x) (stC x) = 0 → rdS (stT th m fu (stK x) (stN x) (stB x) (stC x)) (stM th m fu (stK x) (stN x) (stS x) (stC x)) n = whS (stS x) (stC x) := by
        intro k0 e1 e2
        unfold stE at e2
        rw [if_pos k0] at e2
        unfold stT stM
        rw [if_pos k0, if_pos k0, rd_wr hd, if_pos ⟨e2, e1.symm⟩]
      repeat' (with_reducible (first | refine h_eq ?_ | refine h_need ?_ ?_ | refine h_dec (fun _ => ?_) (fun _ => ?_) | refine h_beq (fun _ => ?_) (fun _ => ?_) | refine h_bne (fun _ => ?_) (fun _ => ?_) | refine h_tt ?_ | refine h_ff ?_ | refine h_not ?_ | refine h_ite (fun _ => ?_) (fun _ => ?_) | refine h_both (fun _ => ?_) (fun _ => ?_) | refine h_ret ?_ | refine h_at ?_))
      all_goals first | omega | exact ⟨by omega, by omega⟩ | assumption | exact next | exact next0 | (exfalso; simp_all; done) | skip
  refine go hz hX hT Try.func12 (treeDr sec l n) ?_
  repeat' (with_reducible (first | refine h_eq ?_ | refine h_need ?_ ?_ | refine h_dec (fun _ => ?_) (fun _ => ?_) | refine h_beq (fun _ => ?_) (fun _ => ?_) | refine h_bne (fun _ => ?_) (fun _ => ?_) | refine h_tt ?_ | refine h_ff ?_ | refine h_not ?_ | refine h_ite (fun _ => ?_) (fun _ => ?_) | refine h_both (fun _ => ?_) (fun _ => ?_) | refine h_ret ?_ | refine h_at ?_))
  all_goals first | omega | exact ends_b | exact ends_bl | skip
  have := loop l.length 0 (List.replicate sec.toNat (CL.d cS)) [] (-1) (by omega) (ok_new (by omega))
  exact this
end Ds
