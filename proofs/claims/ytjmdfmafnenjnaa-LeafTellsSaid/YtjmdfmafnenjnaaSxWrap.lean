import Derived.Test.YtjmdfmafnenjnaaSxLoop
import Derived.ProofKit
import Derived.Carry
import Derived.OpenShut
import Derived.Deep.DeepHandedRow
/-! A contract that says 'true', carried to what a row asks. -/
namespace Go.Sx
open Go Go.RowKit Go.ChangeShapes Go.WideShapes Go.ChangeAt

section
variable {H : Type} {enc : TypeId × Value → H} {P : Program} {W W' : World} {Z : Glob} {base : Nat} {ρ : Nat → Value} {Hh : AHeap} {O : Nat → Prop}

/-- Nothing that was there has turned. -/
structure Same (W W' : World) : Prop where
  os : W'.os = W.os
  output : W'.output = W.output
  heap : ∀ b, b < W.heap.size → W'.heap[b]? = W.heap[b]?

theorem Same.at (h : Same W W') {p : MemPlace} (hp : p.block < W.heap.size) : W.sameAt W' p := by
  have e := h.heap p.block hp
  cases p with
  | cell b o => exact (cell?_same (o := o) e)
  | map b => exact e

theorem trodAll_same {ts : List TypeId} (hl : laidOutB P = true) (hp : ts.all (fun t => P.readableRec t && decide (t < P.types.size)) = true) {sp' : Nat → Bool} (hs : Same W W') : ∀ {vs : List Value} {ds : List (DataW H)} {ps : List MemPlace},
    DataW.TrodAll enc P W 0 (fun _ => true) true ts vs ds ps → (∀ p ∈ ps, p.block < W.heap.size) → (∀ p ∈ ps, sp' p.block = true) → DataW.TrodAll enc P W' 0 sp' true ts vs ds ps := by
  induction ts with
  | nil => intro vs ds ps h _ _; cases vs <;> cases ds <;> simp [DataW.TrodAll] at h ⊢; exact h
  | cons t ts ih =>
    intro vs ds ps h hlt hsp
    simp only [List.all_cons, Bool.and_eq_true, decide_eq_true_eq] at hp
    obtain ⟨v, vs', d, ds', p, q, rfl, rfl, rfl, h1, h2⟩ := trodAll_cons h
    refine ⟨p, q, ?_, ih hp.2 h2 (fun x hx => hlt x (by simp [hx])) (fun x hx => hsp x (by simp [hx])), rfl⟩
    exact WideElems.Trod_stays hl hp.1.1 hp.1.2 h1 (fun x hx => hs.at (hlt x (by simp [hx]))) (fun x hx => hsp x (by simp [hx]))

theorem kept_same (hs : Same W W') (may : MemPlace → Prop) : W.keptBut W' may := by
  refine ⟨hs.os, hs.output, fun i hi => ?_⟩
  rw [hs.heap i hi, Array.getElem?_eq_getElem hi]
  cases h : W.heap[i] with
  | cells c t fr => exact ⟨rfl, rfl, rfl, fun _ _ => rfl⟩
  | map es clock => exact .inr ⟨rfl, rfl⟩
  | _ => rfl

/-- What a law's row owes behind the call. -/
theorem post_true {fn : Func} {s : ChangeSpec} {apart fresh handsOn : Bool} {args : Array Value} {ds gs : List (DataW H)} {before : List MemPlace} {tb : TypeId}
    (hl : laidOutB P = true) (hp : fn.params.toList.all (fun t => P.readableRec t && decide (t < P.types.size)) = true)
    (hr : fn.resultTypes = #[tb]) (hb : P.underlying tb = some .bool) (hv : s.vars = [])
    (hs : s.fn H ds = { results := [.lit (.bool true)], args := ds })
    (hW : DataW.Whole enc P fn.params.toList s.vars apart W args.toList ds gs before) (hsame : Same W W') :
    s.post enc P fn apart fresh handsOn false W args (.bool true) W' := by
  have hW' := hW
  obtain ⟨p, q, h1, h2, rfl, _, _⟩ := hW
  rw [hv] at h2
  obtain ⟨rfl, rfl⟩ := trodVars_none h2
  have hlt : ∀ x ∈ p, x.block < W.heap.size := fun x hx => hW'.lt x (by simp [hx])
  refine ⟨ds, [], p ++ [], [], p, [], hW', ?_, ?_, ?_, kept_same hsame _, fun h => by cases h⟩
  · rw [List.append_nil, hs, hr]
    exact trodAll_mk1 (shut_bool hb true)
  · rw [List.append_nil, hs]
    exact trodAll_same hl hp hsame h1 hlt (fun x hx => by simpa using hlt x hx)
  · rw [hv, List.append_nil, hs]
    rfl

/-- A contract that says 'true': the call's end. -/
theorem calls_true {f : FuncId} {ts : List Ty} (h : FnOk P Z f ts [.b .bool] (fun _ => []) (fun _ => (true, ()))) (hz : Z.ok W) {x : AL ts} {vs : List Value}
    (hd : DenL (fun _ => undef) (fun _ => none) (fun _ => False) W (AL.av ts x) vs) : Calls P f vs.toArray W fun e W' => e = .returned (.bool true) ∧ Same W W' := by
  have e0 : Hot (fun _ => undef) (fun _ => none) (fun _ => False) = fun _ => False := by
    funext b
    refine propext ⟨fun h => ?_, False.elim⟩
    rcases h with ⟨id, o, ho, _⟩ | h
    · cases ho
    · exact h
  refine (h x (AL.okL hd) trivial (fun _ => False) W vs (fun _ h => h.elim) hz (by rw [e0]; exact hd)).mono ?_
  rintro e W' ⟨v, rfl, ρ', _, h2, _, h4⟩
  have h5 : DenV ρ' (lk []) (Hot ρ' (lk []) fun _ => False) W' (.s (.bool true)) v := h2
  have h6 := DenS_of_V (by simp) h5
  cases h6
  exact ⟨rfl, h4.os, h4.output, fun b hb => h4.heap b hb (fun ⟨id, o, ho, _⟩ => by cases ho)⟩

theorem den_int {t : TypeId} {k : IntKind} {v : Value} {d : DataW H} {ps : List MemPlace} (ht : P.underlying t = some (.int k)) (hval : Value.okWide P W .any base t v) (hd : DataW.Trod enc P W 0 (fun _ => true) true t v d ps) :
    ∃ n : Int, DenV ρ Hh O W (.s (.int k n)) v := by
  obtain ⟨n, rfl, _, _, _⟩ := open_int ht hval hd
  exact ⟨n, DenV_s (.int k n)⟩

theorem den_ints {t e : TypeId} {k : IntKind} {v : Value} {d : DataW H} {ps : List MemPlace} (ht : P.underlying t = some (.slice e)) (he : P.underlying e = some (.int k)) (hc : P.cellsOf e = 1) (hval : Value.okWide P W .any base t v)
    (hd : DataW.Trod enc P W 0 (fun _ => true) true t v d ps) : ∃ zs : List Int, DenV ρ Hh (fun _ => False) W (.s (.ro (.ints k zs))) v := by
  obtain ⟨a, len, cap, rfl⟩ := okWide_slice ht hval
  obtain ⟨fuel, hf⟩ := hd
  rcases open_ints ht he hc hf with ⟨hcs, _⟩ | ⟨a', len', cap', zs, hcs, _, hl, hm, hz, _, hcell, _⟩
  · simp only [Value.cells, List.cons.injEq, and_true] at hcs
    cases hcs
    exact ⟨[], DenV_s (.ro _ none 0 (fun _ _ => undef) 0 0 (Nat.le_refl _) (Nat.zero_le _) (fun h => by simp [Con.n] at h) (fun i j hi hj => by simp [Con.n] at hi) (fun i j hi hj => by simp [Con.n] at hi))⟩
  · simp only [Value.cells, List.cons.injEq, and_true] at hcs
    cases hcs
    simp only [if_true] at hz
    have hn : (Con.ints k (zs.take len)).n = len := by simp [Con.n]; omega
    refine ⟨zs.take len, DenV_s ?_⟩
    rcases Nat.eq_zero_or_pos len with h0 | h0
    · subst h0
      exact .ro (.ints k (zs.take 0)) (some a') cap (fun _ _ => undef) 0 0 (Nat.zero_le _) hm (fun h => by simp [Con.n] at h) (fun i j hi hj => by simp [Con.n] at hi) (fun i j hi hj => by simp [Con.n] at hi)
    · obtain ⟨b, o, rfl, hc⟩ := ints_at hcell (by omega)
      have key := DenS.ro (O := fun _ => False) (w := W) (.ints k (zs.take len)) (some ⟨b, o, none⟩) cap (fun j _ => .int k (zs.getD j 0)) b o (by omega) hm (fun _ => ⟨rfl, fun h => h, ?_⟩) (fun j l hj hl' => ?_) (fun j l hj hl' => ?_)
      · rw [hn] at key
        exact key
      · have h1 := hc 0 (by omega)
        rcases Nat.lt_or_ge b W.heap.size with h2 | h2
        · exact h2
        · simp [World.cell?, Array.getElem?_eq_none h2] at h1
      · rw [hn] at hj
        simp only [Con.size] at hl' ⊢
        obtain rfl : l = 0 := by omega
        rw [Nat.mul_one, Nat.add_zero]
        exact hc j (by omega)
      · rw [hn] at hj
        show DenS _ _ (.int k ((zs.take len).getD j 0)) _
        rw [show (zs.take len).getD j 0 = zs.getD j 0 from by simp [List.getD, hj]]
        exact .int k _
end
end Go.Sx
