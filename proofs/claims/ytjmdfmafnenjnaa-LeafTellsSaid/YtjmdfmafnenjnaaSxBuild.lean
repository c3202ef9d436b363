import Derived.Test.YtjmdfmafnenjnaaSxNew
/-! Composite values and slices written out. -/
namespace Go.Sx
open Go

section
variable {ρ ρ' : Nat → Value} {H H' : AHeap} {G O O' : Nat → Prop} {w w' : World} {P : Program}

theorem foldl_set (off : Nat) : ∀ (vs : List Value) (k : Nat) (cells : Array Value), off + k + vs.length ≤ cells.size →
    ((vs.zipIdx k).foldl (fun (cs : Array Value) (x : Value × Nat) => cs.setIfInBounds (off + x.2) x.1) cells).toList = cells.toList.take (off + k) ++ vs ++ cells.toList.drop (off + k + vs.length)
  | [], k, cells, _ => by simp
  | v :: vs, k, cells, h => by
    simp only [List.length_cons] at h
    simp only [List.zipIdx_cons, List.foldl_cons]
    rw [foldl_set off vs (k + 1) _ (by simp; omega)]
    have hlt : off + k < cells.toList.length := by simp; omega
    simp only [Array.toList_setIfInBounds]
    rw [← Nat.add_assoc, List.take_set, List.drop_set_of_lt (by omega)]
    have e1 : (cells.toList.take (off + k + 1)).set (off + k) v = cells.toList.take (off + k) ++ [v] := by
      rw [List.take_succ_eq_append_getElem hlt]
      rw [List.set_append_right _ _ (by simp; omega)]
      simp at hlt
      simp [Nat.min_eq_left (Nat.le_of_lt hlt)]
    rw [e1]
    simp only [List.append_assoc, List.length_cons, List.cons_append, List.nil_append]
    rw [show off + k + 1 + vs.length = off + k + (vs.length + 1) from by omega]

theorem fill_ok {place : Nat → Option (Nat × Nat)} {ev : Operand → AV} {e : Operand → Value} : ∀ (l : List (Nat × Operand)) (segs ss : List AV) (cells : Array Value), (∀ p ∈ l, DenV ρ H O w (ev p.2) (e p.2)) →
    putAll place segs (l.map fun p => (p.1, ev p.2)) = some ss → DenSegs ρ H O w segs cells.toList →
    ∃ cells', Instr.fill place cells (l.map fun p => (p.1, e p.2)) = some cells' ∧ DenSegs ρ H O w ss cells'.toList
  | [], segs, ss, cells, _, h, hd => by
    simp only [List.map_nil, putAll, Option.some.injEq] at h
    subst h
    exact ⟨cells, rfl, hd⟩
  | (i, x) :: l, segs, ss, cells, hp, h, hd => by
    simp only [List.map_cons, putAll] at h
    split at h
    · rename_i off size by_ hpl hby
      rw [Bool.cond_eq_ite] at h
      split at h
      · rename_i hc
        simp only [Bool.and_eq_true, Nat.beq_eq] at hc
        simp only [Option.bind_eq_some_iff] at h
        obtain ⟨s1, h1, h2⟩ := h
        have hx := segsQ_ok hby (hp (i, x) (by simp))
        have hlen := DenSegs_len hx
        obtain ⟨h3, h4⟩ := putSegs_ok h1 hd hx
        simp only [Array.length_toList] at hlen h3
        obtain ⟨cells', h5, h6⟩ := fill_ok l s1 ss ((e x).cells.zipIdx.foldl (fun cs (c, j) => cs.setIfInBounds (off + j) c) cells) (fun p hp' => hp p (by simp [hp'])) h2 (by
          rw [← Array.foldl_toList, Array.toList_zipIdx]
          have := foldl_set off (e x).cells.toList 0 cells (by simpa using h3)
          simp only [Nat.add_zero] at this
          rw [this]
          exact h4)
        refine ⟨cells', ?_, h6⟩
        simp only [List.map_cons, Instr.fill, hpl]
        rw [if_neg (by simp; omega)]
        exact h5
      · cases h
    · cases h

theorem mapM_places (P : Program) (w : World) : ∀ (fs : List Field), fs.all (fun f => (szOf P f.type).isSome) = true →
    (fs.mapM (m := Sem) fun f => do pure (f.offset, ← sizeOf f.type)).run P w = .ok (fs.map fun f => (f.offset, (szOf P f.type).getD 0)) w
  | [], _ => by simp
  | f :: fs, h => by
    simp only [List.all_cons, Bool.and_eq_true] at h
    obtain ⟨n, hn⟩ := Option.isSome_iff_exists.1 h.1
    have ih := mapM_places P w fs h.2
    simp only [List.mapM_cons, Sem.run_bind, run_sizeOf hn, Result.andThen_ok, Sem.run_pure, ih, List.map_cons, hn, Option.getD_some]

theorem buildR_ok {t : TypeId} {ps : Array (Nat × Operand)} {ev : Operand → AV} {e : Operand → Value} {q : Res} (h : (buildR P t (ps.toList.map fun p => (p.1, ev p.2))).eval H = some q) (hn : Needs q.need)
    (hp : ∀ p ∈ ps, DenV ρ H O w (ev p.2) (e p.2)) : ValOK P ρ H O w q (Instr.build t (ps.map fun (i, x) => (i, e x))) := by
  have hp' : ∀ p ∈ ps.toList, DenV ρ H O w (ev p.2) (e p.2) := fun p hm => hp p (Array.mem_toList_iff.1 hm)
  unfold buildR at h
  split at h
  · rename_i segs fs hz ht
    obtain ⟨i, v, hi, hv, hd⟩ := zeroOf_ok (ρ := ρ) (H := H) (O := O) (w := w) hz
    rw [Bool.cond_eq_ite] at h
    split at h
    · rename_i hall
      split at h
      · rename_i ss hss
        have hm : (fs.mapM (m := Sem) fun f => do pure (f.offset, ← sizeOf f.type)).run P w = .ok (fs.toList.map fun f => (f.offset, (szOf P f.type).getD 0)).toArray w := by
          rw [Array.mapM_eq_mapM_toList]
          simp only [Sem.run_map, mapM_places P w fs.toList hall, Result.andThen_ok]
        have hplace : (fun i => ((fs.toList.map fun (f : Field) => (f.offset, (szOf P f.type).getD 0)).toArray)[i]?) = (fun (i : Nat) => (fs[i]?).bind fun (f : Field) => (szOf P f.type).map fun n => (f.offset, n)) := by
          funext i
          simp only [List.getElem?_toArray, List.getElem?_map, Array.getElem?_toList]
          cases hf : fs[i]? with
          | none => rfl
          | some f =>
            have hmem : f ∈ fs.toList := Array.mem_toList_iff.2 (Array.mem_of_getElem? hf)
            obtain ⟨n, hn⟩ := Option.isSome_iff_exists.1 (List.all_eq_true.1 hall f hmem)
            simp [hn]
        obtain ⟨cells', h1, h2⟩ := fill_ok ps.toList segs ss v.cells hp' hss hd
        refine plain_ok h (fun _ => ⟨.agg cells', ?_, by simpa using ofSegs_ok h2⟩) hn
        rw [← hplace] at h1
        simp only [Instr.build, zeroValue, typeInfo, Sem.run_bind, run_program, Result.andThen_ok, hi, Sem.run_pure, hv, run_underlying ht, hm]
        simp only [Array.toList_map]
        erw [h1]
        rfl
      · cases h
    · cases h
  · rename_i segs n el hz ht
    obtain ⟨i, v, hi, hv, hd⟩ := zeroOf_ok (ρ := ρ) (H := H) (O := O) (w := w) hz
    split at h
    · rename_i sz hsz
      split at h
      · rename_i ss hss
        obtain ⟨cells', h1, h2⟩ := fill_ok ps.toList segs ss v.cells hp' hss hd
        refine plain_ok h (fun _ => ⟨.agg cells', ?_, by simpa using ofSegs_ok h2⟩) hn
        simp only [Instr.build, zeroValue, typeInfo, Sem.run_bind, run_program, Result.andThen_ok, hi, Sem.run_pure, hv, run_underlying ht, run_sizeOf hsz]
        simp only [Array.toList_map]
        erw [h1]
        rfl
      · cases h
    · cases h
  · cases h
end
end Go.Sx
