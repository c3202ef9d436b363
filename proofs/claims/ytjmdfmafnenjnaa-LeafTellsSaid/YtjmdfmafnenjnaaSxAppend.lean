import Derived.Test.YtjmdfmafnenjnaaSxBuild2
/-! New rows: a slice written out, append. -/
namespace Go.Sx
open Go

section
variable {ρ ρ' : Nat → Value} {H H' : AHeap} {G O O' : Nat → Prop} {w w' : World} {P : Program}

/-- A row as it is laid in a new block. -/
theorem fresh_vec (hs : Sat ρ H G w) {w1 : World} (hw : w1.heap = w.heap) (ht : w1.tape = w.tape) (hos : w1.os = w.os) (hout : w1.output = w.output) {n : Nat} (hn : H n = none) {c : Con} {e : TypeId} {cells : List Value} {cap : Nat}
    (h1 : c.n ≤ cap) (h2 : cap ≤ maxLen) (h3 : cap * c.size ≤ cells.length) (us : Nat → Nat → Value)
    (hd : ∀ i j, i < c.n → j < c.size → cells[i * c.size + j]? = some (us i j) ∧ DenS (Hot ρ H G) w (c.cell i j) (us i j)) :
    Good ρ H G w (updH H n (.vec c e)) (.vec n) (.slice (some ⟨w.heap.size, 0, none⟩) c.n cap) (w1.alloc (.cells cells.toArray e)) := by
  have hblk : ∀ b, blk (.slice (some ⟨w.heap.size, 0, none⟩) c.n cap) = some b → b = w.heap.size := by
    intro b hb
    simp only [blk] at hb
    split at hb
    · cases hb
    · simpa using hb.symm
  have st : Step ρ H (Hot ρ H G) w (fun j => if j = n then .slice (some ⟨w.heap.size, 0, none⟩) c.n cap else ρ j) (updH H n (.vec c e)) (Hot (fun j => if j = n then .slice (some ⟨w.heap.size, 0, none⟩) c.n cap else ρ j) (updH H n (.vec c e)) G) (w1.alloc (.cells cells.toArray e)) := by
    have ne : ∀ j x, H j = some x → j ≠ n := fun j x hx e => by subst e; rw [hn] at hx; cases hx
    refine ⟨fun j x hx => by simp [ne j x hx], fun j x hx => ⟨x, by simp [updH, ne j x hx, hx], fun c' e' hc => ⟨c', e', hc, rfl, rfl⟩⟩, fun b hb => ?_, fun b hb _ => by rw [alloc_old (by rw [hw]; exact hb), hw], by rw [alloc_size, hw]; omega⟩
    rcases hb with ⟨j, x, hx, h1, h2⟩ | hb
    · by_cases hj : j = n
      · subst hj
        simp only [if_true] at h2
        exact .inr (by rw [hblk b h2]; exact Nat.le_refl _)
      · simp only [updH, hj, if_false] at hx h2
        exact .inl (.inl ⟨j, x, hx, h1, h2⟩)
    · exact .inl (.inr hb)
  refine Good.fresh (root := .slice (some ⟨w.heap.size, 0, none⟩) c.n cap) hs hn hw ht hos hout hblk ?_ ?_
  · refine ⟨_, cap, rfl, h1, h2, .inr ⟨w.heap.size, 0, cells, (0, 0), us, rfl, by rw [← hw]; exact alloc_get, fun off _ h => by omega, by omega, fun i j hi hj => ?_⟩⟩
    obtain ⟨g1, g2⟩ := hd i j hi hj
    exact ⟨by rw [Nat.zero_add]; exact g1, g2.step st.hot st.heap st.size⟩
  · unfold DenV Den1
    exact ⟨rfl, .vec c e, by simp [updH], fun c' e' hc => by simp⟩

theorem buildSliceR_ok {t : TypeId} {n : Nat} {ps : Array (Nat × Operand)} {ev : Operand → AV} {e : Operand → Value} {q : Res} (h : (buildSliceR P t n (ps.toList.map fun p => (p.1, ev p.2))).eval H = some q)
    (hs : Sat ρ H G w) (hp : ∀ p ∈ ps, DenV ρ H (Hot ρ H G) w (ev p.2) (e p.2)) {base : Nat} (hb : ∀ i, i < q.new.length → H (base + i) = none) :
    ∃ v w', (Instr.buildSlice t n (ps.map fun (i, x) => (i, e x))).run P w = .ok v w' ∧ Good ρ H G w (resH H q.up base q.new) (q.r base) v w' := by
  have hp' : ∀ p ∈ ps.toList, DenV ρ H (Hot ρ H G) w (ev p.2) (e p.2) := fun p hm => hp p (Array.mem_toList_iff.1 hm)
  unfold buildSliceR at h
  split at h
  · rename_i el ht
    split at h
    · rename_i sz z hsz hz
      rw [Bool.cond_eq_ite] at h
      split at h
      · rename_i hc
        simp only [Bool.and_eq_true, Nat.beq_eq] at hc
        obtain ⟨⟨c1, c2⟩, c3⟩ := hc
        have c1 := Nat.le_of_ble_eq_true c1
        have c2 := Nat.le_of_ble_eq_true c2
        split at h
        · rename_i l hl
          simp only [Option.bind_eq_some_iff] at hl
          obtain ⟨ss, hput, hsv⟩ := hl
          rw [Bool.cond_eq_ite] at h
          split at h
          · rename_i hc
            simp only [Bool.and_eq_true, Nat.beq_eq] at hc
            obtain ⟨⟨d1, d2⟩, d3⟩ := hc
            simp only [RM.eval, Option.some.injEq] at h
            subst h
            obtain ⟨i, v, hi, hv, hd⟩ := zeroOf_ok (ρ := ρ) (H := H) (O := Hot ρ H G) (w := w) hz
            have hlz : v.cells.size = sz := by rw [← Array.length_toList, DenSegs_len hd, c3]
            have hrange : ((Array.range (n * sz)).map (v.cells[· % v.cells.size]!)).toList = rep n v.cells.toList := by rw [← hlz]; exact range_rep _ _
            obtain ⟨cells', h1, h2⟩ := fill_ok ps.toList _ ss ((Array.range (n * sz)).map (v.cells[· % v.cells.size]!)) hp' hput (by rw [hrange]; exact DenSegs_rep hd n)
            have hpts := svs_ok ss hsv h2
            have hcon := conOf_ok hpts d1 d2 d3
            have hcl : cells'.toList.length = n * sz := by rw [← hpts.1, d1]
            have hn : H base = none := by simpa using hb 0 (by simp)
            refine ⟨.slice (some ⟨w.heap.size, 0, none⟩) n n, w.alloc (.cells cells' el), ?_, ?_⟩
            · have hbig : ¬ (n * sz > 2 ^ 24) := by omega
              have key : ∀ zc : Array Value, ((Array.range (n * sz)).map (zc[· % zc.size]!)) = ((Array.range (n * sz)).map (v.cells[· % v.cells.size]!)) →
                  (match Instr.fill (fun i => some (i * sz, sz)) ((Array.range (n * sz)).map (zc[· % zc.size]!)) (ps.map fun (i, x) => (i, e x)).toList with
                    | some cells => do
                      let a ← newRow el cells
                      pure (Value.slice (some a) n n)
                    | _ => stuck "buildSlice: a part of the wrong size" : Sem Value).run P w = .ok (.slice (some ⟨w.heap.size, 0, none⟩) n n) (w.alloc (.cells cells' el)) := by
                intro zc hz
                rw [hz]
                simp only [Array.toList_map]
                erw [h1]
                simp [newRow]
              simp only [Instr.buildSlice, Sem.run_bind, run_underlying ht, Result.andThen_ok, run_sizeOf hsz, hbig, if_false]
              by_cases h0 : n * sz = 0
              · rw [if_pos h0]
                simp only [Sem.run_bind, Sem.run_pure, Result.andThen_ok]
                exact key #[] (by have : Array.range (n * sz) = #[] := by rw [h0]; rfl
                                  rw [this]; simp)
              · rw [if_neg h0]
                simp only [Sem.run_bind, Sem.run_pure, Result.andThen_ok, zeroValue, typeInfo, run_program, hi, hv]
                exact key v.cells rfl
            · simp only [resH_new]
              have := fresh_vec hs (w1 := w) rfl rfl rfl rfl hn (c := conOf (shapeOf P el) sz n l) (e := el) (cells := cells'.toList) (cap := n) (by omega) (by simp only [maxLen]; have : n ≤ n * sz := Nat.le_mul_of_pos_right n (by omega); omega) (by rw [d3, hcl]; exact Nat.le_refl _)
                (fun i j => cells'.toList.getD (i * sz + j) undef) (fun i j hi hj => by
                  rw [d2] at hi
                  rw [d3] at hj ⊢
                  obtain ⟨u, g1, g2⟩ := hcon i j hi hj
                  have hlt : i * sz + j < cells'.toList.length := (List.getElem?_eq_some_iff.1 g1).1
                  rw [get_getD _ _ undef hlt] at g1
                  simp only [Option.some.injEq] at g1
                  exact ⟨get_getD _ _ _ hlt, by rw [g1]; exact g2⟩)
              simpa [d2] using this
          · cases h
        · cases h
      · cases h
    · cases h
  · cases h

/-! ### append -/
theorem growBy_le : ∀ (r need c : Nat), c ≤ 2 * need + 192 → Builtin.growBy need r c ≤ 2 * need + 192
  | 0, need, c, h => h
  | r + 1, need, c, h => by
    unfold Builtin.growBy
    split
    · exact h
    · exact growBy_le r need _ (by omega)

theorem nextslicecap_le {need old : Nat} (h : old < need) : Builtin.nextslicecap need old ≤ 2 * need + 192 := by
  unfold Builtin.nextslicecap
  split
  · omega
  · split
    · omega
    · exact growBy_le 4 need old (by omega)

/-- What is appended, as cells. -/
structure Src (P : Program) (O : Nat → Prop) (w : World) (size : Nat) (d : Con) (v : Value) (news : List Value) : Prop where
  len : (Builtin.lenOf v).run P w = .ok d.n w
  length : news.length = d.n * size
  first : ∀ w2 : World, w2.heap = w.heap → (Builtin.firstCells size d.n v).run P w2 = .ok news.toArray w2
  one : ∀ u ∈ news, u.oneCell' = true
  den : ∀ i j, i < d.n → j < size → ∃ u, news[i * size + j]? = some u ∧ DenS O w (d.cell i j) u

theorem row_src {size : Nat} {d : Con} {v : Value} (h : RowVal O w d v) (hs : d.size = size) (h1 : 1 ≤ size) : ∃ news, Src P O w size d v news := by
  obtain ⟨a, cap, us, rfl, g1, g2, g3⟩ := h
  subst hs
  have hdm : ∀ m, m < d.n * d.size → m / d.size < d.n ∧ m % d.size < d.size := fun m hm =>
    ⟨Nat.div_lt_of_lt_mul (by rw [Nat.mul_comm]; exact hm), Nat.mod_lt _ (by omega)⟩
  refine ⟨(List.range (d.n * d.size)).map fun m => us (m / d.size) (m % d.size), ?_, by simp, fun w2 hw2 => ?_, fun u hu => ?_, fun i j hi hj => ?_⟩
  · simp [Builtin.lenOf]
  · rcases Nat.eq_zero_or_pos d.n with h0 | h0
    · rw [h0]
      cases a <;> simp [Builtin.firstCells, loadCells, loadCellsFrom]
    · obtain ⟨b, o, rfl, _, hc⟩ := g3 h0
      simp only [Builtin.firstCells]
      refine run_loadCells w2 _ _ (fun m => us (m / d.size) (m % d.size)) (fun m hm => ?_)
      obtain ⟨k1, k2⟩ := hdm m hm
      rw [add_zero_spot]
      have := (hc _ _ k1 k2).1
      rw [Nat.add_assoc, show m / d.size * d.size + m % d.size = m from by rw [Nat.mul_comm]; exact Nat.div_add_mod m d.size] at this
      rw [← this]
      simp [World.cell?, hw2]
  · obtain ⟨m, hm, rfl⟩ := List.mem_map.1 hu
    have hm : m < d.n * d.size := List.mem_range.1 hm
    obtain ⟨k1, k2⟩ := hdm m hm
    obtain ⟨b, o, rfl, _, hc⟩ := g3 (Nat.lt_of_le_of_lt (Nat.zero_le _) k1)
    exact (hc _ _ k1 k2).2.one
  · have hlt : i * d.size + j < d.n * d.size := by
      have : (i + 1) * d.size ≤ d.n * d.size := Nat.mul_le_mul_right _ (by omega)
      rw [Nat.succ_mul] at this
      omega
    obtain ⟨b, o, rfl, _, hc⟩ := g3 (by omega)
    have e1 : (i * d.size + j) / d.size = i := by rw [Nat.mul_comm, Nat.mul_add_div (by omega), Nat.div_eq_of_lt hj]; rfl
    have e2 : (i * d.size + j) % d.size = j := by rw [Nat.mul_comm, Nat.mul_add_mod, Nat.mod_eq_of_lt hj]
    exact ⟨us i j, by rw [List.getElem?_map, List.getElem?_range hlt]; simp [e1, e2], (hc i j hi hj).2⟩

theorem str_src {s : ByteArray} : ∃ news, Src P O w 1 (.ints .u8 (s.data.toList.map fun b => (b.toNat : Int))) (.string s) news := by
  refine ⟨s.data.toList.map fun b => .int .u8 b.toNat, ?_, by simp [Con.n], fun w2 hw2 => ?_, fun u hu => ?_, fun i j hi hj => ?_⟩
  · simp [Builtin.lenOf, Con.n]
  · simp only [Builtin.firstCells, Con.n, Sem.run_pure, List.length_map]
    congr 1
    have h : s.data.toList.length = s.size := Array.length_toList
    rw [h, ByteArray.extract_zero_size]
    apply Array.toList_inj.1
    rw [Array.toList_map]
  · obtain ⟨b, _, rfl⟩ := List.mem_map.1 hu
    rfl
  · simp only [Con.n, List.length_map] at hi
    obtain rfl : j = 0 := by omega
    have hi' : i < s.data.toList.length := hi
    refine ⟨.int .u8 (s.data.toList[i].toNat), by rw [Nat.mul_one, Nat.add_zero, List.getElem?_map, List.getElem?_eq_getElem hi']; rfl, ?_⟩
    simp only [Con.cell]
    have : (s.data.toList.map fun b => ((b.toNat : Nat) : Int)).getD i 0 = (s.data.toList[i].toNat : Int) := by
      rw [List.getD, List.getElem?_map, List.getElem?_eq_getElem hi']
      rfl
    rw [this]
    exact .int _ _
end
end Go.Sx
