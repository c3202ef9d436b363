import Derived.Test.YtjmdfmafnenjnaaSxAppend2
import Derived.Test.YtjmdfmafnenjnaaSxMapOp
/-! copy, clear, make. -/
namespace Go.Sx
open Go

section
variable {ρ ρ' : Nat → Value} {H H' : AHeap} {G O O' : Nat → Prop} {w w' : World} {P : Program}

/-- A source, up to as many elements as are asked for. -/
structure SrcK (P : Program) (O : Nat → Prop) (w : World) (size k : Nat) (d : Con) (v : Value) (news : List Value) : Prop where
  length : news.length = k * size
  first : (Builtin.firstCells size k v).run P w = .ok news.toArray w
  one : ∀ u ∈ news, u.oneCell' = true
  den : ∀ i j, i < k → j < size → ∃ u, news[i * size + j]? = some u ∧ DenS O w (d.cell i j) u

theorem row_srcK {size k : Nat} {d : Con} {v : Value} (h : RowVal O w d v) (hs : d.size = size) (h1 : 1 ≤ size) (hk : k ≤ d.n) : ∃ news, SrcK P O w size k d v news := by
  obtain ⟨a, cap, us, rfl, g1, g2, g3⟩ := h
  have hn : (conSub d 0 k).n = k := by rw [con_n_sub d (Nat.zero_le _) hk]; omega
  have hsz := con_size_sub d 0 k
  have hcell : ∀ i j, i < k → (conSub d 0 k).cell i j = d.cell i j := fun i j hi => by rw [con_cell_sub d j (by omega), Nat.zero_add]
  have hr : RowVal O w (conSub d 0 k) (.slice a k cap) := by
    refine ⟨a, cap, us, by rw [hn], by rw [hn]; omega, g2, fun h0 => ?_⟩
    rw [hn] at h0
    obtain ⟨b, o, e1, e2, e3⟩ := g3 (by omega)
    refine ⟨b, o, e1, e2, fun i j hi hj => ?_⟩
    rw [hn] at hi
    rw [hsz] at hj ⊢
    rw [hcell i j hi]
    exact e3 i j (by omega) hj
  obtain ⟨news, src⟩ := row_src (P := P) hr (by rw [hsz]; exact hs) h1
  refine ⟨news, by rw [src.length, hn], ?_, src.one, fun i j hi hj => ?_⟩
  · have := src.first w rfl
    rw [hn] at this
    rw [← this]
    cases a <;> rfl
  · obtain ⟨u, e1, e2⟩ := src.den i j (by rw [hn]; exact hi) hj
    rw [hcell i j hi] at e2
    exact ⟨u, e1, e2⟩

theorem str_srcK {s : ByteArray} {k : Nat} (hk : k ≤ s.data.toList.length) : ∃ news, SrcK P O w 1 k (.ints .u8 (s.data.toList.map fun b => (b.toNat : Int))) (.string s) news := by
  refine ⟨(s.data.toList.take k).map fun b => .int .u8 b.toNat, by rw [List.length_map, List.length_take]; omega, ?_, fun u hu => ?_, fun i j hi hj => ?_⟩
  · simp only [Builtin.firstCells, Sem.run_pure]
    congr 1
    apply Array.toList_inj.1
    rw [Array.toList_map]
    simp [ByteArray.data_extract]
  · obtain ⟨b, _, rfl⟩ := List.mem_map.1 hu
    rfl
  · obtain rfl : j = 0 := by omega
    have hi' : i < s.data.toList.length := by omega
    refine ⟨.int .u8 (s.data.toList[i].toNat), by rw [Nat.mul_one, Nat.add_zero, List.getElem?_map, List.getElem?_take, if_pos hi, List.getElem?_eq_getElem hi']; rfl, ?_⟩
    simp only [Con.cell]
    have : (s.data.toList.map fun b => ((b.toNat : Nat) : Int)).getD i 0 = (s.data.toList[i].toNat : Int) := by
      rw [List.getD, List.getElem?_map, List.getElem?_eq_getElem hi']
      rfl
    rw [this]
    exact .int _ _

theorem srcOf_okK {sh : Shape} {size : Nat} {x : AV} {k : Con → Option Nat → RM Res} {v : Value} {q : Res} (h : (srcOf sh size x k).eval H = some q) (hs : Sat ρ H G w) (hd : DenV ρ H (Hot ρ H G) w x v) (h1 : 1 ≤ size) :
    ∃ c idy, (k c idy).eval H = some q ∧ (c.size = size → (Builtin.lenOf v).run P w = .ok c.n w ∧ ∀ m, m ≤ c.n → ∃ news, SrcK P (Hot ρ H G) w size m c v news) := by
  unfold srcOf at h
  split at h
  · rename_i s
    obtain rfl := str_den hd
    refine ⟨_, _, h, fun hsz => ?_⟩
    simp only [Con.size] at hsz
    subst hsz
    refine ⟨by simp [Builtin.lenOf, Con.n], fun m hm => str_srcK (by simpa [Con.n] using hm)⟩
  · obtain ⟨c, idy, h2, h3⟩ := rowOf_ok h hs hd
    refine ⟨c, idy, h2, fun hsz => ⟨?_, fun m hm => row_srcK h3 hsz h1 hm⟩⟩
    obtain ⟨a, cap, us, rfl, _⟩ := h3
    simp [Builtin.lenOf]

theorem run_copy {t t' ty e : TypeId} {sz : Nat} {a : Option Addr} {n cap m : Nat} {vy : Value} {news : List Value} (ht : P.underlying t = some (.slice e)) (hs : szOf P e = some sz)
    (hlen : (Builtin.lenOf vy).run P w = .ok m w) (hfirst : (Builtin.firstCells sz (min m n) vy).run P w = .ok news.toArray w)
    (hst : ∀ x, a = some x → (storeCells x news 0).run P w = .ok () w') (hno : a = none → w' = w) :
    (Builtin.copy_ #[t, t'] ty #[.slice a n cap, vy]).run P w = .ok (.int .i64 ((min m n : Nat) : Int)) w' := by
  have hf : (Builtin.firstCells sz (Nat.min m n) vy).run P w = .ok news.toArray w := hfirst
  cases a with
  | none =>
    rw [hno rfl]
    simp [Builtin.copy_, run_underlying ht, run_sizeOf hs, hlen, hf]
    rfl
  | some x =>
    have := hst x rfl
    simp [Builtin.copy_, run_underlying ht, run_sizeOf hs, hlen, hf, this]
    rfl

theorem copyR_ok {t t' ty : TypeId} {x y : AV} {vx vy : Value} {q : Res} (h : (copyR P t x y).eval H = some q) (hs : Sat ρ H G w)
    (hx : DenV ρ H (Hot ρ H G) w x vx) (hy : DenV ρ H (Hot ρ H G) w y vy) :
    ∃ v w', (Builtin.copy_ #[t, t'] ty #[vx, vy]).run P w = .ok v w' ∧ ∀ base, Good ρ H G w (resH H q.up base q.new) (q.r base) v w' := by
  unfold copyR at h
  split at h
  · rename_i e ht
    split at h
    · rename_i sz hsz
      rw [Bool.cond_eq_ite] at h
      split at h
      · rename_i h1
        have h1 := Nat.le_of_ble_eq_true h1
        obtain ⟨d, idy, h2, hsrc⟩ := srcOf_okK (P := P) h hs hy h1
        rw [Bool.cond_eq_ite] at h2
        split at h2
        · rename_i hds
          have hds : d.size = sz := by simpa using hds
          obtain ⟨hlen, hnews⟩ := hsrc hds
          split at h2
          · -- vec
            rename_i id
            simp only [RM.eval] at h2
            split at h2
            · rename_i c e' ho
              rw [Bool.cond_eq_ite] at h2
              split at h2
              · rename_i hcs
                have hcs : c.size = sz := by simpa using hcs
                simp only [RM.eval, Option.some.injEq] at h2
                subst h2
                obtain ⟨news, src⟩ := hnews (min d.n c.n) (Nat.min_le_left _ _)
                obtain ⟨a, cap, rfl, hr, hle, _⟩ := vec_val hs ho hx
                have hobj := hs.obj id _ ho
                rw [hr] at hobj
                obtain ⟨a2, cap2, g1, _, _, g4⟩ := hobj
                cases g1
                obtain ⟨w', k1, k2, k3⟩ := vec_over (P := P) hs ho (lo := 0) (k := min d.n c.n) (d := d) (by omega) (by omega) (by omega) (news := news) (by rw [src.length, hcs]) src.one (fun i' j' hi' hj' => by rw [hcs] at *; exact src.den i' j' hi' hj')
                refine ⟨_, w', run_copy ht hsz hlen src.first (fun x hx => ?_) (fun hx => ?_), fun base => ?_⟩
                · refine k1 a cap _ hr ?_
                  subst hx
                  rcases g4 with g4 | ⟨b, o, _, _, _, g5, _⟩
                  · exact .inl (by omega)
                  · cases g5
                    exact .inr (by simp [add_zero_spot])
                · refine k2 ?_
                  subst hx
                  rcases g4 with g4 | ⟨b, o, _, _, _, g5, _⟩
                  · omega
                  · cases g5
                · simp only [resH_up]
                  exact k3 _ _ (fun w2 => DenV_s (.int _ _))
              · cases h2
            · cases h2
          · -- part
            rename_i id lo n
            simp only [RM.eval] at h2
            split at h2
            · rename_i c e' ho
              rw [Bool.cond_eq_ite] at h2
              split at h2
              · rename_i hcs
                have hcs : c.size = sz := by simpa using hcs
                simp only [RM.eval, Option.some.injEq] at h2
                subst h2
                obtain ⟨news, src⟩ := hnews (min d.n n) (Nat.min_le_left _ _)
                obtain ⟨g0, a, cap, a', g1, g2, g3, rfl, g4, g5⟩ := part_val hs ho hx
                obtain ⟨w', k1, k2, k3⟩ := vec_over (P := P) hs ho (lo := lo) (k := min d.n n) (d := d) (by omega) (by omega) (by omega) (news := news) (by rw [src.length, hcs]) src.one (fun i' j' hi' hj' => by rw [hcs] at *; exact src.den i' j' hi' hj')
                refine ⟨_, w', run_copy ht hsz hlen src.first (fun x hx => ?_) (fun hx => ?_), fun base => ?_⟩
                · refine k1 a cap _ g1 ?_
                  by_cases hne : cap = lo
                  · exact .inl (by omega)
                  · exact .inr (by rw [← g4 hne]; exact hx)
                · refine k2 ?_
                  by_cases hne : cap = lo
                  · omega
                  · rw [g4 hne] at hx
                    obtain ⟨b, o, rfl⟩ := g5 (by omega)
                    cases hx
                · simp only [resH_up]
                  exact k3 _ _ (fun w2 => DenV_s (.int _ _))
              · cases h2
            · cases h2
          · cases h2
        · cases h2
      · cases h
    · cases h
  · cases h

/-! ### zero elements -/
theorem zeroCon_n (sh : Shape) (n : Nat) : (zeroCon sh n).n = n := by cases sh <;> simp [zeroCon, Con.n]
theorem zeroCon_size (sh : Shape) (n m : Nat) : (zeroCon sh n).size = (zeroCon sh m).size := by cases sh <;> rfl
theorem zeroCon_cell (sh : Shape) {n i : Nat} (j : Nat) (hi : i < n) : (zeroCon sh n).cell i j = (zeroCon sh 1).cell 0 j := by
  cases sh <;> simp only [zeroCon, Con.cell, List.getD, List.getElem?_replicate, hi, Nat.zero_lt_one, if_true]

theorem svIs_ok {x : SV} {v : Value} (h : svIs x v = true) : DenS O w x v := by
  unfold svIs at h
  split at h
  · simp only [Bool.and_eq_true, beq_iff_eq] at h
    obtain ⟨h1, rfl⟩ := h
    obtain rfl := kindEq_eq h1
    exact .int _ _
  · simp only [beq_iff_eq] at h
    subst h
    exact .bool _
  · rename_i s s'
    simp only [Bool.and_eq_true, Nat.beq_eq] at h
    have e : ∀ t : ByteArray, t.size = 0 → t = ByteArray.empty := fun t ht => by
      cases t with
      | mk d =>
        have : d = #[] := Array.size_eq_zero_iff.1 ht
        subst this
        rfl
    rw [e s h.1, e s' h.2]
    exact .str _
  · rename_i c
    have h : c.n = 0 := by simpa using h
    have := DenS.ro (O := O) (w := w) c none 0 (fun _ _ => undef) 0 0 (by omega) (Nat.zero_le _) (fun h => by omega) (fun i j hi hj => by omega) (fun i j hi hj => by omega)
    rwa [h] at this
  · cases h

theorem zeroFits_ok {sh : Shape} {z : List Value} (h : zeroFits sh z = true) (n : Nat) : (zeroCon sh n).size = z.length ∧ ∀ i j, i < n → j < z.length → ∃ u, z[j]? = some u ∧ DenS O w ((zeroCon sh n).cell i j) u := by
  simp only [zeroFits, Bool.and_eq_true, Nat.beq_eq, List.all_eq_true, List.mem_range] at h
  refine ⟨by rw [zeroCon_size sh n 1]; exact h.1, fun i j hi hj => ⟨z[j], List.getElem?_eq_getElem hj, ?_⟩⟩
  rw [zeroCon_cell sh j hi]
  have := svIs_ok (O := O) (w := w) (h.2 j hj)
  simpa [List.getD, List.getElem?_eq_getElem hj] using this

theorem zeroCells_get {z : Array Value} (n : Nat) {i j : Nat} (hi : i < n) (hj : j < z.size) : (Builtin.zeroCells z n).toList[i * z.size + j]? = z.toList[j]? := by
  have hlt : i * z.size + j < n * z.size := by
    have : (i + 1) * z.size ≤ n * z.size := Nat.mul_le_mul_right _ (by omega)
    rw [Nat.succ_mul] at this
    omega
  have e2 : (i * z.size + j) % z.size = j := by rw [Nat.mul_comm, Nat.mul_add_mod, Nat.mod_eq_of_lt hj]
  simp [Builtin.zeroCells, hlt, e2, hj]

theorem zero_one {z : List Value} {sh : Shape} (h : zeroFits sh z = true) : ∀ u ∈ z, u.oneCell' = true := by
  intro u hu
  obtain ⟨j, hj, rfl⟩ := List.getElem_of_mem hu
  obtain ⟨_, h2⟩ := zeroFits_ok (O := fun _ => False) (w := default) h 1
  obtain ⟨u, e1, e2⟩ := h2 0 j (by omega) hj
  rw [List.getElem?_eq_getElem hj] at e1
  cases e1
  exact e2.one

theorem zeroCells_one {z : Array Value} {sh : Shape} (h : zeroFits sh z.toList = true) (n : Nat) : ∀ u ∈ (Builtin.zeroCells z n).toList, u.oneCell' = true := by
  intro u hu
  simp only [Builtin.zeroCells, Array.toList_map, Array.toList_range, List.mem_map, List.mem_range] at hu
  obtain ⟨m, hm, rfl⟩ := hu
  have hp : 0 < z.size := by
    rcases Nat.eq_zero_or_pos z.size with h0 | h0
    · rw [h0] at hm; omega
    · exact h0
  have hlt : m % z.size < z.size := Nat.mod_lt _ hp
  rw [getElem!_pos z (m % z.size) hlt]
  exact zero_one h _ (Array.mem_toList_iff.2 (Array.getElem_mem hlt))

theorem run_clear {t e ty : TypeId} {z : Value} (ht : P.underlying t = some (.slice e)) (hz : ∀ w, (zeroValue e).run P w = .ok z w) {a : Option Addr} {n cap : Nat} (hst : ∀ x, a = some x → (storeCells x (Builtin.zeroCells z.cells n).toList 0).run P w = .ok () w')
    (hno : (a = none ∨ n = 0) → w' = w) : (Builtin.clear_ #[t] ty #[.slice a n cap]).run P w = .ok (.tuple #[]) w' := by
  cases a with
  | none =>
    rw [hno (.inl rfl)]
    simp [Builtin.clear_, run_underlying ht]
  | some x =>
    cases n with
    | zero =>
      rw [hno (.inr rfl)]
      simp [Builtin.clear_, run_underlying ht]
    | succ n =>
      have := hst x rfl
      simp [Builtin.clear_, run_underlying ht, hz, this]

theorem clearR_ok {t ty : TypeId} {ts : List TypeId} {x : AV} {vx : Value} {q : Res} (h : (clearR P t x).eval H = some q) (hs : Sat ρ H G w) (hx : DenV ρ H (Hot ρ H G) w x vx) :
    ∃ v w', (Builtin.clear_ (t :: ts).toArray ty #[vx]).run P w = .ok v w' ∧ ∀ base, Good ρ H G w (resH H q.up base q.new) (q.r base) v w' := by
  have hts : (Builtin.clear_ (t :: ts).toArray ty #[vx]) = (Builtin.clear_ #[t] ty #[vx]) := by
    simp [Builtin.clear_]
  rw [hts]
  unfold clearR at h
  split at h
  · rename_i e id lo n ht
    split at h
    · rename_i i hi
      rw [Bool.cond_eq_ite] at h
      split at h
      · rename_i hc
        simp only [Bool.and_eq_true] at hc
        obtain ⟨c1, c2⟩ := hc
        have c1 := Nat.le_of_ble_eq_true c1
        obtain ⟨z, hz, hzf, hzs⟩ : ∃ z, i.zero = some z ∧ zeroFits (shapeOf P e) z.cells.toList = true ∧ z.cells.size = i.size := by
          cases hz : i.zero with
          | none => simp [hz] at c2
          | some z =>
            simp only [hz, Option.any_some, Bool.and_eq_true, beq_iff_eq] at c2
            exact ⟨z, rfl, c2.1, c2.2⟩
        have hzv : ∀ w, (zeroValue e).run P w = .ok z w := fun w => by simp [zeroValue, typeInfo, hi, hz]
        simp only [RM.eval] at h
        split at h
        · rename_i c e' ho
          rw [Bool.cond_eq_ite] at h
          split at h
          · rename_i hcs
            have hcs : c.size = i.size := by simpa using hcs
            simp only [RM.eval, Option.some.injEq] at h
            subst h
            obtain ⟨g0, a, cap, a', g1, g2, g3, rfl, g4, g5⟩ := part_val hs ho hx
            obtain ⟨y1, y2⟩ := zeroFits_ok (O := Hot ρ H G) (w := w) hzf n
            obtain ⟨w', k1, k2, k3⟩ := vec_over (P := P) hs ho (lo := lo) (k := n) (d := zeroCon (shapeOf P e) n) (by omega) (by rw [zeroCon_n]; exact Nat.le_refl _) (by omega) (news := (Builtin.zeroCells z.cells n).toList) (by rw [Array.length_toList, size_zeroCells, hzs, hcs]) (zeroCells_one hzf n) (fun i' j' hi' hj' => by
              rw [hcs] at hj' ⊢
              obtain ⟨u, e1, e2⟩ := y2 i' j' hi' (by rw [Array.length_toList, hzs]; exact hj')
              refine ⟨u, ?_, e2⟩
              rw [← hzs, zeroCells_get n hi' (by omega)]
              exact e1)
            refine ⟨_, w', run_clear ht hzv (fun x hx => ?_) (fun hx => ?_), fun base => ?_⟩
            · refine k1 a cap _ g1 ?_
              by_cases hne : cap = lo
              · exact .inl (by omega)
              · exact .inr (by rw [← g4 hne]; exact hx)
            · refine k2 ?_
              rcases hx with hx | hx
              · by_cases hne : cap = lo
                · omega
                · rw [g4 hne] at hx
                  obtain ⟨b, o, rfl⟩ := g5 (by omega)
                  cases hx
              · exact hx
            · simp only [resH_up]
              exact k3 _ _ (fun w2 => den_undef)
          · cases h
        · cases h
      · cases h
    · cases h
  · rename_i kt et id ht
    simp only [RM.eval] at h
    split at h
    · rename_i ck m ho
      simp only [RM.eval, Option.some.injEq] at h
      subst h
      unfold DenV Den1 at hx
      obtain ⟨b, hb, rfl, _⟩ := hx
      obtain ⟨es, clock, h1, h2⟩ := map_obj hs ho hb
      refine ⟨.tuple #[], World.setBlk w b (.map #[] clock), ?_, fun base => ?_⟩
      · have e1 : (getObj b).run P w = .ok (.map es clock) w := by simp [getObj, Sem.run, h1]
        have e2 : (setObj b (.map #[] clock)).run P w = .ok () (World.setBlk w b (.map #[] clock)) := by simp [setObj, Sem.run, World.setBlk, h1]
        simp only [Builtin.clear_, List.getElem?_toArray, List.getElem?_cons_zero, Sem.run_bind, run_underlying ht, Result.andThen_ok, e1, e2, Sem.run_pure]
      · simp only [resH_up]
        refine Good.write hs ho rfl rfl (by rw [hb]; rfl) (fun c' e' hc => by cases hc) ?_ den_undef
        exact ⟨b, #[], clock, hb, setBlk_get h1, ⟨rfl, List.nodup_nil, List.nodup_nil, fun e he => by simp at he, fun p hp => by simp at hp⟩⟩
    · cases h
  · cases h

theorem run_makeSlice {t e : TypeId} {i : TypeInfo} {z : Value} (ht : P.underlying t = some (.slice e)) (hi : P.info? e = some i) (hz : i.zero = some z) (hzs : z.cells.size = i.size) (h1 : 1 ≤ i.size) (hby : i.bytes ≤ 256)
    {k k' : IntKind} {l c : Int} (h0 : 0 ≤ l) (hlc : l ≤ c) (hc : c ≤ 1073741824) :
    ∃ w1 : World, (w1.heap = w.heap ∧ w1.tape = w.tape ∧ w1.os = w.os ∧ w1.output = w.output) ∧
    (Instr.makeSlice t (.int k l) (.int k' c)).run P w = .ok (.slice (some ⟨w.heap.size, 0, none⟩) l.toNat c.toNat) (w1.alloc (.cells (Builtin.zeroCells z.cells c.toNat).toList.toArray e)) := by
  refine ⟨w, ⟨rfl, rfl, rfl, rfl⟩, ?_⟩
  have e1 : IntKind.i64.wrap l = l := wrap_i64_in ⟨by omega, by omega⟩
  have e2 : IntKind.i64.wrap c = c := wrap_i64_in ⟨by omega, by omega⟩
  have hbig : ¬ (281474976710656 < (i.bytes : Int) * c) := by
    have h3 : (i.bytes : Int) * c ≤ 256 * c := Int.mul_le_mul_of_nonneg_right (by omega) (by omega)
    omega
  have hl0 : ¬ l < 0 := by omega
  have hc0 : ¬ c < 0 := by omega
  have hlc' : ¬ l > c := by omega
  simp [Instr.makeSlice, run_underlying ht, typeInfo, sizeOf, hi, e1, e2, hl0, hc0, hlc', hbig, zeroValue, hz, newRow, asInt, asIntOf]
  have hzc : Builtin.zeroCells z.cells c.toNat = (Array.range (c.toNat * i.size)).map fun x => z.cells[x % z.cells.size]! := by simp [Builtin.zeroCells, hzs]
  rw [hzc]
  by_cases h0 : c.toNat * i.size = 0
  · have hr : ∀ f : Nat → Value, Array.map f (Array.range 0) = #[] := fun f => by simp
    rw [if_pos h0, h0, hr, hr]
  · rw [if_neg h0]

theorem makeSliceR_ok {t : TypeId} {l c : AV} {vl vc : Value} {q : Res} (h : (makeSliceR P t l c).eval H = some q) (hn : Needs q.need) (hs : Sat ρ H G w) (hl : DenV ρ H (Hot ρ H G) w l vl) (hc : DenV ρ H (Hot ρ H G) w c vc)
    {base : Nat} (hb : ∀ i, i < q.new.length → H (base + i) = none) : ∃ v w', (Instr.makeSlice t vl vc).run P w = .ok v w' ∧ Good ρ H G w (resH H q.up base q.new) (q.r base) v w' := by
  unfold makeSliceR at h
  split at h
  · rename_i e k lit l k' lit' c ht h1 h2
    obtain rfl := num_den h1 hl
    obtain rfl := num_den h2 hc
    split at h
    · rename_i i hi
      rw [Bool.cond_eq_ite] at h
      split at h
      · rename_i hc
        simp only [Bool.and_eq_true] at hc
        obtain ⟨⟨c1, c2⟩, c3⟩ := hc
        have c1 := Nat.le_of_ble_eq_true c1
        have c2 := Nat.le_of_ble_eq_true c2
        obtain ⟨z, hz, hzf, hzs⟩ : ∃ z, i.zero = some z ∧ zeroFits (shapeOf P e) z.cells.toList = true ∧ z.cells.size = i.size := by
          cases hz : i.zero with
          | none => simp [hz] at c3
          | some z =>
            simp only [hz, Option.any_some, Bool.and_eq_true, beq_iff_eq] at c3
            exact ⟨z, rfl, c3.1, c3.2⟩
        simp only [RM.eval, Option.some.injEq] at h
        subst h
        obtain ⟨n1, n2, n3, _⟩ := hn
        have hnone : H base = none := by simpa using hb 0 (by simp)
        obtain ⟨w1, ⟨a1, a2, a3, a4⟩, hrun⟩ := run_makeSlice (w := w) (k := k) (k' := k') ht hi hz hzs c1 c2 n1 n2 n3
        refine ⟨_, _, hrun, ?_⟩
        simp only [resH_new]
        obtain ⟨y1, y2⟩ := zeroFits_ok (O := Hot ρ H G) (w := w) hzf l.toNat
        have := zeroCon_n (shapeOf P e) l.toNat
        have key := fresh_vec (w1 := w1) (e := e) (c := zeroCon (shapeOf P e) l.toNat) (cap := c.toNat) hs a1 a2 a3 a4 hnone (cells := (Builtin.zeroCells z.cells c.toNat).toList) (by omega) (by simp only [maxLen]; omega) (by
          rw [y1, Array.length_toList, Array.length_toList, size_zeroCells]
          exact Nat.le_refl _) (fun i' j' => (Builtin.zeroCells z.cells c.toNat).toList.getD (i' * (zeroCon (shapeOf P e) l.toNat).size + j') undef) (fun i' j' hi' hj' => by
            rw [this] at hi'
            rw [y1, Array.length_toList] at hj' ⊢
            obtain ⟨u, e1, e2⟩ := y2 i' j' hi' (by rw [Array.length_toList]; exact hj')
            have hg := zeroCells_get (z := z.cells) c.toNat (i := i') (by omega) hj'
            rw [e1] at hg
            have : (Builtin.zeroCells z.cells c.toNat).toList.getD (i' * z.cells.size + j') undef = u := by simp [List.getD, hg]
            rw [this]
            exact ⟨hg, e2⟩)
        rw [this] at key
        exact key
      · cases h
    · cases h
  · cases h
end
end Go.Sx
