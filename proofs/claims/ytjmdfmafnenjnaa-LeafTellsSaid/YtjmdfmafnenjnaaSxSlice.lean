import Derived.Test.YtjmdfmafnenjnaaSxRead
/-! Pieces of strings and rows; conversions. -/
namespace Go.Sx
open Go

section
variable {ρ ρ' : Nat → Value} {H H' : AHeap} {G O O' : Nat → Prop} {w w' : World} {P : Program}

def DenOpt (ρ : Nat → Value) (H : AHeap) (O : Nat → Prop) (w : World) : Option AV → Option Value → Prop
  | none, none => True
  | some a, some v => DenV ρ H O w a v
  | _, _ => False

theorem numOr_den {d n : Int} {o : Option AV} {vo : Option Value} (h : numOr d o = some n) (hd : DenOpt ρ H O w o vo) : (vo = none ∧ n = d) ∨ ∃ k, vo = some (.int k n) := by
  cases o with
  | none =>
    cases vo with
    | none => simp only [numOr, Option.some.injEq] at h; exact .inl ⟨rfl, h.symm⟩
    | some v => exact hd.elim
  | some a =>
    cases vo with
    | none => exact hd.elim
    | some v =>
      simp only [numOr, Option.map_eq_some_iff] at h
      obtain ⟨⟨k, l, m⟩, h1, rfl⟩ := h
      exact .inr ⟨k, by rw [num_den h1 hd]⟩

theorem con_n_sub (c : Con) {l h : Nat} (_hl : l ≤ h) (hh : h ≤ c.n) : (conSub c l h).n = h - l := by
  cases c <;> simp only [conSub, Con.n, List.length_drop, List.length_take] at * <;> omega

theorem con_size_sub (c : Con) (l h : Nat) : (conSub c l h).size = c.size := by cases c <;> rfl

theorem getD_sub {α : Type} (zs : List α) (d : α) {l h i : Nat} (hi : i < h - l) : ((zs.take h).drop l).getD i d = zs.getD (l + i) d := by
  simp only [List.getD, List.getElem?_drop, List.getElem?_take]
  rw [if_pos (by omega)]

theorem con_cell_sub (c : Con) {l h i : Nat} (j : Nat) (hi : i < h - l) : (conSub c l h).cell i j = c.cell (l + i) j := by
  cases c <;> simp only [conSub, Con.cell, getD_sub _ _ hi]

theorem bytes_slice {s : ByteArray} {lo hi : Option Value} {l h : Int} (hl : (lo = none ∧ l = 0) ∨ ∃ k, lo = some (.int k l)) (hh : (hi = none ∧ h = (s.size : Int)) ∨ ∃ k, hi = some (.int k h))
    (h0 : 0 ≤ l) (h1 : l ≤ h) (h2 : h ≤ s.size) {t : TypeId} (ht : P.underlying t = some .string) (w : World) :
    (Instr.sliceAt t (.string s) lo hi none).run P w = .ok (.string (s.extract l.toNat h.toNat)) w := by
  have hle : l ≤ ((h.toNat : Nat) : Int) := by omega
  rcases hl with ⟨rfl, rfl⟩ | ⟨k, rfl⟩ <;> rcases hh with ⟨rfl, rfl⟩ | ⟨k', rfl⟩
  · simp [Instr.sliceAt, Instr.slice, run_underlying ht, Instr.sliceBounds]
  · simp [Instr.sliceAt, Instr.slice, run_underlying ht, Instr.sliceBounds, run_sliceBound _ _ _ _ _ h1 h2]
  · simp [Instr.sliceAt, Instr.slice, run_underlying ht, Instr.sliceBounds, run_sliceBound _ _ _ _ _ h0 h1]
  · simp [Instr.sliceAt, Instr.slice, run_underlying ht, Instr.sliceBounds, run_sliceBound _ _ _ _ _ (show 0 ≤ h by omega) h2, run_sliceBound _ _ _ _ _ h0 hle]

theorem row_slice {a : Option Addr} {n cap : Nat} {lo hi : Option Value} {l h : Int} (hl : (lo = none ∧ l = 0) ∨ ∃ k, lo = some (.int k l)) (hh : (hi = none ∧ h = (n : Int)) ∨ ∃ k, hi = some (.int k h))
    (h0 : 0 ≤ l) (h1 : l ≤ h) (h2 : h ≤ cap) {t e : TypeId} (ht : P.underlying t = some (.slice e)) {sz : Nat} (hs : szOf P e = some sz) (w : World) :
    (Instr.sliceAt t (.slice a n cap) lo hi none).run P w = .ok (.slice (if cap = l.toNat then a else a.map (·.add (l.toNat * sz))) (h.toNat - l.toNat) (cap - l.toNat)) w := by
  have hle : l ≤ ((h.toNat : Nat) : Int) := by omega
  rcases hl with ⟨rfl, rfl⟩ | ⟨k, rfl⟩ <;> rcases hh with ⟨rfl, rfl⟩ | ⟨k', rfl⟩
  · simp [Instr.sliceAt, Instr.slice, run_underlying ht, Instr.sliceBounds, run_sizeOf hs]
  · simp [Instr.sliceAt, Instr.slice, run_underlying ht, Instr.sliceBounds, run_sliceBound _ _ _ _ _ h1 h2, run_sizeOf hs]
  · simp [Instr.sliceAt, Instr.slice, run_underlying ht, Instr.sliceBounds, run_sliceBound _ _ _ _ _ h0 h1, run_sizeOf hs]
  · simp [Instr.sliceAt, Instr.slice, run_underlying ht, Instr.sliceBounds, run_sliceBound _ _ _ _ _ (show 0 ≤ h by omega) h2, run_sliceBound _ _ _ _ _ h0 hle, run_sizeOf hs]

theorem ro_sub {c : Con} {v : Value} (hx : DenS O w (.ro c) v) {l h : Nat} (hl : l ≤ h) (hh : h ≤ c.n) : ∃ a cap, v = .slice a c.n cap ∧ c.n ≤ cap ∧
    ∀ sz, sz = c.size → DenS O w (.ro (conSub c l h)) (.slice (if cap = l then a else a.map (·.add (l * sz))) (h - l) (cap - l)) := by
  cases hx with
  | ro _ a cap us b o h1 h2 h3 h4 h5 =>
    refine ⟨a, cap, rfl, h1, ?_⟩
    rintro sz rfl
    have hn := con_n_sub c hl hh
    have hsz := con_size_sub c l h
    have key := DenS.ro (O := O) (w := w) (conSub c l h) (if cap = l then a else a.map (·.add (l * c.size))) (cap - l) (fun i j => us (l + i) j) b (o + l * c.size) (by omega) (by omega)
      (fun h0 => by
        obtain ⟨rfl, h6, h7⟩ := h3 (by omega)
        refine ⟨?_, h6, h7⟩
        rw [if_neg (by omega)]
        simp only [Option.map_some, add_zero_spot])
      (fun i j hi hj => by
        rw [hn] at hi
        rw [hsz] at hj ⊢
        have := h4 (l + i) j (by omega) hj
        rw [show o + l * c.size + i * c.size + j = o + (l + i) * c.size + j from by rw [Nat.add_mul]; omega]
        exact this)
      (fun i j hi hj => by
        rw [hn] at hi
        rw [hsz] at hj
        rw [con_cell_sub c j hi]
        exact h5 _ _ (by omega) hj)
    rw [hn] at key
    exact key

theorem addr_add (a : Option Addr) (hf : ∃ b o, a = some ⟨b, o, none⟩) (x y : Nat) : (a.map (·.add x)).map (·.add y) = a.map (·.add (x + y)) := by
  obtain ⟨b, o, rfl⟩ := hf
  simp only [Option.map_some, add_zero_spot, Nat.add_assoc]

theorem partR_ok {t e e' : TypeId} {c : Con} {id lo0 n : Nat} {lo hi mx : Option AV} {vlo vhi vmx : Option Value} {q : Res} (h : (partR P e c id lo0 n lo hi mx).eval H = some q) (hn : Needs q.need)
    (ht : P.underlying t = some (.slice e)) (ho : H id = some (.vec c e')) {a a' : Option Addr} {cap : Nat} (hr : ρ id = .slice a c.n cap) (hcap : c.n ≤ cap) (hln : lo0 + n ≤ c.n) (ha' : cap ≠ lo0 → a' = a.map (·.add (lo0 * c.size)))
    (hf : cap ≠ 0 → ∃ b o, a = some ⟨b, o, none⟩) (hlo : DenOpt ρ H O w lo vlo) (hhi : DenOpt ρ H O w hi vhi) (hmx : DenOpt ρ H O w mx vmx) :
    ValOK P ρ H O w q (Instr.sliceAt t (.slice a' n (cap - lo0)) vlo vhi vmx) := by
  unfold partR at h
  split at h
  · rename_i sz hsz
    rw [Bool.cond_eq_ite] at h
    split at h
    · rename_i hz
      have hz : sz = c.size := by simpa using hz
      subst hz
      split at h
      · obtain rfl : vmx = none := by cases vmx <;> first | rfl | exact hmx.elim
        split at h
        · rename_i l hh h1 h2
          refine plain_ok h (fun hne => ?_) hn
          obtain ⟨h3, h4, h5, _⟩ := hne
          refine ⟨_, row_slice (numOr_den h1 hlo) (numOr_den h2 hhi) h3 h4 (by omega) ht hsz w, ?_⟩
          unfold DenV Den1
          refine ⟨rfl, _, ho, fun c' e'' hc => ?_⟩
          cases hc
          refine ⟨by omega, a, cap, _, hr, hcap, by rw [Nat.sub_sub], fun hne => ?_⟩
          have hc0 : cap ≠ lo0 := by omega
          rw [if_neg (by omega), ha' hc0, addr_add _ (hf (by omega)), Nat.add_mul]
        · cases h
      · rename_i m
        split at h
        · rename_i l kh lh hh km lm m' h1 h2 h3
          refine plain_ok h (fun hne => ?_) hn
          obtain ⟨g1, g2, g3, g4, _⟩ := hne
          simp only [Option.bind_eq_some_iff] at h2
          obtain ⟨ha, rfl, h2⟩ := h2
          cases vmx with
          | none => exact hmx.elim
          | some vm =>
            cases vhi with
            | none => exact hhi.elim
            | some vh =>
              obtain rfl := num_den h3 hmx
              obtain rfl := num_den h2 hhi
              have e1 : m' ≤ (((cap - lo0 : Nat) : Int)) := by omega
              have e2 : hh ≤ ((m'.toNat : Nat) : Int) := by omega
              have e3 : l ≤ ((hh.toNat : Nat) : Int) := by omega
              rcases numOr_den h1 hlo with ⟨rfl, rfl⟩ | ⟨k1, rfl⟩
              · exact ⟨_, by simp [Instr.sliceAt, Instr.slice, run_underlying ht, Instr.sliceBounds, run_sliceBound _ _ _ _ _ (show 0 ≤ m' by omega) e1, run_sliceBound _ _ _ _ _ (show 0 ≤ hh by omega) e2, run_sizeOf hsz]; rfl, by unfold DenV; trivial⟩
              · exact ⟨_, by simp [Instr.sliceAt, Instr.slice, run_underlying ht, Instr.sliceBounds, run_sliceBound _ _ _ _ _ (show 0 ≤ m' by omega) e1, run_sliceBound _ _ _ _ _ (show 0 ≤ hh by omega) e2, run_sliceBound _ _ _ _ _ g1 e3, run_sizeOf hsz]; rfl, by unfold DenV; trivial⟩
        · cases h
    · cases h
  · cases h

theorem sliceR_ok (hs : Sat ρ H G w) {t : TypeId} {x : AV} {lo hi mx : Option AV} {vx : Value} {vlo vhi vmx : Option Value} {q : Res} (h : (sliceR P t x lo hi mx).eval H = some q) (hn : Needs q.need)
    (hd : DenV ρ H O w x vx) (hlo : DenOpt ρ H O w lo vlo) (hhi : DenOpt ρ H O w hi vhi) (hmx : DenOpt ρ H O w mx vmx) :
    ValOK P ρ H O w q (Instr.sliceAt t vx vlo vhi vmx) := by
  unfold sliceR at h
  split at h
  · rename_i s ht
    obtain rfl := str_den hd
    split at h
    · rename_i l hh h1 h2 
      obtain rfl : vmx = none := by cases vmx <;> first | rfl | exact hmx.elim
      refine plain_ok h (fun hne => ?_) hn
      obtain ⟨h3, h4, h5, _⟩ := hne
      exact ⟨_, bytes_slice (numOr_den h1 hlo) (numOr_den h2 hhi) h3 h4 h5 ht w, DenV_s (.str _)⟩
    · cases h
  · rename_i e ht
    unfold DenV at hd
    obtain ⟨a, rfl⟩ := hd
    split at h
    · rename_i sz l hh hsz h1 h2
      obtain rfl : vmx = none := by cases vmx <;> first | rfl | exact hmx.elim
      refine plain_ok h (fun hne => ?_) hn
      obtain ⟨rfl, rfl, _⟩ := hne
      exact ⟨_, row_slice (numOr_den h1 hlo) (numOr_den h2 hhi) (by omega) (by omega) (by omega) ht hsz w, by unfold DenV; exact ⟨a, by simp⟩⟩
    · cases h
  · rename_i e c ht
    have hx := DenS_of_V (by simp) hd
    split at h
    · rename_i sz hsz
      rw [Bool.cond_eq_ite] at h
      split at h
      · rename_i hz
        have hz : sz = c.size := by simpa using hz
        split at h
        · obtain rfl : vmx = none := by cases vmx <;> first | rfl | exact hmx.elim
          split at h
          · rename_i l hh h1 h2
            refine plain_ok h (fun hne => ?_) hn
            obtain ⟨h3, h4, h5, _⟩ := hne
            obtain ⟨a, cap, rfl, hle, hsub⟩ := ro_sub hx (l := l.toNat) (h := hh.toNat) (by omega) (by omega)
            exact ⟨_, row_slice (numOr_den h1 hlo) (numOr_den h2 hhi) h3 h4 (by omega) ht hsz w, DenV_s (hsub sz hz)⟩
          · cases h
        · rename_i m
          split at h
          · rename_i l kh lh hh km lm m' h1 h2 h3
            refine plain_ok h (fun hne => ?_) hn
            obtain ⟨rfl, rfl, rfl, _⟩ := hne
            simp only [Option.bind_eq_some_iff] at h2
            obtain ⟨ha, rfl, h2⟩ := h2
            cases vmx with
            | none => exact hmx.elim
            | some vm =>
              cases vhi with
              | none => exact hhi.elim
              | some vh =>
                obtain rfl := num_den h3 hmx
                obtain rfl := num_den h2 hhi
                cases hx with
                | ro _ a cap us b o g1 g2 g3 g4 g5 =>
                  refine ⟨.slice a 0 0, ?_, by unfold DenV; exact ⟨a, rfl⟩⟩
                  have hb : ∀ (k : IntKind) (y : Nat) (code : BoundsCode) (w : World), (Instr.sliceBound (.int k 0) y code).run P w = .ok 0 w := fun k y code w => by
                    rw [run_sliceBound _ _ _ _ _ (by omega) (by omega)]; rfl
                  rcases numOr_den h1 hlo with ⟨rfl, _⟩ | ⟨k1, rfl⟩
                  · simp [Instr.sliceAt, Instr.slice, run_underlying ht, Instr.sliceBounds, hb, run_sizeOf hsz]
                  · simp [Instr.sliceAt, Instr.slice, run_underlying ht, Instr.sliceBounds, hb, run_sizeOf hsz]
          · cases h
      · cases h
    · cases h
  · rename_i e id ht
    simp only [RM.eval] at h
    split at h
    · rename_i c e' ho
      obtain ⟨a, cap, rfl, hr, hle, _⟩ := vec_val hs ho hd
      have hobj := hs.obj id _ ho
      rw [hr] at hobj
      obtain ⟨a2, cap2, g1, _, _, g4⟩ := hobj
      cases g1
      have hf : cap ≠ 0 → ∃ b o, a = some ⟨b, o, none⟩ := fun hc => by
        rcases g4 with g4 | ⟨b, o, _, _, _, g5, _⟩
        · exact absurd g4 hc
        · exact ⟨b, o, g5⟩
      have := partR_ok (a' := a) h hn ht ho hr hle (by omega) (fun hc => by
        obtain ⟨b, o, rfl⟩ := hf hc
        simp [add_zero_spot]) hf hlo hhi hmx
      simpa using this
    · cases h
  · rename_i e id lo0 n ht
    simp only [RM.eval] at h
    split at h
    · rename_i c e' ho
      obtain ⟨h0, a, cap, a', h1, h2, h3, rfl, h4, h5⟩ := part_val hs ho hd
      exact partR_ok h hn ht ho h1 h2 h0 h4 h5 hlo hhi hmx
    · cases h
  · cases h

/-- The bytes of a row of numbers. -/
theorem loadBytesStr (zs : List Int) : ∀ (l : List Value) (s : ByteArray) (w : World), l = zs.map (Value.int .u8) →
    (forIn (m := Sem) l s fun c s => do
      match c with
      | .int .u8 n => pure (ForInStep.yield (s.push (UInt8.ofNat n.toNat)))
      | _ => do
        stuck "bytesToString: byte expected"
        pure (ForInStep.yield s)).run P w = .ok ⟨s.data ++ (zs.map fun n => UInt8.ofNat n.toNat).toArray⟩ w := by
  induction zs with
  | nil => intro l s w h; subst h; simp
  | cons z zs ih =>
    intro l s w h
    subst h
    simp only [List.map_cons, List.forIn_cons, Sem.run_bind, Sem.run_pure, Result.andThen_ok]
    rw [ih _ _ _ rfl]
    congr 2
    simp [ByteArray.push]

/-- A slice that shows a row, whoever owns it. -/
def RowVal (O : Nat → Prop) (w : World) (c : Con) (v : Value) : Prop :=
  ∃ (a : Option Addr) (cap : Nat) (us : Nat → Nat → Value), v = .slice a c.n cap ∧ c.n ≤ cap ∧ cap ≤ maxLen ∧ (0 < c.n → ∃ b o, a = some ⟨b, o, none⟩ ∧ b < w.heap.size ∧
    ∀ i j, i < c.n → j < c.size → w.cell? ⟨b, o + i * c.size + j, none⟩ = some (us i j) ∧ DenS O w (c.cell i j) (us i j))

theorem nilCon_n (sh : Shape) (size : Nat) : (nilCon sh size).n = 0 := by cases sh <;> rfl

theorem rowOf_ok {sh : Shape} {size : Nat} {x : AV} {k : Con → Option Nat → RM Res} {v : Value} {q : Res} (h : (rowOf sh size x k).eval H = some q) (hs : Sat ρ H G w) (hd : DenV ρ H (Hot ρ H G) w x v) :
    ∃ c idy, (k c idy).eval H = some q ∧ RowVal (Hot ρ H G) w c v := by
  unfold rowOf at h
  split at h
  · split at h
    · rename_i c
      have hx := DenS_of_V (by simp) hd
      cases hx with
      | ro _ a cap us b o g1 g2 g3 g4 g5 =>
        refine ⟨c, none, h, a, cap, us, rfl, g1, g2, fun h0 => ?_⟩
        obtain ⟨rfl, _, h2⟩ := g3 h0
        exact ⟨b, o, rfl, h2, fun i j hi hj => ⟨g4 i j hi hj, g5 i j hi hj⟩⟩
    · cases h
  · unfold DenV at hd
    obtain ⟨a, rfl⟩ := hd
    exact ⟨_, none, h, a, 0, fun _ _ => undef, by rw [nilCon_n], by rw [nilCon_n]; exact Nat.le_refl _, by simp [maxLen], by rw [nilCon_n]; omega⟩
  · rename_i id
    simp only [RM.eval] at h
    split at h
    · rename_i c e ho
      refine ⟨c, some id, h, ?_⟩
      unfold DenV Den1 at hd
      obtain ⟨_, o, ho', hv⟩ := hd
      rw [ho] at ho'
      cases ho'
      obtain rfl := hv c e rfl
      obtain ⟨a, cap, h1, h2, h3, h4⟩ := hs.obj id _ ho
      rcases h4 with rfl | ⟨b, o, cells, fr, us, rfl, h5, h6, h7, h8⟩
      · exact ⟨a, 0, fun _ _ => undef, h1, h2, h3, fun h0 => by omega⟩
      · refine ⟨_, cap, us, h1, h2, h3, fun _ => ⟨b, o, rfl, (Array.getElem?_eq_some_iff.1 h5).1, fun i j hi hj => ?_⟩⟩
        obtain ⟨h9, h10⟩ := h8 i j hi hj
        exact ⟨by rw [cell_of_blk h5]; exact h9, h10⟩
    · cases h
  · rename_i id lo n
    simp only [RM.eval] at h
    split at h
    · rename_i c e ho
      refine ⟨_, some id, h, ?_⟩
      obtain ⟨g0, a, cap, a', g1, g2, g3, rfl, g4, g5⟩ := part_val hs ho hd
      have hn : (conSub c lo (lo + n)).n = n := by rw [con_n_sub c (by omega) g0]; omega
      have hsz := con_size_sub c lo (lo + n)
      obtain ⟨a2, cap2, k1, k2, k3, k4⟩ := hs.obj id _ ho
      rw [g1] at k1
      cases k1
      rcases k4 with rfl | ⟨b, o, cells, fr, us, rfl, h5, h6, h7, h8⟩
      · exact ⟨a', 0 - lo, fun _ _ => undef, by rw [hn], by rw [hn]; omega, by omega, fun h0 => by rw [hn] at h0; omega⟩
      · refine ⟨a', cap - lo, fun i j => us (lo + i) j, by rw [hn], by rw [hn]; omega, by omega, fun h0 => ?_⟩
        rw [hn] at h0
        refine ⟨b, o + lo * c.size, by rw [g4 (by omega)]; simp [add_zero_spot], (Array.getElem?_eq_some_iff.1 h5).1, fun i j hi hj => ?_⟩
        rw [hn] at hi
        rw [hsz] at hj ⊢
        obtain ⟨h9, h10⟩ := h8 (lo + i) j (by omega) hj
        refine ⟨?_, by rw [con_cell_sub c j (by omega)]; exact h10⟩
        rw [cell_of_blk h5, show o + lo * c.size + i * c.size + j = o + (lo + i) * c.size + j from by rw [Nat.add_mul]; omega]
        exact h9
    · cases h
  · cases h

theorem getD_map_ints (zs : List Int) : zs.map (Value.int .u8) = (List.range zs.length).map fun i => Value.int .u8 (zs.getD i 0) := by
  apply List.ext_getElem
  · simp
  · intro i h1 h2
    simp at h1
    simp [h1]

theorem bytesToString_row {zs : List Int} {v : Value} (h : RowVal O w (.ints .u8 zs) v) : (Conv.bytesToString v).run P w = .ok (.string (bytesStr zs)) w := by
  obtain ⟨a, cap, us, rfl, h1, h2, h3⟩ := h
  simp only [Con.n] at h1 h3 ⊢
  cases a with
  | none =>
    have : zs.length = 0 := by
      rcases Nat.eq_zero_or_pos zs.length with h0 | h0
      · exact h0
      · obtain ⟨b, o, e, _⟩ := h3 h0
        cases e
    obtain rfl := List.eq_nil_of_length_eq_zero this
    rfl
  | some a =>
    have hload : (loadCells a zs.length).run P w = .ok (zs.map (Value.int .u8)).toArray w := by
      rcases Nat.eq_zero_or_pos zs.length with h0 | h0
      · obtain rfl := List.eq_nil_of_length_eq_zero h0
        rfl
      · obtain ⟨b, o, e, _, hc⟩ := h3 h0
        cases e
        rw [getD_map_ints]
        refine run_loadCells w _ _ (fun i => Value.int .u8 (zs.getD i 0)) (fun j hj => ?_)
        obtain ⟨g1, g2⟩ := hc j 0 hj (by simp [Con.size])
        rw [add_zero_spot]
        simp only [Con.size, Nat.mul_one, Nat.add_zero, Con.cell] at g1 g2
        rw [g1]
        generalize us j 0 = u at g2 ⊢
        cases g2
        rfl
    simp only [Conv.bytesToString, Sem.run_bind, hload, Result.andThen_ok]
    rw [← Array.forIn_toList]
    have := loadBytesStr (P := P) zs (zs.map (Value.int .u8)) ByteArray.empty w rfl
    erw [this]
    simp [bytesStr]

theorem convertR_ok {src dst : TypeId} {x : AV} {vx : Value} {q : Res} (h : (convertR P src dst x).eval H = some q) (hn : Needs q.need) (hs : Sat ρ H G w) (hd : DenV ρ H (Hot ρ H G) w x vx) :
    ValOK P ρ H (Hot ρ H G) w q (convert src dst vx) := by
  unfold convertR at h
  split at h
  · rename_i d k hsrc hdst
    split at h
    · rename_i k' lit n hnum
      obtain rfl := num_den hnum hd
      have hrun : (convert src dst (.int k' n)).run P w = .ok (.int k (k.wrap n)) w := by
        simp [convert, run_underlying hsrc, run_underlying hdst, Conv.intToInt]
      rw [Bool.cond_eq_ite] at h
      split at h
      · exact plain_ok h (fun _ => ⟨_, hrun, DenV_s (.ilit _ _)⟩) hn
      · rw [Bool.cond_eq_ite] at h
        split at h
        · rename_i hk
          obtain rfl := isI64_eq hk
          refine plain_ok h (fun hne => ⟨_, hrun, ?_⟩) hn
          rw [wrap_i64_in hne.1]
          exact DenV_s (.int _ _)
        · exact plain_ok h (fun _ => ⟨_, hrun, DenV_s (.int _ _)⟩) hn
    · cases h
  · rename_i hsrc hdst
    split at h
    · rename_i s
      obtain rfl := str_den hd
      exact plain_ok h (fun _ => ⟨_, by simp [convert, run_underlying hsrc, run_underlying hdst], DenV_s (.str _)⟩) hn
    · cases h
  · rename_i e hsrc hdst
    split at h
    · rename_i hk
      obtain ⟨c, idy, h1, h2⟩ := rowOf_ok h hs hd
      split at h1
      · rename_i zs
        refine plain_ok h1 (fun _ => ⟨.string (bytesStr zs), ?_, DenV_s (.str _)⟩) hn
        have he : P.underlying e = some (.int .u8) := by
          unfold kindOf at hk
          split at hk <;> first | (cases hk; assumption) | cases hk
        obtain ⟨a, cap, us, rfl, _⟩ := id h2
        simp [convert, run_underlying hsrc, run_underlying hdst, run_underlying he, bytesToString_row h2]
      · cases h1
    · cases h
  · cases h
end
end Go.Sx
