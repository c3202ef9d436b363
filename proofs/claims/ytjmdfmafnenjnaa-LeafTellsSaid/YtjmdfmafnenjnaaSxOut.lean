import Derived.Test.YtjmdfmafnenjnaaSxTy
/-! What a call hands back, made alike. -/
namespace Go.Sx
open Go

def nil1 (ces : List (Bool × Con × TypeId)) (L : List AObj) (a : AV) : AV × List AObj × List (Bool × Con × TypeId) :=
  match a with
  | .emp => match ces with
    | (ro, c, e) :: r => bif c.n.beq 0 then (bif ro then (.s (.ro c), L, r) else (.vec L.length, L ++ [.vec c e], r)) else (.emp, L, r)
    | [] => (.emp, L, [])
  | .vec id => match ces with
    | (true, _, _) :: r => (match L[id]? with
      | some (.vec c _) => (.s (.ro c), L.set id .dead, r)
      | _ => (.vec id, L, r))
    | _ => (.vec id, L, ces.tail)
  | .s (.ro c) => (.s (.ro c), L, ces.tail)
  | .part id lo n => (match L[id]? with
      | some (.vec c e) => (.vec L.length, L.set id .dead ++ [.vec (conSub c lo (lo + n)) e], ces.tail)
      | _ => (.part id lo n, L, ces.tail))
  | a => (a, L, ces)

def nilL (f : List (Bool × Con × TypeId) → List AObj → AV → AV × List AObj × List (Bool × Con × TypeId)) : List (Bool × Con × TypeId) → List AObj → List AV → List AV × List AObj × List (Bool × Con × TypeId)
  | ces, L, [] => ([], L, ces)
  | ces, L, a :: as => let p := f ces L a; let q := nilL f p.2.2 p.2.1 as; (p.1 :: q.1, q.2.1, q.2.2)

def nilA (ces : List (Bool × Con × TypeId)) (L : List AObj) (a : AV) : AV × List AObj × List (Bool × Con × TypeId) :=
  match a with
  | .agg segs => let q := nilL nil1 ces L segs; (.agg q.1, q.2.1, q.2.2)
  | a => nil1 ces L a

def nilV (ces : List (Bool × Con × TypeId)) (L : List AObj) (a : AV) : AV × List AObj :=
  match a with
  | .tup vs => let q := nilL nilA ces L vs; (.tup q.1, q.2.1)
  | a => let q := nilA ces L a; (q.1, q.2.1)

def canR (ces : List (Bool × Con × TypeId)) (L : List AObj) (r : AV) : Option (List AObj × AV) :=
  let p := nilV ces L r
  let σ := reach p.2 4000 (idsOf 20 p.1) []
  bif nodupB σ then
    match viewH σ p.2, rn (idx σ) 20 p.1 with
    | some L', some r' => some (L', r')
    | _, _ => none
  else none

section
variable {g : Nat → Option Nat} {ρ ρ' : Nat → Value} {H H' : AHeap} {G O O' : Nat → Prop} {w w' : World} {P : Program} {S : SummB} {Z : Glob} {X : Ctx} {s : St} {a : Act} {K : List AObj → AV → Prop} {C : Cfg → Prop} {L : List AObj}

abbrev lk (L : List AObj) : AHeap := fun i => L[i]?
abbrev stp (ρ : Nat → Value) (L : List AObj) (G : Nat → Prop) (w : World) (ρ' : Nat → Value) (L' : List AObj) : Prop := Step ρ (lk L) (Hot ρ (lk L) G) w ρ' (lk L') (Hot ρ' (lk L') G) w

theorem ext1 (hs : Sat ρ (lk L) G w) {c : Con} (hc : c.n = 0) (e : TypeId) (r : Option Addr) : ∃ ρ', Sat ρ' (lk (L ++ [.vec c e])) G w ∧ stp ρ L G w ρ' (L ++ [.vec c e]) ∧ ∀ O, Den1 ρ' (lk (L ++ [.vec c e])) O w (.vec L.length) (.slice r 0 0) := by
  have hbk : blk (.slice r 0 0) = none := by cases r <;> simp [blk]
  let ρ' : Nat → Value := fun j => if j = L.length then .slice r 0 0 else ρ j
  have st : stp ρ L G w ρ' (L ++ [AObj.vec c e]) := Step.alloc hbk
  have old : ∀ {id : Nat} {o : AObj}, (L ++ [AObj.vec c e])[id]? = some o → (id = L.length ∧ o = .vec c e) ∨ (id ≠ L.length ∧ L[id]? = some o) := by
    intro id o ho
    have h2 := (List.getElem?_eq_some_iff.1 ho).1
    simp only [List.length_append, List.length_cons, List.length_nil] at h2
    by_cases hid : id = L.length
    · subst hid
      simp at ho
      exact .inl ⟨rfl, ho.symm⟩
    · refine .inr ⟨hid, ?_⟩
      rwa [List.getElem?_append_left (by omega)] at ho
  have hown : ∀ b, Own ρ' (lk (L ++ [AObj.vec c e])) b → Own ρ (lk L) b := by
    rintro b ⟨id, o, ho, ha, hb⟩
    rcases old ho with ⟨h1, h2⟩ | ⟨h1, h2⟩
    · simp only [ρ', h1, if_true] at hb
      rw [hbk] at hb; cases hb
    · simp only [ρ', h1, if_false] at hb
      exact ⟨id, o, h2, ha, hb⟩
  refine ⟨ρ', ⟨fun id o ho => ?_, fun i j oi oj b hi hj ai aj bi bj => ?_, fun b hb => hs.apart b (hown b hb), hs.low⟩, st, fun O => ?_⟩
  · rcases old ho with ⟨h1, h2⟩ | ⟨h1, h2⟩
    · subst h2
      simp only [ρ', h1, if_true]
      exact ⟨r, 0, by rw [hc], by omega, Nat.zero_le _, .inl rfl⟩
    · simp only [ρ', h1, if_false]
      exact (hs.obj id o h2).step st (fun _ _ _ => rfl)
  · rcases old hi with ⟨h1, h2⟩ | ⟨h1, h2⟩
    · simp only [ρ', h1, if_true] at bi
      rw [hbk] at bi; cases bi
    · rcases old hj with ⟨h3, h4⟩ | ⟨h3, h4⟩
      · simp only [ρ', h3, if_true] at bj
        rw [hbk] at bj; cases bj
      · simp only [ρ', h1, if_false] at bi
        simp only [ρ', h3, if_false] at bj
        exact hs.inj i j oi oj b h2 h4 ai aj bi bj
  · unfold Den1
    exact ⟨rfl, .vec c e, by simp [lk], fun c' e' _ => (if_pos rfl).symm⟩

theorem emp_ro {c : Con} (hc : c.n = 0) (r : Option Addr) : DenS O w (.ro c) (.slice r 0 0) := by
  have := DenS.ro (O := O) (w := w) c r 0 (fun _ _ => undef) 0 0 (by omega) (Nat.zero_le _) (fun h => by omega) (fun i j hi hj => by omega) (fun i j hi hj => by omega)
  rwa [hc] at this

/-- A row that is handed out stands still from then on. -/
theorem freeze1 (hs : Sat ρ (lk L) G w) {id : Nat} {c : Con} {e : TypeId} (hid : L[id]? = some (.vec c e)) :
    Sat ρ (lk (L.set id .dead)) G w ∧ stp ρ L G w ρ (L.set id .dead) ∧ DenS (Hot ρ (lk (L.set id .dead)) G) w (.ro c) (ρ id) := by
  have hlt : id < L.length := (List.getElem?_eq_some_iff.1 hid).1
  have old : ∀ {k : Nat} {o : AObj}, (L.set id .dead)[k]? = some o → (k = id ∧ o = .dead) ∨ (k ≠ id ∧ L[k]? = some o) := by
    intro k o ho
    rw [List.getElem?_set] at ho
    split at ho
    · rename_i hk
      first
        | exact .inl ⟨hk.symm, by simpa using ho.symm⟩
        | (rw [if_pos hlt] at ho; exact .inl ⟨hk.symm, by simpa using ho.symm⟩)
    · rename_i hk
      exact .inr ⟨Ne.symm hk, ho⟩
  have hown : ∀ b, Own ρ (lk (L.set id .dead)) b → Own ρ (lk L) b ∧ blk (ρ id) ≠ some b := by
    rintro b ⟨k, o, ho, ha, hb⟩
    rcases old ho with ⟨_, rfl⟩ | ⟨h1, h2⟩
    · cases ha
    · refine ⟨⟨k, o, h2, ha, hb⟩, fun hb2 => h1 (hs.inj k id o _ b h2 hid ha rfl hb hb2)⟩
  have st : stp ρ L G w ρ (L.set id .dead) := by
    refine ⟨fun _ _ _ => rfl, fun k o ho => ?_, fun b hb => .inl ?_, fun _ _ _ => rfl, Nat.le_refl _⟩
    · by_cases hk : k = id
      · subst hk
        exact ⟨.dead, by show (L.set k .dead)[k]? = _; rw [List.getElem?_set_self hlt], fun c' e' hc => by cases hc⟩
      · exact ⟨o, by show (L.set id .dead)[k]? = _; rw [List.getElem?_set_ne (Ne.symm hk)]; exact ho, fun c' e' hc => ⟨c', e', hc, rfl, rfl⟩⟩
    · rcases hb with hb | hb
      · exact .inl (hown b hb).1
      · exact .inr hb
  refine ⟨⟨fun k o ho => ?_, fun i j oi oj b hi hj ai aj bi bj => ?_, fun b hb => hs.apart b (hown b hb).1, hs.low⟩, st, ?_⟩
  · rcases old ho with ⟨_, rfl⟩ | ⟨h1, h2⟩
    · trivial
    · exact (hs.obj k o h2).step st (fun _ _ _ => rfl)
  · rcases old hi with ⟨_, rfl⟩ | ⟨h1, h2⟩
    · cases ai
    · rcases old hj with ⟨_, rfl⟩ | ⟨h3, h4⟩
      · cases aj
      · exact hs.inj i j oi oj b h2 h4 ai aj bi bj
  · obtain ⟨r, cap, h0, h1, h2, h3⟩ := hs.obj id _ hid
    rcases h3 with h3 | ⟨b, f, cells, fr, us, rfl, h5, h6, h7, h8⟩
    · rw [h0]
      have hc : c.n = 0 := by omega
      exact .ro c r cap (fun _ _ => undef) 0 0 h1 h2 (fun h => by omega) (fun i j hi hj => by omega) (fun i j hi hj => by omega)
    · by_cases hcap : cap = 0
      · rw [h0]
        exact .ro c _ cap (fun _ _ => undef) 0 0 h1 h2 (fun h => by omega) (fun i j hi hj => by omega) (fun i j hi hj => by omega)
      · have hbk : blk (ρ id) = some b := by rw [h0]; simp [blk, hcap]
        have hcold : ¬ Hot ρ (lk (L.set id .dead)) G b := by
          rintro (hb | hb)
          · exact (hown b hb).2 hbk
          · exact hs.apart b ⟨id, _, hid, rfl, hbk⟩ hb
        rw [h0]
        refine .ro c _ cap us b f h1 h2 (fun _ => ⟨rfl, hcold, (Array.getElem?_eq_some_iff.1 h5).1⟩) (fun i j hi hj => ?_) (fun i j hi hj => (h8 i j hi hj).2.less (fun b hb => ?_))
        · have := (h8 i j hi hj).1
          simp only [World.cell?, h5]
          simpa using this
        · rcases hb with hb | hb
          · exact .inl (hown b hb).1
          · exact .inr hb

/-- A part of an own row, alone from then on. -/
theorem retract (hs : Sat ρ (lk L) G w) {id lo n : Nat} {c : Con} {e : TypeId} {v : Value} (hid : L[id]? = some (.vec c e)) (hv : DenV ρ (lk L) (Hot ρ (lk L) G) w (.part id lo n) v) :
    ∃ ρ', Sat ρ' (lk (L.set id .dead ++ [.vec (conSub c lo (lo + n)) e])) G w ∧ stp ρ L G w ρ' (L.set id .dead ++ [.vec (conSub c lo (lo + n)) e]) ∧ ∀ O, Den1 ρ' (lk (L.set id .dead ++ [.vec (conSub c lo (lo + n)) e])) O w (.vec L.length) v := by
  obtain ⟨g0, a, cap, a', g1, g2, g3, rfl, g4, g5⟩ := part_val hs hid hv
  have hlt : id < L.length := (List.getElem?_eq_some_iff.1 hid).1
  generalize hx : AObj.vec (conSub c lo (lo + n)) e = x
  have hxa : x.alive = true := by rw [← hx]; rfl
  have old : ∀ {k : Nat} {o : AObj}, (L.set id .dead ++ [x])[k]? = some o → (k = L.length ∧ o = x) ∨ (k = id ∧ o = .dead) ∨ (k ≠ id ∧ k ≠ L.length ∧ L[k]? = some o) := by
    intro k o ho
    have h2 := (List.getElem?_eq_some_iff.1 ho).1
    simp only [List.length_append, List.length_set, List.length_cons, List.length_nil] at h2
    by_cases hk : k = L.length
    · subst hk
      rw [List.getElem?_append_right (by simp)] at ho
      simp at ho
      exact .inl ⟨rfl, ho.symm⟩
    · rw [List.getElem?_append_left (by simp; omega), List.getElem?_set] at ho
      split at ho
      · rename_i hk2
        first
          | exact .inr (.inl ⟨hk2.symm, by simpa using ho.symm⟩)
          | (rw [if_pos hlt] at ho; exact .inr (.inl ⟨hk2.symm, by simpa using ho.symm⟩))
      · rename_i hk2
        exact .inr (.inr ⟨Ne.symm hk2, hk, ho⟩)
  have new : ∀ {k : Nat} {o : AObj}, L[k]? = some o → k ≠ id → (L.set id .dead ++ [x])[k]? = some o := by
    intro k o ho hk
    have h1 := (List.getElem?_eq_some_iff.1 ho).1
    rw [List.getElem?_append_left (by simpa using h1), List.getElem?_set_ne (Ne.symm hk)]
    exact ho
  have newid : (L.set id .dead ++ [x])[id]? = some .dead := by
    rw [List.getElem?_append_left (by simpa using hlt), List.getElem?_set_self hlt]
  have newx : (L.set id .dead ++ [x])[L.length]? = some x := by
    rw [List.getElem?_append_right (by simp)]
    simp
  have hblk : ∀ b, blk (.slice a' n (cap - lo)) = some b → blk (ρ id) = some b := by
    intro b hb
    cases a' with
    | none => simp [blk] at hb
    | some y =>
      simp only [blk] at hb
      split at hb
      · cases hb
      · rename_i hne
        obtain ⟨b', o, rfl⟩ := g5 (by omega)
        have := g4 (by omega)
        simp only [Option.map_some, add_zero_spot, Option.some.injEq] at this hb
        subst this
        rw [g1]
        simp only [blk]
        rw [if_neg (by omega)]
        exact congrArg some hb
  let ρ' : Nat → Value := fun j => if j = L.length then .slice a' n (cap - lo) else ρ j
  have hown : ∀ b, Own ρ' (lk (L.set id .dead ++ [x])) b → Own ρ (lk L) b := by
    rintro b ⟨k, o, ho, ha, hb⟩
    rcases old ho with ⟨h1, h2⟩ | ⟨h1, h2⟩ | ⟨h1, h2, h3⟩
    · simp only [ρ', h1, if_true] at hb
      exact ⟨id, _, hid, rfl, hblk b hb⟩
    · subst h2; cases ha
    · simp only [ρ', h2, if_false] at hb
      exact ⟨k, o, h3, ha, hb⟩
  have st : stp ρ L G w ρ' (L.set id .dead ++ [x]) := by
    refine ⟨fun k o ho => ?_, fun k o ho => ?_, fun b hb => .inl ?_, fun _ _ _ => rfl, Nat.le_refl _⟩
    · have h1 : k < L.length := (List.getElem?_eq_some_iff.1 ho).1
      simp only [ρ']
      rw [if_neg (by omega)]
    · by_cases hk : k = id
      · subst hk
        exact ⟨.dead, newid, fun c' e' hc => by cases hc⟩
      · exact ⟨o, new ho hk, fun c' e' hc => ⟨c', e', hc, rfl, rfl⟩⟩
    · rcases hb with hb | hb
      · exact .inl (hown b hb)
      · exact .inr hb
  refine ⟨ρ', ⟨fun k o ho => ?_, fun i j oi oj b hi hj ai aj bi bj => ?_, fun b hb => hs.apart b (hown b hb), hs.low⟩, st, fun O => ?_⟩
  · rcases old ho with ⟨h1, h2⟩ | ⟨h1, h2⟩ | ⟨h1, h2, h3⟩
    · rw [h2]
      have st' := st
      simp only [ρ', h1, if_true]
      rw [← hx] at st' ⊢
      have hn : (conSub c lo (lo + n)).n = n := by rw [con_n_sub c (by omega) g0]; omega
      have hsz := con_size_sub c lo (lo + n)
      refine ⟨a', cap - lo, by rw [hn], by rw [hn]; omega, by omega, ?_⟩
      obtain ⟨a2, cap2, k1, k2, k3, k4⟩ := hs.obj id _ hid
      rw [g1] at k1
      cases k1
      by_cases hc : cap = lo
      · exact .inl (by omega)
      · rcases k4 with k4 | ⟨b, o, cells, fr, us, rfl, h5, h6, h7, h8⟩
        · omega
        · refine .inr ⟨b, o + lo * c.size, cells, fr, fun i j => us (lo + i) j, by rw [g4 hc]; simp [add_zero_spot], h5, h6, ?_, fun i j hi hj => ?_⟩
          · rw [hsz]
            have : lo * c.size + (cap - lo) * c.size = cap * c.size := by rw [← Nat.add_mul]; congr 1; omega
            omega
          · rw [hn] at hi
            rw [hsz] at hj ⊢
            obtain ⟨h9, h10⟩ := h8 (lo + i) j (by omega) hj
            refine ⟨?_, by rw [con_cell_sub c j (by omega)]; exact h10.step st'.hot st'.heap st'.size⟩
            rw [show o + lo * c.size + i * c.size + j = o + (lo + i) * c.size + j from by rw [Nat.add_mul]; omega]
            exact h9
    · subst h2; trivial
    · simp only [ρ', h2, if_false]
      exact (hs.obj k o h3).step st (fun _ _ _ => rfl)
  · have cls : ∀ {k : Nat} {o : AObj}, (L.set id .dead ++ [x])[k]? = some o → o.alive = true → blk (ρ' k) = some b → (k = L.length ∧ blk (ρ id) = some b) ∨ (k ≠ id ∧ k ≠ L.length ∧ L[k]? = some o ∧ blk (ρ k) = some b) := by
      intro k o ho ha hb
      rcases old ho with ⟨h1, h2⟩ | ⟨h1, h2⟩ | ⟨h1, h2, h3⟩
      · simp only [ρ', h1, if_true] at hb
        exact .inl ⟨h1, hblk b hb⟩
      · subst h2; cases ha
      · simp only [ρ', h2, if_false] at hb
        exact .inr ⟨h1, h2, h3, hb⟩
    rcases cls hi ai bi with ⟨h1, h2⟩ | ⟨h1, h2, h3, h4⟩ <;> rcases cls hj aj bj with ⟨k1, k2⟩ | ⟨k1, k2, k3, k4⟩
    · rw [h1, k1]
    · exact absurd (hs.inj j id oj _ b k3 hid aj rfl k4 h2) k1
    · exact absurd (hs.inj i id oi _ b h3 hid ai rfl h4 k2) h1
    · exact hs.inj i j oi oj b h3 k3 ai aj h4 k4
  · unfold Den1
    refine ⟨rfl, x, newx, fun c' e' _ => ?_⟩
    simp only [ρ', if_true]

theorem nil1_ok {ces : List (Bool × Con × TypeId)} {a : AV} (hs : Sat ρ (lk L) G w) :
    (∀ v, DenV ρ (lk L) (Hot ρ (lk L) G) w a v → ∃ ρ', Sat ρ' (lk (nil1 ces L a).2.1) G w ∧ stp ρ L G w ρ' (nil1 ces L a).2.1 ∧ DenV ρ' (lk (nil1 ces L a).2.1) (Hot ρ' (lk (nil1 ces L a).2.1) G) w (nil1 ces L a).1 v) ∧
    (∀ cs, DenC ρ (lk L) (Hot ρ (lk L) G) w a cs → ∃ ρ', Sat ρ' (lk (nil1 ces L a).2.1) G w ∧ stp ρ L G w ρ' (nil1 ces L a).2.1 ∧ DenC ρ' (lk (nil1 ces L a).2.1) (Hot ρ' (lk (nil1 ces L a).2.1) G) w (nil1 ces L a).1 cs) := by
  have same : ∀ a, (∀ v, DenV ρ (lk L) (Hot ρ (lk L) G) w a v → ∃ ρ', Sat ρ' (lk L) G w ∧ stp ρ L G w ρ' L ∧ DenV ρ' (lk L) (Hot ρ' (lk L) G) w a v) ∧ (∀ cs, DenC ρ (lk L) (Hot ρ (lk L) G) w a cs → ∃ ρ', Sat ρ' (lk L) G w ∧ stp ρ L G w ρ' L ∧ DenC ρ' (lk L) (Hot ρ' (lk L) G) w a cs) :=
    fun a => ⟨fun v h => ⟨ρ, hs, Step.refl _ _ _ _, h⟩, fun cs h => ⟨ρ, hs, Step.refl _ _ _ _, h⟩⟩
  unfold nil1
  split
  · split
    · rename_i ro c e r
      cases hc : c.n.beq 0
      · exact same _
      · have hc := Nat.eq_of_beq_eq_true hc
        cases ro
        · refine ⟨fun v h => ?_, fun cs h => ?_⟩
          · unfold DenV at h
            obtain ⟨x, rfl⟩ := h
            obtain ⟨ρ', h1, h2, h3⟩ := ext1 hs hc e x
            exact ⟨ρ', h1, h2, by simp only [cond_true, cond_false]; unfold DenV; exact h3 _⟩
          · unfold DenC at h
            obtain ⟨u, rfl, x, rfl⟩ := h
            obtain ⟨ρ', h1, h2, h3⟩ := ext1 hs hc e x
            exact ⟨ρ', h1, h2, by simp only [cond_true, cond_false]; unfold DenC; exact ⟨_, rfl, h3 _⟩⟩
        · refine ⟨fun v h => ?_, fun cs h => ?_⟩
          · unfold DenV at h
            obtain ⟨x, rfl⟩ := h
            exact ⟨ρ, hs, Step.refl _ _ _ _, DenV_s (emp_ro hc x)⟩
          · unfold DenC at h
            obtain ⟨u, rfl, x, rfl⟩ := h
            exact ⟨ρ, hs, Step.refl _ _ _ _, by simp only [cond_true]; unfold DenC; exact ⟨_, rfl, emp_ro hc x⟩⟩
    · exact same _
  · rename_i id
    split
    · split
      · rename_i c e hid
        obtain ⟨f1, f2, f3⟩ := freeze1 hs hid
        have key : ∀ v, Den1 ρ (lk L) (Hot ρ (lk L) G) w (.vec id) v → v = ρ id := by
          intro v hv
          unfold Den1 at hv
          obtain ⟨_, o, ho, h4⟩ := hv
          rw [show lk L id = some (.vec c e) from hid] at ho
          cases ho
          exact h4 c e rfl
        refine ⟨fun v h => ⟨ρ, f1, f2, ?_⟩, fun cs h => ⟨ρ, f1, f2, ?_⟩⟩
        · unfold DenV at h
          rw [key v h]
          exact DenV_s f3
        · unfold DenC at h
          obtain ⟨u, rfl, h5⟩ := h
          unfold DenC
          exact ⟨u, rfl, by rw [key u h5]; exact f3⟩
      · exact same _
    · exact same _
  · exact same _
  · rename_i id lo n
    split
    · rename_i c e hid
      refine ⟨fun v h => ?_, fun cs h => ?_⟩
      · obtain ⟨ρ', h1, h2, h3⟩ := retract hs hid h
        exact ⟨ρ', h1, h2, by unfold DenV; exact h3 _⟩
      · unfold DenC at h
        obtain ⟨u, rfl, h5⟩ := h
        obtain ⟨ρ', h1, h2, h3⟩ := retract hs hid (by unfold DenV; exact h5)
        exact ⟨ρ', h1, h2, by unfold DenC; exact ⟨u, rfl, h3 _⟩⟩
    · exact same _
  · exact same _

theorem nilSegs_ok : ∀ (as : List AV) {ces : List (Bool × Con × TypeId)} {L : List AObj} {ρ : Nat → Value} {cs : List Value}, Sat ρ (lk L) G w → DenSegs ρ (lk L) (Hot ρ (lk L) G) w as cs →
    ∃ ρ', Sat ρ' (lk (nilL nil1 ces L as).2.1) G w ∧ stp ρ L G w ρ' (nilL nil1 ces L as).2.1 ∧ DenSegs ρ' (lk (nilL nil1 ces L as).2.1) (Hot ρ' (lk (nilL nil1 ces L as).2.1) G) w (nilL nil1 ces L as).1 cs
  | [], ces, L, ρ, cs, hs, hd => ⟨ρ, hs, Step.refl _ _ _ _, hd⟩
  | a :: as, ces, L, ρ, cs, hs, hd => by
    obtain ⟨c1, c2, rfl, h1, h2⟩ := DenSegs_cons.1 hd
    obtain ⟨ρ1, h3, h4, h5⟩ := (nil1_ok (ces := ces) hs).2 c1 h1
    obtain ⟨ρ2, h6, h7, h8⟩ := nilSegs_ok as (ces := (nil1 ces L a).2.2) h3 (DenSegs.step h4 as c2 h2)
    exact ⟨ρ2, h6, h4.trans h7, DenSegs_cons.2 ⟨c1, c2, rfl, DenC.step h7 _ _ h5, h8⟩⟩

theorem nilA_ok {ces : List (Bool × Con × TypeId)} {a : AV} {v : Value} (hs : Sat ρ (lk L) G w) (hd : DenV ρ (lk L) (Hot ρ (lk L) G) w a v) :
    ∃ ρ', Sat ρ' (lk (nilA ces L a).2.1) G w ∧ stp ρ L G w ρ' (nilA ces L a).2.1 ∧ DenV ρ' (lk (nilA ces L a).2.1) (Hot ρ' (lk (nilA ces L a).2.1) G) w (nilA ces L a).1 v := by
  unfold nilA
  split
  · rename_i segs
    unfold DenV at hd
    obtain ⟨cs, h1, h2⟩ := hd
    obtain ⟨ρ', h3, h4, h5⟩ := nilSegs_ok segs (ces := ces) hs h2
    exact ⟨ρ', h3, h4, by unfold DenV; exact ⟨cs, h1, h5⟩⟩
  · exact (nil1_ok hs).1 v hd

theorem nilVals_ok : ∀ (as : List AV) {ces : List (Bool × Con × TypeId)} {L : List AObj} {ρ : Nat → Value} {vs : List Value}, Sat ρ (lk L) G w → DenL ρ (lk L) (Hot ρ (lk L) G) w as vs →
    ∃ ρ', Sat ρ' (lk (nilL nilA ces L as).2.1) G w ∧ stp ρ L G w ρ' (nilL nilA ces L as).2.1 ∧ DenL ρ' (lk (nilL nilA ces L as).2.1) (Hot ρ' (lk (nilL nilA ces L as).2.1) G) w (nilL nilA ces L as).1 vs
  | [], ces, L, ρ, cs, hs, hd => ⟨ρ, hs, Step.refl _ _ _ _, hd⟩
  | a :: as, ces, L, ρ, cs, hs, hd => by
    obtain ⟨v, rest, rfl, h1, h2⟩ := DenL_cons.1 hd
    obtain ⟨ρ1, h3, h4, h5⟩ := nilA_ok (ces := ces) hs h1
    obtain ⟨ρ2, h6, h7, h8⟩ := nilVals_ok as (ces := (nilA ces L a).2.2) h3 (DenL.step h4 as rest h2)
    exact ⟨ρ2, h6, h4.trans h7, DenL_cons.2 ⟨v, rest, rfl, DenV.step h7 _ _ h5, h8⟩⟩

theorem nilV_ok {ces : List (Bool × Con × TypeId)} {a : AV} {v : Value} (hs : Sat ρ (lk L) G w) (hd : DenV ρ (lk L) (Hot ρ (lk L) G) w a v) :
    ∃ ρ', Sat ρ' (lk (nilV ces L a).2) G w ∧ stp ρ L G w ρ' (nilV ces L a).2 ∧ DenV ρ' (lk (nilV ces L a).2) (Hot ρ' (lk (nilV ces L a).2) G) w (nilV ces L a).1 v := by
  unfold nilV
  split
  · rename_i vs
    unfold DenV at hd
    obtain ⟨us, h1, h2⟩ := hd
    obtain ⟨ρ', h3, h4, h5⟩ := nilVals_ok vs (ces := ces) hs h2
    exact ⟨ρ', h3, h4, by unfold DenV; exact ⟨us, h1, h5⟩⟩
  · exact nilA_ok hs hd

theorem canR_good {ces : List (Bool × Con × TypeId)} {r r' : AV} {v : Value} {L' : List AObj} (h : Good ρ H G w (lk L) r v w') (h0 : ∀ id, H id = none) (hc : canR ces L r = some (L', r')) : Good ρ H G w (lk L') r' v w' := by
  unfold canR at hc
  simp only [Bool.cond_eq_ite] at hc
  split at hc
  · rename_i hn
    split at hc
    · rename_i L1 r1 hL hr
      simp only [Option.some.injEq, Prod.mk.injEq] at hc
      obtain ⟨rfl, rfl⟩ := hc
      obtain ⟨ρ1, h1, h2, h3, h4⟩ := h
      obtain ⟨ρ2, h5, h6, h7⟩ := nilV_ok (ces := ces) h1 h2
      exact Good.view (m := 0) ⟨ρ2, h5, h7, h3.trans h6, h4⟩ (nodupB_spec hn) hL (fun i hi => by omega) (fun id _ => h0 id) hr
    · cases hc
  · cases hc
end
end Go.Sx
