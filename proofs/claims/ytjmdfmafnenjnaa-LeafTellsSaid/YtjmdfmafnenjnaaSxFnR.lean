import Derived.Test.YtjmdfmafnenjnaaSxFn
/-! Functions that may hand out rows they were handed: what they are handed stands still from then on. -/
namespace Go.Sx
open Go

def frzP1 (a : AV) (ids : List Nat) (k : AV → List Nat → RM Res) : RM Res :=
  match a with
  | .vec id => .look id fun
    | some (.vec c _) => k (.s (.ro c)) (id :: ids)
    | _ => .fail "frz"
  | a => k a ids

def frzPL : List AV → List Nat → (List AV → List Nat → RM Res) → RM Res
  | [], ids, k => k [] ids
  | a :: as, ids, k => frzP1 a ids fun a' ids => frzPL as ids fun as' ids => k (a' :: as') ids

def frzPV (a : AV) (ids : List Nat) (k : AV → List Nat → RM Res) : RM Res :=
  match a with
  | .agg segs => frzPL segs ids fun s ids => k (.agg s) ids
  | a => frzP1 a ids k

def frzPA : List AV → List Nat → (List AV → List Nat → RM Res) → RM Res
  | [], ids, k => k [] ids
  | a :: as, ids, k => frzPV a ids fun a' ids => frzPA as ids fun as' ids => k (a' :: as') ids

/-- The summary of a contract whose answers may share memory with what it was handed. -/
def sumR (ts rs : List Ty) (pre : AL ts → List Prop) (F : AL ts → AL rs) : Nat → List AV → RM Res := fun _ args =>
  frzPA args [] fun args ids => match allM (rn (fun _ => none) 20) args with
    | some args => (match AL.rd ts args with
      | some x => bif rs.all Ty.flatR then .ret ⟨pre x, ids.map fun i => (i, .dead), (AL.res rs (F x)).1, fun base => oneOf (AL.out base rs (F x)).1⟩ else .fail "sum: not flat"
      | none => .fail "sum: arguments")
    | none => .fail "sum: names"

section
variable {ρ ρ' : Nat → Value} {H H' : AHeap} {G O O' : Nat → Prop} {w w' : World} {P : Program} {Z : Glob}

/-- What is frozen on the way. -/
structure Frzn (ρ : Nat → Value) (H : AHeap) (G : Nat → Prop) (ids ids' : List Nat) : Prop where
  sub : ∀ i ∈ ids, i ∈ ids'
  vec : ∀ i ∈ ids', i ∈ ids ∨ ∃ c e, H i = some (.vec c e)

abbrev Colder (ρ : Nat → Value) (H : AHeap) (G : Nat → Prop) (ids : List Nat) (O : Nat → Prop) : Prop := (∀ b, O b → Hot ρ H G b) ∧ ∀ i ∈ ids, ∀ b, blk (ρ i) = some b → ¬ O b

theorem Frzn.trans {a b c : List Nat} (h : Frzn ρ H G a b) (k : Frzn ρ H G b c) : Frzn ρ H G a c :=
  ⟨fun i hi => k.sub i (h.sub i hi), fun i hi => (k.vec i hi).elim (fun h1 => h.vec i h1) .inr⟩

theorem frzP1_ok {a : AV} {ids : List Nat} {k : AV → List Nat → RM Res} {q : Res} (h : (frzP1 a ids k).eval H = some q) (hs : Sat ρ H G w) :
    ∃ a' ids', (k a' ids').eval H = some q ∧ Frzn ρ H G ids ids' ∧ ∀ O, Colder ρ H G ids' O → (∀ v, DenV ρ H (Hot ρ H G) w a v → DenV ρ H O w a' v) ∧ (∀ cs, DenC ρ H (Hot ρ H G) w a cs → DenC ρ H O w a' cs) := by
  have stp : ∀ O, Colder ρ H G ids O → Step ρ H (Hot ρ H G) w ρ H O w := fun O hO => ⟨fun _ _ _ => rfl, fun _ o h => ⟨o, h, fun c' e' e => ⟨c', e', e, rfl, rfl⟩⟩, fun b hb => .inl (hO.1 b hb), fun _ _ _ => rfl, Nat.le_refl _⟩
  unfold frzP1 at h
  split at h
  · rename_i id
    simp only [RM.eval] at h
    split at h
    · rename_i c e hc
      obtain ⟨r, cap, h0, h1, h2, h3⟩ := hs.obj id _ hc
      refine ⟨_, _, h, ⟨fun i hi => by simp [hi], fun i hi => ?_⟩, fun O hO => ?_⟩
      · rcases List.mem_cons.1 hi with rfl | hi
        · exact .inr ⟨c, e, hc⟩
        · exact .inl hi
      · have key : ∀ v, Den1 ρ H (Hot ρ H G) w (.vec id) v → DenS O w (.ro c) v := by
          intro v hv
          unfold Den1 at hv
          obtain ⟨_, o, ho, h4⟩ := hv
          rw [hc] at ho
          cases ho
          rw [h4 c e rfl]
          have hcold := hO.2 id (by simp)
          rw [h0] at hcold ⊢
          rcases h3 with h3 | ⟨b, f, cells, fr, us, rfl, h5, h6, h7, h8⟩
          · exact .ro c r cap (fun _ _ => undef) 0 0 h1 h2 (fun h => by omega) (fun i j hi hj => by omega) (fun i j hi hj => by omega)
          · by_cases hcap : cap = 0
            · exact .ro c _ cap (fun _ _ => undef) 0 0 h1 h2 (fun h => by omega) (fun i j hi hj => by omega) (fun i j hi hj => by omega)
            · refine .ro c _ cap us b f h1 h2 (fun _ => ⟨rfl, hcold b (by simp [blk, hcap]), (Array.getElem?_eq_some_iff.1 h5).1⟩) (fun i j hi hj => ?_) (fun i j hi hj => (h8 i j hi hj).2.less hO.1)
              have := (h8 i j hi hj).1
              simp only [World.cell?, h5]
              simpa using this
        exact ⟨fun v hv => DenV_s (key v (by unfold DenV at hv; exact hv)), fun cs hv => by unfold DenC at *; obtain ⟨u, rfl, h9⟩ := hv; exact ⟨u, rfl, key u h9⟩⟩
    · simp [RM.eval] at h
  · exact ⟨_, _, h, ⟨fun i hi => hi, fun i hi => .inl hi⟩, fun O hO => ⟨fun v hv => DenV.step (stp O hO) _ v hv, fun cs hv => DenC.step (stp O hO) _ cs hv⟩⟩

theorem Colder.sub {a b : List Nat} (h : ∀ i ∈ a, i ∈ b) (k : Colder ρ H G b O) : Colder ρ H G a O := ⟨k.1, fun i hi => k.2 i (h i hi)⟩

theorem frzPL_ok : ∀ {as : List AV} {ids : List Nat} {k : List AV → List Nat → RM Res} {q : Res}, (frzPL as ids k).eval H = some q → Sat ρ H G w →
    ∃ as' ids', (k as' ids').eval H = some q ∧ Frzn ρ H G ids ids' ∧ ∀ O, Colder ρ H G ids' O → ∀ cs, DenSegs ρ H (Hot ρ H G) w as cs → DenSegs ρ H O w as' cs
  | [], ids, k, q, h, hs => ⟨[], ids, h, ⟨fun _ h => h, fun _ h => .inl h⟩, fun O _ cs hd => by rw [DenSegs_nil.1 hd]; exact DenSegs_nil.2 rfl⟩
  | a :: as, ids, k, q, h, hs => by
    obtain ⟨a', i1, h1, f1, h2⟩ := frzP1_ok h hs
    obtain ⟨as', i2, h3, f2, h4⟩ := frzPL_ok h1 hs
    refine ⟨a' :: as', i2, h3, f1.trans f2, fun O hO cs hd => ?_⟩
    obtain ⟨c1, c2, rfl, h6, h7⟩ := DenSegs_cons.1 hd
    exact DenSegs_cons.2 ⟨c1, c2, rfl, (h2 O (Colder.sub f2.sub hO)).2 c1 h6, h4 O hO c2 h7⟩

theorem frzPV_ok {a : AV} {ids : List Nat} {k : AV → List Nat → RM Res} {q : Res} (h : (frzPV a ids k).eval H = some q) (hs : Sat ρ H G w) :
    ∃ a' ids', (k a' ids').eval H = some q ∧ Frzn ρ H G ids ids' ∧ ∀ O, Colder ρ H G ids' O → ∀ v, DenV ρ H (Hot ρ H G) w a v → DenV ρ H O w a' v := by
  unfold frzPV at h
  split at h
  · obtain ⟨as', i1, h1, f1, h2⟩ := frzPL_ok h hs
    refine ⟨_, i1, h1, f1, fun O hO v hd => ?_⟩
    unfold DenV at *
    obtain ⟨cs, h3, h4⟩ := hd
    exact ⟨cs, h3, h2 O hO cs h4⟩
  · obtain ⟨a', i1, h1, f1, h2⟩ := frzP1_ok h hs
    exact ⟨a', i1, h1, f1, fun O hO => (h2 O hO).1⟩

theorem frzPA_ok : ∀ {as : List AV} {ids : List Nat} {k : List AV → List Nat → RM Res} {q : Res}, (frzPA as ids k).eval H = some q → Sat ρ H G w →
    ∃ as' ids', (k as' ids').eval H = some q ∧ Frzn ρ H G ids ids' ∧ ∀ O, Colder ρ H G ids' O → ∀ cs, DenL ρ H (Hot ρ H G) w as cs → DenL ρ H O w as' cs
  | [], ids, k, q, h, hs => ⟨[], ids, h, ⟨fun _ h => h, fun _ h => .inl h⟩, fun O _ cs hd => by rw [DenL_nil.1 hd]; exact DenL_nil.2 rfl⟩
  | a :: as, ids, k, q, h, hs => by
    obtain ⟨a', i1, h1, f1, h2⟩ := frzPV_ok h hs
    obtain ⟨as', i2, h3, f2, h4⟩ := frzPA_ok h1 hs
    refine ⟨a' :: as', i2, h3, f1.trans f2, fun O hO cs hd => ?_⟩
    obtain ⟨c1, c2, rfl, h6, h7⟩ := DenL_cons.1 hd
    exact DenL_cons.2 ⟨c1, c2, rfl, h2 O (Colder.sub f2.sub hO) c1 h6, h4 O hO c2 h7⟩

theorem findUp_dead : ∀ (ids : List Nat) (j : Nat), findUp (ids.map fun i => (i, AObj.dead)) j = if j ∈ ids then some .dead else none
  | [], j => rfl
  | i :: ids, j => by
    simp only [List.map_cons, findUp, findUp_dead ids j]
    by_cases h : j ∈ ids
    · simp [h]
    · by_cases h2 : j = i
      · subst h2; simp [h]
      · simp [h, h2]

theorem FnOk.sumR {f : FuncId} {ts rs : List Ty} {pre : AL ts → List Prop} {F : AL ts → AL rs} (h : FnOk P Z f ts rs pre F) : SOk1 P Z f (sumR ts rs pre F) := by
  intro base args H q hq hn ρ G w vs hfresh hz hs hd
  unfold Sx.sumR at hq
  obtain ⟨args1, ids, hq, hf, h1⟩ := frzPA_ok hq hs
  split at hq
  · rename_i args2 h2
    split at hq
    · rename_i x h3
      rw [Bool.cond_eq_ite] at hq
      split at hq
      · rename_i hflat
        simp only [RM.eval, Option.some.injEq] at hq
        subst hq
        have hvec : ∀ i ∈ ids, ∃ c e, H i = some (.vec c e) := fun i hi => (hf.vec i hi).elim (fun h => by simp at h) (fun h => h)
        let Gc : Nat → Prop := fun b => Hot ρ H G b ∧ ∀ i ∈ ids, blk (ρ i) ≠ some b
        have hot0 : ∀ b, Hot (fun _ => undef) (fun _ => none) Gc b → Gc b := by
          rintro b (⟨id, o, ho, _⟩ | hb)
          · cases ho
          · exact hb
        have hcold : Colder ρ H G ids (Hot (fun _ => undef) (fun _ => none) Gc) := ⟨fun b hb => (hot0 b hb).1, fun i hi b hb hO => (hot0 b hO).2 i hi hb⟩
        have E : Emb (fun _ => none) ρ H (Hot (fun _ => undef) (fun _ => none) Gc) (fun _ => undef) (fun _ => none) (Hot (fun _ => undef) (fun _ => none) Gc) := ⟨fun i j hij => (by cases hij), fun b hb => hb⟩
        have hd2 := rnL_den E h2 (h1 _ hcold vs hd)
        have hd3 : DenL (fun _ => undef) (fun _ => none) (Hot (fun _ => undef) (fun _ => none) Gc) w (AL.av ts x) vs := AL.rd_ok h3 hd2
        refine (h x (AL.okL hd3) hn Gc w vs (fun b hb => hot_lt hs hb.1) hz.1 hd3).mono ?_
        rintro e w' ⟨v, he, ρ1, g1, g2, g3, g4⟩
        refine ⟨v, he, ?_⟩
        simp only []
        have hpl := AL.out_plain hflat (x := F x) (base := 0)
        have hobjs : (AL.res rs (F x)).1 = (AL.out 0 rs (F x)).2 := rfl
        rw [← hobjs] at hpl
        generalize hL : (AL.res rs (F x)).1 = L at *
        have hnew : ∀ b, Own ρ1 (lk L) b → w.heap.size ≤ b := fun b hb => by
          rcases g3.hot b (.inl hb) with h5 | h5
          · exact (g1.apart b hb (hot0 b h5)).elim
          · exact h5
        let ρ2 : Nat → Value := fun id => if base ≤ id ∧ id < base + L.length then ρ1 (id - base) else ρ id
        let H2 := resH H (ids.map fun i => (i, AObj.dead)) base L
        have hold : ∀ {id : Nat} {o : AObj}, H id = some o → ¬ (base ≤ id ∧ id < base + L.length) := fun {id o} ho hc => by
          have := hfresh (id - base) (by simp only []; omega)
          rw [show base + (id - base) = id from by omega, ho] at this
          cases this
        have hH2 : ∀ id, H2 id = if id ∈ ids then some .dead else if base ≤ id ∧ id < base + L.length then L[id - base]? else H id := fun id => by
          simp only [H2, resH, findUp_dead]
          split
          · rename_i hx
            split at hx
            · rename_i hi; cases hx; rw [if_pos hi]
            · cases hx
          · rename_i hx
            split at hx
            · cases hx
            · rename_i hi; rw [if_neg hi]
        have hidn : ∀ id, id ∈ ids → ¬ (base ≤ id ∧ id < base + L.length) := fun id hi => by
          obtain ⟨c, e, hce⟩ := hvec id hi
          exact hold hce
        have sh : Shift base L.length ρ1 (lk L) ρ2 H2 := ⟨fun i hi => by simp only [ρ2]; rw [if_pos (by omega)]; congr 1; omega, fun i hi => by
          rw [hH2, if_neg (fun hm => hidn _ hm ⟨by omega, by omega⟩), if_pos (by omega)]; simp [lk]⟩
        have cases2 : ∀ {id : Nat} {o : AObj}, H2 id = some o → o.alive = true → (base ≤ id ∧ id < base + L.length ∧ L[id - base]? = some o ∧ ρ2 id = ρ1 (id - base)) ∨ (id ∉ ids ∧ H id = some o ∧ ρ2 id = ρ id) := by
          intro id o ho ha
          rw [hH2] at ho
          split at ho
          · cases ho; cases ha
          · rename_i hi
            split at ho
            · rename_i hc
              exact .inl ⟨hc.1, hc.2, ho, by simp only [ρ2]; rw [if_pos hc]⟩
            · rename_i hc
              exact .inr ⟨hi, ho, by simp only [ρ2]; rw [if_neg hc]⟩
        have notf : ∀ {id : Nat} {o : AObj} {b : Nat}, id ∉ ids → H id = some o → o.alive = true → blk (ρ id) = some b → ∀ i ∈ ids, blk (ρ i) ≠ some b := by
          intro id o b hid ho ha hb i hi hb2
          obtain ⟨c, e, hce⟩ := hvec i hi
          have := hs.inj id i o _ b ho hce ha rfl hb hb2
          exact hid (this ▸ hi)
        have hown2 : ∀ b, Own ρ2 H2 b → Own ρ1 (lk L) b ∨ (Own ρ H b ∧ ∀ i ∈ ids, blk (ρ i) ≠ some b) := by
          rintro b ⟨id, o, ho, ha, hb⟩
          rcases cases2 ho ha with ⟨_, _, h5, h6⟩ | ⟨h5, h6, h7⟩
          · rw [h6] at hb
            exact .inl ⟨id - base, o, h5, ha, hb⟩
          · rw [h7] at hb
            exact .inr ⟨⟨id, o, h6, ha, hb⟩, notf h5 h6 ha hb⟩
        have hhot2 : ∀ b, Hot ρ2 H2 G b → Hot ρ1 (lk L) Gc b := by
          rintro b (hb | hb)
          · rcases hown2 b hb with h5 | h5
            · exact .inl h5
            · exact .inr ⟨.inl h5.1, h5.2⟩
          · refine .inr ⟨.inr hb, fun i hi hbk => ?_⟩
            obtain ⟨c, e, hce⟩ := hvec i hi
            exact hs.apart b ⟨i, _, hce, rfl, hbk⟩ hb
        have heap : ∀ b, b < w.heap.size → w'.heap[b]? = w.heap[b]? := fun b hb => g4.heap b hb (fun ⟨id, o, ho, _⟩ => by cases ho)
        have hsize : w.heap.size ≤ w'.heap.size := g3.size
        have st : Step ρ H (Hot ρ H G) w ρ2 H2 (Hot ρ2 H2 G) w' := by
          refine ⟨fun id o ho => ?_, fun id o ho => ?_, fun b hb => ?_, fun b hb _ => heap b hb, hsize⟩
          · simp only [ρ2]; rw [if_neg (hold ho)]
          · by_cases hi : id ∈ ids
            · exact ⟨.dead, by rw [hH2, if_pos hi], fun c' e' hc => by cases hc⟩
            · exact ⟨o, by rw [hH2, if_neg hi, if_neg (hold ho)]; exact ho, fun c' e' hc => ⟨c', e', hc, rfl, rfl⟩⟩
          · rcases hb with hb | hb
            · rcases hown2 b hb with h5 | h5
              · exact .inr (hnew b h5)
              · exact .inl (.inl h5.1)
            · exact .inl (.inr hb)
        refine ⟨ρ2, ⟨fun id o ho => ?_, fun i j oi oj b hi hj ai aj bi bj => ?_, fun b hb hG => ?_, fun b hb => Nat.lt_of_lt_of_le (hs.low b hb) hsize⟩, res_shift (.inr hhot2) (O := Hot ρ1 (lk L) Gc) (hL ▸ sh) (by rw [hL]; exact g2), st, ⟨g4.os, g4.tape, g4.output, fun b hb _ => heap b hb⟩⟩
        · cases hal : o.alive
          · cases o with
            | dead => trivial
            | own _ _ => cases hal
            | vec _ _ => cases hal
            | map _ _ => cases hal
          · rcases cases2 ho hal with ⟨_, _, h5, h6⟩ | ⟨h5, h6, h7⟩
            · rw [h6]
              have hobj := g1.obj (id - base) o h5
              obtain ⟨r, y, e', hr, rfl⟩ := hpl o (List.mem_of_getElem? h5)
              obtain ⟨a0, cap, k0, k1, k2, k3⟩ := hobj
              refine ⟨a0, cap, k0, k1, k2, k3.imp (fun h => h) ?_⟩
              rintro ⟨b, f0, cells, fr, us, k4, k5, k6, k7, k8⟩
              exact ⟨b, f0, cells, fr, us, k4, k5, k6, k7, fun i j hi hj => ⟨(k8 i j hi hj).1, RK.flat_den hr hj (k8 i j hi hj).2⟩⟩
            · rw [h7]
              exact (hs.obj id o h6).step st (fun b ha hb => heap b (own_lt hs ⟨id, o, h6, ha, hb⟩))
        · rcases cases2 hi ai with ⟨i1, i2, i3, i4⟩ | ⟨i1, i2, i3⟩
          · rw [i4] at bi
            rcases cases2 hj aj with ⟨j1, j2, j3, j4⟩ | ⟨j1, j2, j3⟩
            · rw [j4] at bj
              have := g1.inj (i - base) (j - base) oi oj b i3 j3 ai aj bi bj
              omega
            · rw [j3] at bj
              have := own_lt hs ⟨j, oj, j2, aj, bj⟩
              have := hnew b ⟨_, oi, i3, ai, bi⟩
              omega
          · rw [i3] at bi
            rcases cases2 hj aj with ⟨j1, j2, j3, j4⟩ | ⟨j1, j2, j3⟩
            · rw [j4] at bj
              have := own_lt hs ⟨i, oi, i2, ai, bi⟩
              have := hnew b ⟨_, oj, j3, aj, bj⟩
              omega
            · rw [j3] at bj
              exact hs.inj i j oi oj b i2 j2 ai aj bi bj
        · rcases hown2 b hb with h5 | h5
          · have := hnew b h5
            have := hs.low b hG
            omega
          · exact hs.apart b h5.1 hG
      · simp [RM.eval] at hq
    · simp [RM.eval] at hq
  · simp [RM.eval] at hq
end
end Go.Sx
