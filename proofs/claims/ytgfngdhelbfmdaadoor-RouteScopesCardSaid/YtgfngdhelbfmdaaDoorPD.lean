/- Lemmas: SxFnR, SxLoop, SxWrap, SxDen, SxCut, Hd, SxSpec, SxAuto, Lb, SxRange, D0, SxFrz, A0, B0, D3, SxRoom, SxLit, A1, A2, A3, B1, A4, A5, A6, A7, A8, A9, Q1, Q2, Q3, Q4. -/
import Derived.ProofKit
import Derived.Carry
import Derived.OpenShut
import Derived.Deep.DeepHandedRow
import Derived.JoinedOf
import Derived.Test.YtgfngdhelbfmdaaDoorRows
import Derived.LaidMore
import Derived.Stop.Joined
import Derived.Lib.Bytealg
import Derived.Maps.RangeRun
import Derived.Test.YtgfngdhelbfmdaaDoorProg
import Derived.Lib.Walk
import Derived.WalkKit
import Derived.Laws.Externs
import Derived.Shelf.SortM.Plain
import Derived.Shelf.SortM.SortNone
import Derived.Ground.SlgmProg
import Derived.Test.YtgfngdhelbfmdaaDoorPC

/-! Functions that may hand out rows they were handed: what they are handed stands still from then on. -/
namespace Go.Sx
open Go

def frzP1 (a : AV) (ids : List Nat) (k : AV → List Nat → RM Res) : RM Res :=
  match a with
  | .vec id => .look id fun
    | some (.vec c _) => k (.s (.ro c)) (id :: ids)
    | _ => .fail "frz"
  | a => k a ids

def frzPL : List AV → List Nat → (List AV → List Nat → RM Res) → RM Res
  | [], ids, k => k [] ids
  | a :: azs, ids, k => frzP1 a ids fun a' ids => frzPL azs ids fun azs' ids => k (a' :: azs') ids

def frzPV (a : AV) (ids : List Nat) (k : AV → List Nat → RM Res) : RM Res :=
  match a with
  | .agg segs => frzPL segs ids fun s ids => k (.agg s) ids
  | a => frzP1 a ids k

def frzPA : List AV → List Nat → (List AV → List Nat → RM Res) → RM Res
  | [], ids, k => k [] ids
  | a :: azs, ids, k => frzPV a ids fun a' ids => frzPA azs ids fun azs' ids => k (a' :: azs') ids

/-- The summary of a contract whose answers may share memory with what it was handed. -/
def sumR (ts rs : List Ty) (pre : AL ts → List Prop) (F : AL ts → AL rs) : Nat → List AV → RM Res := fun _ args =>
  frzPA args [] fun args ids => match allM (rn (fun _ => none) 20) args with
    | some args => (match AL.rd ts args with
      | some x => bif rs.all Ty.flatR then .ret ⟨pre x, ids.map fun i => (i, .dead), (AL.res rs (F x)).1, fun base => oneOf (AL.out base rs (F x)).1⟩ else .fail "sum: not flat"
      | none => .fail "sum: arguments")
    | none => .fail "sum: names"

section
variable {ρ ρ' : Nat → Value} {H H' : AHeap} {G O O' : Nat → Prop} {w w' : World} {P : Program} {Z : Glob}

/-- What is frozen on the way. -/
structure Frzn (ρ : Nat → Value) (H : AHeap) (G : Nat → Prop) (ids ids' : List Nat) : Prop where
  sub : ∀ i ∈ ids, i ∈ ids'
  vec : ∀ i ∈ ids', i ∈ ids ∨ ∃ c e, H i = some (.vec c e)

abbrev Colder (ρ : Nat → Value) (H : AHeap) (G : Nat → Prop) (ids : List Nat) (O : Nat → Prop) : Prop := (∀ b, O b → Hot ρ H G b) ∧ ∀ i ∈ ids, ∀ b, blk (ρ i) = some b → ¬ O b

theorem Frzn.trans {a b c : List Nat} (h : Frzn ρ H G a b) (k : Frzn ρ H G b c) : Frzn ρ H G a c :=
  ⟨fun i hi => k.sub i (h.sub i hi), fun i hi => (k.vec i hi).elim (fun h1 => h.vec i h1) .inr⟩

theorem frzP1_ok {a : AV} {ids : List Nat} {k : AV → List Nat → RM Res} {q : Res} (h : (frzP1 a ids k).eval H = some q) (hs : Sat ρ H G w) :
    ∃ a' ids', (k a' ids').eval H = some q ∧ Frzn ρ H G ids ids' ∧ ∀ O, Colder ρ H G ids' O → (∀ v, DenV ρ H (Hot ρ H G) w a v → DenV ρ H O w a' v) ∧ (∀ cs, DenC ρ H (Hot ρ H G) w a cs → DenC ρ H O w a' cs) := by
  have stp : ∀ O, Colder ρ H G ids O → Step ρ H (Hot ρ H G) w ρ H O w := fun O hO => ⟨fun _ _ _ => rfl, fun _ o h => ⟨o, h, fun c' e' e => ⟨c', e', e, rfl, rfl⟩⟩, fun b hb => .inl (hO.1 b hb), fun _ _ _ => rfl, Nat.le_refl _⟩
  unfold frzP1 at h
  split at h
  · rename_i id
    simp only [RM.eval] at h
    split at h
    · rename_i c e hc
      obtain ⟨r, cap, h0, h1, h2, h3⟩ := hs.obj id _ hc
      refine ⟨_, _, h, ⟨fun i hi => by simp [hi], fun i hi => ?_⟩, fun O hO => ?_⟩
      · rcases List.mem_cons.1 hi with rfl | hi
        · exact .inr ⟨c, e, hc⟩
        · exact .inl hi
      · have key : ∀ v, Den1 ρ H (Hot ρ H G) w (.vec id) v → DenS O w (.ro c) v := by
          intro v hv
          unfold Den1 at hv
          obtain ⟨_, o, ho, h4⟩ := hv
          rw [hc] at ho
          cases ho
          rw [h4 c e rfl]
          have hcold := hO.2 id (by simp)
          rw [h0] at hcold ⊢
          rcases h3 with h3 | ⟨b, f, cells, fr, us, rfl, h5, h6, h7, h8⟩
          · exact .ro c r cap (fun _ _ => undef) 0 0 h1 h2 (fun h => by omega) (fun i j hi hj => by omega) (fun i j hi hj => by omega)
          · by_cases hcap : cap = 0
            · exact .ro c _ cap (fun _ _ => undef) 0 0 h1 h2 (fun h => by omega) (fun i j hi hj => by omega) (fun i j hi hj => by omega)
            · refine .ro c _ cap us b f h1 h2 (fun _ => ⟨rfl, hcold b (by simp [blk, hcap]), (Array.getElem?_eq_some_iff.1 h5).1⟩) (fun i j hi hj => ?_) (fun i j hi hj => (h8 i j hi hj).2.less hO.1)
              have := (h8 i j hi hj).1
              simp only [World.cell?, h5]
              simpa using this
        exact ⟨fun v hv => DenV_s (key v (by unfold DenV at hv; exact hv)), fun cs hv => by unfold DenC at *; obtain ⟨u, rfl, h9⟩ := hv; exact ⟨u, rfl, key u h9⟩⟩
    · simp [RM.eval] at h
  · exact ⟨_, _, h, ⟨fun i hi => hi, fun i hi => .inl hi⟩, fun O hO => ⟨fun v hv => DenV.step (stp O hO) _ v hv, fun cs hv => DenC.step (stp O hO) _ cs hv⟩⟩

theorem Colder.sub {a b : List Nat} (h : ∀ i ∈ a, i ∈ b) (k : Colder ρ H G b O) : Colder ρ H G a O := ⟨k.1, fun i hi => k.2 i (h i hi)⟩

theorem frzPL_ok : ∀ {azs : List AV} {ids : List Nat} {k : List AV → List Nat → RM Res} {q : Res}, (frzPL azs ids k).eval H = some q → Sat ρ H G w →
    ∃ azs' ids', (k azs' ids').eval H = some q ∧ Frzn ρ H G ids ids' ∧ ∀ O, Colder ρ H G ids' O → ∀ cs, DenSegs ρ H (Hot ρ H G) w azs cs → DenSegs ρ H O w azs' cs
  | [], ids, k, q, h, hs => ⟨[], ids, h, ⟨fun _ h => h, fun _ h => .inl h⟩, fun O _ cs hd => by rw [DenSegs_nil.1 hd]; exact DenSegs_nil.2 rfl⟩
  | a :: azs, ids, k, q, h, hs => by
    obtain ⟨a', i1, h1, f1, h2⟩ := frzP1_ok h hs
    obtain ⟨azs', i2, h3, f2, h4⟩ := frzPL_ok h1 hs
    refine ⟨a' :: azs', i2, h3, f1.trans f2, fun O hO cs hd => ?_⟩
    obtain ⟨c1, c2, rfl, h6, h7⟩ := DenSegs_cons.1 hd
    exact DenSegs_cons.2 ⟨c1, c2, rfl, (h2 O (Colder.sub f2.sub hO)).2 c1 h6, h4 O hO c2 h7⟩

theorem frzPV_ok {a : AV} {ids : List Nat} {k : AV → List Nat → RM Res} {q : Res} (h : (frzPV a ids k).eval H = some q) (hs : Sat ρ H G w) :
    ∃ a' ids', (k a' ids').eval H = some q ∧ Frzn ρ H G ids ids' ∧ ∀ O, Colder ρ H G ids' O → ∀ v, DenV ρ H (Hot ρ H G) w a v → DenV ρ H O w a' v := by
  unfold frzPV at h
  split at h
  · obtain ⟨azs', i1, h1, f1, h2⟩ := frzPL_ok h hs
    refine ⟨_, i1, h1, f1, fun O hO v hd => ?_⟩
    unfold DenV at *
    obtain ⟨cs, h3, h4⟩ := hd
    exact ⟨cs, h3, h2 O hO cs h4⟩
  · obtain ⟨a', i1, h1, f1, h2⟩ := frzP1_ok h hs
    exact ⟨a', i1, h1, f1, fun O hO => (h2 O hO).1⟩

theorem frzPA_ok : ∀ {azs : List AV} {ids : List Nat} {k : List AV → List Nat → RM Res} {q : Res}, (frzPA azs ids k).eval H = some q → Sat ρ H G w →
    ∃ azs' ids', (k azs' ids').eval H = some q ∧ Frzn ρ H G ids ids' ∧ ∀ O, Colder ρ H G ids' O → ∀ cs, DenL ρ H (Hot ρ H G) w azs cs → DenL ρ H O w azs' cs
  | [], ids, k, q, h, hs => ⟨[], ids, h, ⟨fun _ h => h, fun _ h => .inl h⟩, fun O _ cs hd => by rw [DenL_nil.1 hd]; exact DenL_nil.2 rfl⟩
  | a :: azs, ids, k, q, h, hs => by
    obtain ⟨a', i1, h1, f1, h2⟩ := frzPV_ok h hs
    obtain ⟨azs', i2, h3, f2, h4⟩ := frzPA_ok h1 hs
    refine ⟨a' :: azs', i2, h3, f1.trans f2, fun O hO cs hd => ?_⟩
    obtain ⟨c1, c2, rfl, h6, h7⟩ := DenL_cons.1 hd
    exact DenL_cons.2 ⟨c1, c2, rfl, h2 O (Colder.sub f2.sub hO) c1 h6, h4 O hO c2 h7⟩

theorem findUp_dead : ∀ (ids : List Nat) (j : Nat), findUp (ids.map fun i => (i, AObj.dead)) j = if j ∈ ids then some .dead else none
  | [], j => rfl
  | i :: ids, j => by
    simp only [List.map_cons, findUp, findUp_dead ids j]
    by_cases h : j ∈ ids
    · simp [h]
    · by_cases h2 : j = i
      · subst h2; simp [h]
      · simp [h, h2]

theorem FnOk.sumR {f : FuncId} {ts rs : List Ty} {pre : AL ts → List Prop} {F : AL ts → AL rs} (h : FnOk P Z f ts rs pre F) : SOk1 P Z f (sumR ts rs pre F) := by
  intro base args H q hq hn ρ G w vs hfresh hz hs hd
  unfold Sx.sumR at hq
  obtain ⟨args1, ids, hq, hf, h1⟩ := frzPA_ok hq hs
  split at hq
  · rename_i args2 h2
    split at hq
    · rename_i x h3
      rw [Bool.cond_eq_ite] at hq
      split at hq
      · rename_i hflat
        simp only [RM.eval, Option.some.injEq] at hq
        subst hq
        have hvec : ∀ i ∈ ids, ∃ c e, H i = some (.vec c e) := fun i hi => (hf.vec i hi).elim (fun h => by simp at h) (fun h => h)
        let Gc : Nat → Prop := fun b => Hot ρ H G b ∧ ∀ i ∈ ids, blk (ρ i) ≠ some b
        have hot0 : ∀ b, Hot (fun _ => undef) (fun _ => none) Gc b → Gc b := by
          rintro b (⟨id, o, ho, _⟩ | hb)
          · cases ho
          · exact hb
        have hcold : Colder ρ H G ids (Hot (fun _ => undef) (fun _ => none) Gc) := ⟨fun b hb => (hot0 b hb).1, fun i hi b hb hO => (hot0 b hO).2 i hi hb⟩
        have E : Emb (fun _ => none) ρ H (Hot (fun _ => undef) (fun _ => none) Gc) (fun _ => undef) (fun _ => none) (Hot (fun _ => undef) (fun _ => none) Gc) := ⟨fun i j hij => (by cases hij), fun b hb => hb⟩
        have hd2 := rnL_den E h2 (h1 _ hcold vs hd)
        have hd3 : DenL (fun _ => undef) (fun _ => none) (Hot (fun _ => undef) (fun _ => none) Gc) w (AL.av ts x) vs := AL.rd_ok h3 hd2
        refine (h x (AL.okL hd3) hn Gc w vs (fun b hb => hot_lt hs hb.1) hz.1 hd3).mono ?_
        rintro e w' ⟨v, he, ρ1, g1, g2, g3, g4⟩
        refine ⟨v, he, ?_⟩
        simp only []
        have hpl := AL.out_plain hflat (x := F x) (base := 0)
        have hobjs : (AL.res rs (F x)).1 = (AL.out 0 rs (F x)).2 := rfl
        rw [← hobjs] at hpl
        generalize hL : (AL.res rs (F x)).1 = L at *
        have hnew : ∀ b, Own ρ1 (lk L) b → w.heap.size ≤ b := fun b hb => by
          rcases g3.hot b (.inl hb) with h5 | h5
          · exact (g1.apart b hb (hot0 b h5)).elim
          · exact h5
        let ρ2 : Nat → Value := fun id => if base ≤ id ∧ id < base + L.length then ρ1 (id - base) else ρ id
        let H2 := resH H (ids.map fun i => (i, AObj.dead)) base L
        have hold : ∀ {id : Nat} {o : AObj}, H id = some o → ¬ (base ≤ id ∧ id < base + L.length) := fun {id o} ho hc => by
          have := hfresh (id - base) (by simp only []; omega)
          rw [show base + (id - base) = id from by omega, ho] at this
          cases this
        have hH2 : ∀ id, H2 id = if id ∈ ids then some .dead else if base ≤ id ∧ id < base + L.length then L[id - base]? else H id := fun id => by
          simp only [H2, resH, findUp_dead]
          split
          · rename_i hx
            split at hx
            · rename_i hi; cases hx; rw [if_pos hi]
            · cases hx
          · rename_i hx
            split at hx
            · cases hx
            · rename_i hi; rw [if_neg hi]
        have hidn : ∀ id, id ∈ ids → ¬ (base ≤ id ∧ id < base + L.length) := fun id hi => by
          obtain ⟨c, e, hce⟩ := hvec id hi
          exact hold hce
        have sh : Shift base L.length ρ1 (lk L) ρ2 H2 := ⟨fun i hi => by simp only [ρ2]; rw [if_pos (by omega)]; congr 1; omega, fun i hi => by
          rw [hH2, if_neg (fun hm => hidn _ hm ⟨by omega, by omega⟩), if_pos (by omega)]; simp [lk]⟩
        have cases2 : ∀ {id : Nat} {o : AObj}, H2 id = some o → o.alive = true → (base ≤ id ∧ id < base + L.length ∧ L[id - base]? = some o ∧ ρ2 id = ρ1 (id - base)) ∨ (id ∉ ids ∧ H id = some o ∧ ρ2 id = ρ id) := by
          intro id o ho ha
          rw [hH2] at ho
          split at ho
          · cases ho; cases ha
          · rename_i hi
            split at ho
            · rename_i hc
              exact .inl ⟨hc.1, hc.2, ho, by simp only [ρ2]; rw [if_pos hc]⟩
            · rename_i hc
              exact .inr ⟨hi, ho, by simp only [ρ2]; rw [if_neg hc]⟩
        have notf : ∀ {id : Nat} {o : AObj} {b : Nat}, id ∉ ids → H id = some o → o.alive = true → blk (ρ id) = some b → ∀ i ∈ ids, blk (ρ i) ≠ some b := by
          intro id o b hid ho ha hb i hi hb2
          obtain ⟨c, e, hce⟩ := hvec i hi
          have := hs.inj id i o _ b ho hce ha rfl hb hb2
          exact hid (this ▸ hi)
        have hown2 : ∀ b, Own ρ2 H2 b → Own ρ1 (lk L) b ∨ (Own ρ H b ∧ ∀ i ∈ ids, blk (ρ i) ≠ some b) := by
          rintro b ⟨id, o, ho, ha, hb⟩
          rcases cases2 ho ha with ⟨_, _, h5, h6⟩ | ⟨h5, h6, h7⟩
          · rw [h6] at hb
            exact .inl ⟨id - base, o, h5, ha, hb⟩
          · rw [h7] at hb
            exact .inr ⟨⟨id, o, h6, ha, hb⟩, notf h5 h6 ha hb⟩
        have hhot2 : ∀ b, Hot ρ2 H2 G b → Hot ρ1 (lk L) Gc b := by
          rintro b (hb | hb)
          · rcases hown2 b hb with h5 | h5
            · exact .inl h5
            · exact .inr ⟨.inl h5.1, h5.2⟩
          · refine .inr ⟨.inr hb, fun i hi hbk => ?_⟩
            obtain ⟨c, e, hce⟩ := hvec i hi
            exact hs.apart b ⟨i, _, hce, rfl, hbk⟩ hb
        have heap : ∀ b, b < w.heap.size → w'.heap[b]? = w.heap[b]? := fun b hb => g4.heap b hb (fun ⟨id, o, ho, _⟩ => by cases ho)
        have hsize : w.heap.size ≤ w'.heap.size := g3.size
        have st : Step ρ H (Hot ρ H G) w ρ2 H2 (Hot ρ2 H2 G) w' := by
          refine ⟨fun id o ho => ?_, fun id o ho => ?_, fun b hb => ?_, fun b hb _ => heap b hb, hsize⟩
          · simp only [ρ2]; rw [if_neg (hold ho)]
          · by_cases hi : id ∈ ids
            · exact ⟨.dead, by rw [hH2, if_pos hi], fun c' e' hc => by cases hc⟩
            · exact ⟨o, by rw [hH2, if_neg hi, if_neg (hold ho)]; exact ho, fun c' e' hc => ⟨c', e', hc, rfl, rfl⟩⟩
          · rcases hb with hb | hb
            · rcases hown2 b hb with h5 | h5
              · exact .inr (hnew b h5)
              · exact .inl (.inl h5.1)
            · exact .inl (.inr hb)
        refine ⟨ρ2, ⟨fun id o ho => ?_, fun i j oi oj b hi hj ai aj bi bj => ?_, fun b hb hG => ?_, fun b hb => Nat.lt_of_lt_of_le (hs.low b hb) hsize⟩, res_shift (.inr hhot2) (O := Hot ρ1 (lk L) Gc) (hL ▸ sh) (by rw [hL]; exact g2), st, ⟨g4.os, g4.tape, g4.output, fun b hb _ => heap b hb⟩⟩
        · cases hal : o.alive
          · cases o with
            | dead => trivial
            | own _ _ => cases hal
            | vec _ _ => cases hal
            | map _ _ => cases hal
            | mapb _ _ _ => cases hal
            | iter _ _ _ _ _ => cases hal
          · rcases cases2 ho hal with ⟨_, _, h5, h6⟩ | ⟨h5, h6, h7⟩
            · rw [h6]
              have hobj := g1.obj (id - base) o h5
              obtain ⟨r, y, e', hr, rfl⟩ := hpl o (List.mem_of_getElem? h5)
              obtain ⟨a0, cap, k0, k1, k2, k3⟩ := hobj
              refine ⟨a0, cap, k0, k1, k2, k3.imp (fun h => h) ?_⟩
              rintro ⟨b, f0, cells, fr, us, k4, k5, k6, k7, k8⟩
              exact ⟨b, f0, cells, fr, us, k4, k5, k6, k7, fun i j hi hj => ⟨(k8 i j hi hj).1, RK.flat_den hr hj (k8 i j hi hj).2⟩⟩
            · rw [h7]
              exact (hs.obj id o h6).step st (fun b ha hb => heap b (own_lt hs ⟨id, o, h6, ha, hb⟩))
        · rcases cases2 hi ai with ⟨i1, i2, i3, i4⟩ | ⟨i1, i2, i3⟩
          · rw [i4] at bi
            rcases cases2 hj aj with ⟨j1, j2, j3, j4⟩ | ⟨j1, j2, j3⟩
            · rw [j4] at bj
              have := g1.inj (i - base) (j - base) oi oj b i3 j3 ai aj bi bj
              omega
            · rw [j3] at bj
              have := own_lt hs ⟨j, oj, j2, aj, bj⟩
              have := hnew b ⟨_, oi, i3, ai, bi⟩
              omega
          · rw [i3] at bi
            rcases cases2 hj aj with ⟨j1, j2, j3, j4⟩ | ⟨j1, j2, j3⟩
            · rw [j4] at bj
              have := own_lt hs ⟨i, oi, i2, ai, bi⟩
              have := hnew b ⟨_, oj, j3, aj, bj⟩
              omega
            · rw [j3] at bj
              exact hs.inj i j oi oj b i2 j2 ai aj bi bj
        · rcases hown2 b hb with h5 | h5
          · have := hnew b h5
            have := hs.low b hG
            omega
          · exact hs.apart b h5.1 hG
      · simp [RM.eval] at hq
    · simp [RM.eval] at hq
  · simp [RM.eval] at hq
end
end Go.Sx

/-! Loops, and the whole of a function. -/
namespace Go.Sx
open Go

/-- Slots, those that are not told being of no matter. -/
def slF : Nat → Nat → List (Nat × AV) → List AV
  | 0, _, _ => []
  | n + 1, i, [] => .s .junk :: slF n (i + 1) []
  | n + 1, i, (j, a) :: l => bif j.beq i then a :: slF n (i + 1) l else .s .junk :: slF n (i + 1) ((j, a) :: l)
def sl (n : Nat) (l : List (Nat × AV)) : List AV := slF n 0 l

def firstRegion : Code → Option Nat
  | .region id _ _ => some id
  | .seq a b => match firstRegion a with
    | some i => some i
    | none => firstRegion b
  | .cond _ a b => match firstRegion a with
    | some i => some i
    | none => firstRegion b
  | .block _ c | .loop c | .scope c => firstRegion c
  | _ => none

/-- A loop's head, by its first region. -/
def headOf (key : Nat) : Code → List Item → Option (List Item)
  | .seq a b, k => match headOf key a (.code b :: k) with
    | some r => some r
    | none => headOf key b k
  | .cond _ a b, k => match headOf key a k with
    | some r => some r
    | none => headOf key b k
  | .block id c, k => headOf key c (.inBlock id :: k)
  | .scope c, k => headOf key c (.inScope c :: k)
  | .loop c, k => match firstRegion c with
    | some i => bif i.beq key then some (.code c :: .inLoop c :: k) else headOf key c (.inLoop c :: k)
    | none => headOf key c (.inLoop c :: k)
  | _, _ => none

def hd (fn : Func) (key : Nat) : List Item := (headOf key (fn.body.getD .skip) []).getD []

/-- A region, and what stands behind it. -/
def regionAt (key : Nat) : Code → List Item → Option (List Item)
  | .region id ops d, k => bif id.beq key then some (.code (.region id ops d) :: k) else none
  | .seq a b, k => match regionAt key a (.code b :: k) with
    | some r => some r
    | none => regionAt key b k
  | .cond _ a b, k => match regionAt key a k with
    | some r => some r
    | none => regionAt key b k
  | .block id c, k => regionAt key c (.inBlock id :: k)
  | .scope c, k => regionAt key c (.inScope c :: k)
  | .loop c, k => regionAt key c (.inLoop c :: k)
  | _, _ => none

def hr (fn : Func) (key : Nat) : List Item := (regionAt key (fn.body.getD .skip) []).getD []

def keyOf (c : Cfg) : Nat := match c.todo with
  | .code x :: _ => keyIn c.stk ((firstRegion x).getD 0)
  | .inRegion ops todo :: _ => midAt c.stk c.stk.rid (ops.size - todo.length)
  | _ => 0

def nsOf : List (Nat × Norm) → Nat → Option Norm
  | [], _ => none
  | (i, n) :: l, k => bif i.beq k then some n else nsOf l k

def inReg : List Item → Bool
  | .inRegion _ _ :: _ => true
  | _ => false

def Tree.norm (ns : List (Nat × Norm)) : Tree → Tree
  | .need p t => .need p (t.norm ns)
  | .ite b t e => .ite b (t.norm ns) (e.norm ns)
  | .both p q t e => .both p q (t.norm ns) (e.norm ns)
  | .ret H v => .ret H v
  | .stuck w => .stuck w
  | .at c => bif inReg c.todo && (nsOf ns (keyOf c)).isNone then .at c else match nsOf ns (keyOf c) with
    | some N => (match N.run c with
      | some c' => .at c'
      | none => .stuck "norm")
    | none => .stuck "no norm"

def stopOf : List (Nat × Norm) → Nat → Bool
  | [], _ => false
  | (i, _) :: l, k => i.beq k || stopOf l k

def inlOf : List FuncId → FuncId → Bool
  | [], _ => false
  | f :: l, g => f.beq g || inlOf l g

def run (P : Program) (S : SummB) (fn : Func) (ns : List (Nat × Norm)) (c : Cfg) (inl : List FuncId := []) : Tree := (exec P S fn (stopOf ns) (inlOf inl) 1000 true c).norm ns

/-! ### frames that wait -/
/-- A region's place, from an operation on. -/
def cal (fn : Func) (key i : Nat) : List Item :=
  match hr fn key with
  | .code (.region _ ops _) :: k => .inRegion ops (List.range' i (ops.size - i)) :: k
  | _ => []

/-- A frame that waits in a call. -/
def inCall (fn : Func) (f : Option FuncId) (key i : Nat) (round : Bool) (marks : Nat) : FrD := ⟨f, fn.ntmps, round, marks, none, cal fn key i, (key, i)⟩

/-- A range over a function, by its body's first region. -/
def rangeAt (key : Nat) : Code → List Item → Option (Lp × List Item)
  | .rangeFunc _ ps asg body, k => match firstReg body with
    | some i => bif i.beq key then some (⟨ps.toList, asg, body⟩, k) else none
    | none => bif key.beq 0 then some (⟨ps.toList, asg, body⟩, k) else none
  | .seq a b, k => match rangeAt key a (.code b :: k) with
    | some r => some r
    | none => rangeAt key b k
  | .cond _ a b, k => match rangeAt key a k with
    | some r => some r
    | none => rangeAt key b k
  | .block id c, k => rangeAt key c (.inBlock id :: k)
  | .scope c, k => rangeAt key c (.inScope c :: k)
  | .loop c, k => rangeAt key c (.inLoop c :: k)
  | _, _ => none

/-- A frame that ranges over a function. -/
def inRange (fn : Func) (f : Option FuncId) (key : Nat) (marks : Nat) : FrD :=
  match rangeAt key (fn.body.getD .skip) [] with
  | some p => ⟨f, fn.ntmps, false, marks, some (p.1, .ready), p.2, (key, 0)⟩
  | none => ⟨f, fn.ntmps, false, marks, none, [], (key, 0)⟩

section
variable {P : Program} {S : SummB} {Z : Glob} {X : Ctx} {K : List AObj → AV → Prop} {C C' : Cfg → Prop}

theorem nsOf_mem : ∀ {l : List (Nat × Norm)} {k : Nat} {N : Norm}, nsOf l k = some N → ∃ i, (i, N) ∈ l
  | [], k, N, h => by simp [nsOf] at h
  | (i, n) :: l, k, N, h => by
    simp only [nsOf, Bool.cond_eq_ite] at h
    split at h
    · cases h; exact ⟨i, by simp⟩
    · obtain ⟨j, hj⟩ := nsOf_mem h
      exact ⟨j, by simp [hj]⟩

theorem norm_holds {ns : List (Nat × Norm)} {f : FuncId} (h0 : ∀ x ∈ ns, ∀ id, x.2.m ≤ id → X.H id = none) : ∀ (t : Tree), (t.norm ns).Holds K (Safe P f X K) → t.Holds K (Safe P f X K)
  | .need p t, h => ⟨h.1, norm_holds h0 t h.2⟩
  | .ite b t e, h => ⟨fun hb => norm_holds h0 t (h.1 hb), fun hb => norm_holds h0 e (h.2 hb)⟩
  | .both _ _ t e, h => ⟨fun hp => norm_holds h0 t (h.1 hp), fun hq => norm_holds h0 e (h.2 hq)⟩
  | .ret H v, h => h
  | .stuck w, h => h
  | .at c, h => by
    unfold Tree.norm at h
    rw [Bool.cond_eq_ite] at h
    split at h
    · exact h
    split at h
    · rename_i N hN
      split at h
      · rename_i c' hc
        obtain ⟨i, hi⟩ := nsOf_mem hN
        exact Norm.safe (h0 _ hi) hc h
      · exact h.elim
    · exact h.elim

theorem Tree.mono {t : Tree} (h : t.Holds K C) (hC : ∀ c, C c → C' c) : t.Holds K C' := by
  induction t with
  | need p t ih => exact ⟨h.1, ih h.2⟩
  | ite b t e ih1 ih2 => exact ⟨fun hb => ih1 (h.1 hb), fun hb => ih2 (h.2 hb)⟩
  | both p q t e ih1 ih2 => exact ⟨fun hp => ih1 (h.1 hp), fun hq => ih2 (h.2 hq)⟩
  | ret H v => exact h
  | stuck w => exact h
  | _ c => exact hC c h

theorem ends_eq {rs : List Ty} {y : AL rs} (y' : AL rs) {L : List AObj} {r : AV} (h : y = y') (hc : canR (rs.flatMap Ty.ces) L r = some (AL.res rs y')) : Ends rs y L r := by
  subst h; exact hc

/-- From a state on, till the end or a loop's head. -/
theorem safe_of_run {f : FuncId} {fn : Func} {ns : List (Nat × Norm)} {c : Cfg} {t : Tree} (hS : SOk P S Z) (hzc : ZCtx Z X) (hm : P.follows .mixedOrders = true) (hf : P.funcs[f]? = some fn) (h0 : ∀ x ∈ ns, ∀ id, x.2.m ≤ id → X.H id = none)
    {inl : List FuncId} (ht : run P S fn ns c inl = t) (h : t.Holds K (Safe P f X K)) : Safe P f X K c := by
  subst ht
  exact exec_ok hS hzc hm hf 1000 true c (norm_holds h0 _ h)

end
end Go.Sx

/-! A contract that says 'true', carried to what a row asks. -/
namespace Go.Sx
open Go Go.RowKit Go.ChangeShapes Go.WideShapes Go.ChangeAt

section
variable {H : Type} {enc : TypeId × Value → H} {P : Program} {W W' : World} {Z : Glob} {base : Nat} {ρ : Nat → Value} {Hh : AHeap} {O : Nat → Prop}

/-- Nothing that was there has turned. -/
structure Same (W W' : World) : Prop where
  os : W'.os = W.os
  output : W'.output = W.output
  heap : ∀ b, b < W.heap.size → W'.heap[b]? = W.heap[b]?

theorem Same.at (h : Same W W') {p : MemPlace} (hp : p.block < W.heap.size) : W.sameAt W' p := by
  have e := h.heap p.block hp
  cases p with
  | cell b o => exact (cell?_same (o := o) e)
  | map b => exact e

theorem trodAll_same {ts : List TypeId} (hl : laidOutB P = true) (hp : ts.all (fun t => P.readableRec t && decide (t < P.types.size)) = true) {sp' : Nat → Bool} (hs : Same W W') : ∀ {vs : List Value} {ds : List (DataW H)} {ps : List MemPlace},
    DataW.TrodAll enc P W 0 (fun _ => true) true ts vs ds ps → (∀ p ∈ ps, p.block < W.heap.size) → (∀ p ∈ ps, sp' p.block = true) → DataW.TrodAll enc P W' 0 sp' true ts vs ds ps := by
  induction ts with
  | nil => intro vs ds ps h _ _; cases vs <;> cases ds <;> simp [DataW.TrodAll] at h ⊢; exact h
  | cons t ts ih =>
    intro vs ds ps h hlt hsp
    simp only [List.all_cons, Bool.and_eq_true, decide_eq_true_eq] at hp
    obtain ⟨v, vs', d, ds', p, q, rfl, rfl, rfl, h1, h2⟩ := trodAll_cons h
    refine ⟨p, q, ?_, ih hp.2 h2 (fun x hx => hlt x (by simp [hx])) (fun x hx => hsp x (by simp [hx])), rfl⟩
    exact WideElems.Trod_stays hl hp.1.1 hp.1.2 h1 (fun x hx => hs.at (hlt x (by simp [hx]))) (fun x hx => hsp x (by simp [hx]))

theorem kept_same (hs : Same W W') (may : MemPlace → Prop) : W.keptBut W' may := by
  refine ⟨hs.os, hs.output, fun i hi => ?_⟩
  rw [hs.heap i hi, Array.getElem?_eq_getElem hi]
  cases h : W.heap[i] with
  | cells c t fr => exact ⟨rfl, rfl, rfl, fun _ _ => rfl⟩
  | map es clock => exact .inr ⟨rfl, rfl⟩
  | _ => rfl

/-- What a law's row owes behind the call. -/
theorem post_true {fn : Func} {s : ChangeSpec} {apart fresh handsOn : Bool} {args : Array Value} {ds gs : List (DataW H)} {before : List MemPlace} {tb : TypeId}
    (hl : laidOutB P = true) (hp : fn.params.toList.all (fun t => P.readableRec t && decide (t < P.types.size)) = true)
    (hr : fn.resultTypes = #[tb]) (hb : P.underlying tb = some .bool) (hv : s.vars = [])
    (hs : s.fn H ds = { results := [.lit (.bool true)], args := ds })
    (hW : DataW.Whole enc P fn.params.toList s.vars apart W args.toList ds gs before) (hsame : Same W W') :
    s.post enc P fn apart fresh handsOn false W args (.bool true) W' := by
  have hW' := hW
  obtain ⟨p, q, h1, h2, rfl, _, _⟩ := hW
  rw [hv] at h2
  obtain ⟨rfl, rfl⟩ := trodVars_none h2
  have hlt : ∀ x ∈ p, x.block < W.heap.size := fun x hx => hW'.lt x (by simp [hx])
  refine ⟨ds, [], p ++ [], [], p, [], hW', ?_, ?_, ?_, kept_same hsame _, fun h => by cases h⟩
  · rw [List.append_nil, hs, hr]
    exact trodAll_mk1 (shut_bool hb true)
  · rw [List.append_nil, hs]
    exact trodAll_same hl hp hsame h1 hlt (fun x hx => by simpa using hlt x hx)
  · rw [hv, List.append_nil, hs]
    rfl

end
end Go.Sx

/-! What a row's reading of an argument says: a value of plain data. -/
namespace Go.Sx
open Go Go.RowKit Go.ChangeShapes Go.WideShapes Go.ChangeAt

def layFs (P : Program) (rec : TypeId → Option (List CK)) : List Field → Nat → Option (List CK)
  | [], _ => some []
  | f :: fs, off => match rec f.type with
    | some cs => bif f.offset.beq off && (P.cellsOf f.type).beq (CL.wide cs) then (layFs P rec fs (off + CL.wide cs)).map (cs ++ ·) else none
    | none => none

/-- A type's parts, its places checked. -/
def layR (P : Program) : Nat → TypeId → Option (List CK)
  | 0, _ => none
  | d + 1, t =>
    match P.underlying t with
    | some (.int k) => some [.int k]
    | some .bool => some [.bool]
    | some .string => some [.str]
    | some (.slice e) => (match P.underlying e with
      | some (.int k) => bif (P.cellsOf e).beq 1 then some [.ints k] else none
      | some .string => bif (P.cellsOf e).beq 1 then some [.strs] else none
      | some .bool => bif (P.cellsOf e).beq 1 then some [.bools] else none
      | _ => (layR P d e).bind fun cs => bif (P.cellsOf e).beq (CL.wide cs) && (1 : Nat).ble (CL.wide cs) then some [.rows cs] else none)
    | some (.struct fs) => (layFs P (layR P d) fs.toList 0).bind fun cs => bif (P.cellsOf t).beq (CL.wide cs) then some cs else none
    | some (.array n e) => (match P.underlying e with
      | some (.int k) => bif (P.cellsOf e).beq 1 && (P.cellsOf t).beq n then some [.arr k n] else none
      | _ => none)
    | _ => none

mutual
def CK.wf : (c : CK) → c.V → Prop
  | .int k, n => (Lit.int k n).wf = true
  | .bool, _ => True
  | .str, s => ByteArray.size s ≤ maxLen
  | .ints k, zs => List.length (show List Int from zs) ≤ maxLen ∧ ∀ n ∈ (show List Int from zs), (Lit.int k n).wf = true
  | .strs, ss => List.length (show List ByteArray from ss) ≤ maxLen ∧ ∀ s ∈ (show List ByteArray from ss), s.size ≤ maxLen
  | .bools, bs => List.length (show List Bool from bs) ≤ maxLen
  | .rows cs, xs => List.length (show List (CL cs) from xs) ≤ maxLen ∧ ∀ x ∈ (show List (CL cs) from xs), CL.wf cs x
  | .arr k n, ws => List.length (α := Int) ws = n ∧ ∀ m ∈ (show List Int from ws), (Lit.int k m).wf = true
def CL.wf : (cs : List CK) → CL cs → Prop
  | [], _ => True
  | c :: cs, x => c.wf x.1 ∧ CL.wf cs x.2
end

def CL.app : (azs : List CK) → {bs : List CK} → CL azs → CL bs → CL (azs ++ bs)
  | [], _, _, y => y
  | _ :: azs, _, x, y => (x.1, CL.app azs x.2 y)

theorem CL.wide_app : ∀ (azs bs : List CK), CL.wide (azs ++ bs) = CL.wide azs + CL.wide bs
  | [], bs => by simp [CL.wide]
  | a :: azs, bs => by simp only [List.cons_append, CL.wide, CL.wide_app azs bs]; omega

theorem blt_tt {i n : Nat} (h : i < n) : i.blt n = true := by simpa [Nat.blt, Nat.lt_iff_add_one_le] using h
theorem blt_ff {i n : Nat} (h : n ≤ i) : i.blt n = false := by
  cases hb : i.blt n
  · rfl
  · have : i < n := by simpa [Nat.blt, Nat.lt_iff_add_one_le] using hb
    omega

theorem CL.cell_app1 : ∀ (azs : List CK) {bs : List CK} (x : CL azs) (y : CL bs) {j : Nat}, j < CL.wide azs → CL.cell (azs ++ bs) (CL.app azs x y) j = CL.cell azs x j
  | [], _, _, _, j, h => by simp [CL.wide] at h
  | a :: azs, bs, x, y, j, h => by
    simp only [List.cons_append, CL.cell, CL.app]
    rcases Nat.lt_or_ge j a.wide with h1 | h1
    · rw [blt_tt h1]; rfl
    · rw [blt_ff h1]
      simp only [cond_false]
      exact CL.cell_app1 azs x.2 y (by simp only [CL.wide] at h; omega)
theorem CL.cell_app2 : ∀ (azs : List CK) {bs : List CK} (x : CL azs) (y : CL bs) {j : Nat}, CL.wide azs ≤ j → CL.cell (azs ++ bs) (CL.app azs x y) j = CL.cell bs y (j - CL.wide azs)
  | [], _, _, _, j, h => by simp [CL.wide, CL.app]
  | a :: azs, bs, x, y, j, h => by
    simp only [CL.wide] at h
    simp only [List.cons_append, CL.cell, CL.app]
    rw [blt_ff (by omega)]
    simp only [cond_false, CL.wide]
    rw [CL.cell_app2 azs x.2 y (by omega)]
    congr 1
    omega
theorem CL.wf_app : ∀ (azs : List CK) {bs : List CK} (x : CL azs) (y : CL bs), CL.wf azs x → CL.wf bs y → CL.wf (azs ++ bs) (CL.app azs x y)
  | [], _, _, _, _, h => h
  | a :: azs, bs, x, y, h1, h2 => by
    simp only [CL.wf] at h1
    simp only [List.cons_append, CL.wf, CL.app]
    exact ⟨h1.1, CL.wf_app azs x.2 y h1.2 h2⟩

theorem mapD {α β : Type} (f : α → β) (xs : List α) (d : β) (da : α) {i : Nat} (hi : i < xs.length) : (xs.map f).getD i d = f (xs.getD i da) := by simp [List.getD, hi]

theorem list_of {α : Type} {p : Nat → α → Prop} : ∀ (n : Nat), (∀ i, i < n → ∃ y, p i y) → ∃ xs : List α, xs.length = n ∧ ∀ i (h : i < xs.length), p i xs[i]
  | 0, _ => ⟨[], rfl, fun i h => by simp at h⟩
  | n + 1, h => by
    obtain ⟨xs, h1, h2⟩ := list_of n (fun i hi => h i (by omega))
    obtain ⟨y, hy⟩ := h n (by omega)
    refine ⟨xs ++ [y], by simp [h1], fun i hi => ?_⟩
    by_cases hlt : i < xs.length
    · rw [List.getElem_append_left hlt]; exact h2 i hlt
    · have : i = n := by simp at hi; omega
      subst this
      rw [List.getElem_append_right (by omega)]
      simpa [h1] using hy

section
variable {H : Type} {enc : TypeId × Value → H} {P : Program} {W : World} {base : Nat} {ρ : Nat → Value} {Hh : AHeap}

abbrev FD (W : World) (cs : List CK) (y : CL cs) (get : Nat → Option Value) : Prop := ∀ j, j < CL.wide cs → ∃ u, get j = some u ∧ DenS (fun _ => False) W (CL.cell cs y j) u

theorem trod_fs {d n : Nat} {cells : List Value} (ih : ∀ {t : TypeId} {cs : List CK} {fuel : Nat} {cells : List Value} {x : DataW H × List MemPlace}, layR P d t = some cs → DataW.trod enc P W 0 (fun _ => true) true fuel t cells = some x →
      cells.length = CL.wide cs ∧ ∃ y : CL cs, CL.wf cs y ∧ FD W cs y fun j => cells[j]?) :
    ∀ (fs : List Field) {off : Nat} {cs : List CK}, layFs P (layR P d) fs off = some cs → (∀ f ∈ fs, ∃ x, DataW.trod enc P W 0 (fun _ => true) true n f.type ((cells.drop f.offset).take (P.cellsOf f.type)) = some x) →
      ∃ y : CL cs, CL.wf cs y ∧ FD W cs y fun j => cells[off + j]?
  | [], off, cs, h, _ => by
    simp only [layFs, Option.some.injEq] at h
    subst h
    exact ⟨(), trivial, fun j hj => by simp [CL.wide] at hj⟩
  | f :: fs, off, cs, h, hx => by
    simp only [layFs] at h
    split at h
    · rename_i c1 hc1
      rw [Bool.cond_eq_ite] at h
      split at h
      · rename_i hb
        simp only [Bool.and_eq_true, Nat.beq_eq] at hb
        obtain ⟨ho, hw⟩ := hb
        obtain ⟨c2, hc2, rfl⟩ := Option.map_eq_some_iff.1 h
        obtain ⟨x, hf⟩ := hx f (by simp)
        obtain ⟨h1, y1, h2, h3⟩ := ih hc1 hf
        obtain ⟨y2, h4, h5⟩ := trod_fs ih fs hc2 (fun g hg => hx g (by simp [hg]))
        refine ⟨CL.app c1 y1 y2, CL.wf_app c1 y1 y2 h2 h4, fun j hj => ?_⟩
        rw [CL.wide_app] at hj
        rcases Nat.lt_or_ge j (CL.wide c1) with h6 | h6
        · obtain ⟨u, h7, h8⟩ := h3 j h6
          refine ⟨u, ?_, by rw [CL.cell_app1 c1 y1 y2 h6]; exact h8⟩
          dsimp only at h7 ⊢
          rw [List.getElem?_take, if_pos (by omega), List.getElem?_drop, ho] at h7
          exact h7
        · obtain ⟨u, h7, h8⟩ := h5 (j - CL.wide c1) (by omega)
          refine ⟨u, ?_, by rw [CL.cell_app2 c1 y1 y2 h6]; exact h8⟩
          dsimp only at h7 ⊢
          rw [show off + j = off + CL.wide c1 + (j - CL.wide c1) from by omega]
          exact h7
      · cases h
    · cases h

/-- A slice's elements. -/
theorem trod_row {t e : TypeId} {cs : List CK} {fuel : Nat} {cells : List Value} {x : DataW H × List MemPlace} (ht : P.underlying t = some (.slice e)) (hw : P.cellsOf e = CL.wide cs) (h1 : 1 ≤ CL.wide cs)
    (ih : ∀ {fuel : Nat} {cells : List Value} {x : DataW H × List MemPlace}, DataW.trod enc P W 0 (fun _ => true) true fuel e cells = some x → cells.length = CL.wide cs ∧ ∃ y : CL cs, CL.wf cs y ∧ FD W cs y fun j => cells[j]?)
    (h : DataW.trod enc P W 0 (fun _ => true) true fuel t cells = some x) :
    ∃ (v : Value) (xs : List (CL cs)), cells = [v] ∧ xs.length ≤ maxLen ∧ (∀ y ∈ xs, CL.wf cs y) ∧ DenS (fun _ => False) W (.ro (.typ cs xs)) v := by
  rcases DataW.trod_slice ht h with ⟨rfl, _⟩ | ⟨a, len, cap, elems, rest, n, _, rfl, _, _, hl, hm, hlen, hel, _, _⟩
  · exact ⟨_, [], rfl, Nat.zero_le _, by simp, .ro (.typ cs []) none 0 (fun _ _ => undef) 0 0 (Nat.le_refl _) (Nat.zero_le _) (fun h => by simp [Con.n] at h) (fun i j hi hj => by simp [Con.n] at hi) (fun i j hi hj => by simp [Con.n] at hi)⟩
  · have each : ∀ i, i < len → ∃ y : CL cs, CL.wf cs y ∧ FD W cs y fun j => W.cell? ((a.add (i * CL.wide cs)).add j) := by
      intro i hi
      have h2 := hel i hi
      rw [List.getElem?_eq_getElem (by omega), hw] at h2
      obtain ⟨cl, h3, h4⟩ := Option.bind_eq_some_iff.1 h2
      obtain ⟨_, h5, h6⟩ := World.cells?_some h3
      obtain ⟨_, y, h7, h8⟩ := ih h4
      refine ⟨y, h7, fun j hj => ?_⟩
      obtain ⟨u, h9, h10⟩ := h8 j hj
      exact ⟨u, by dsimp only; rw [h6 j (by omega)]; exact h9, h10⟩
    obtain ⟨xs, hx1, hx2⟩ := list_of len each
    refine ⟨_, xs, rfl, by omega, fun y hy => ?_, ?_⟩
    · obtain ⟨i, hi, rfl⟩ := List.getElem_of_mem hy
      exact (hx2 i hi).1
    · have hn : (Con.typ cs xs).n = len := hx1
      rcases Nat.eq_zero_or_pos len with h0 | h0
      · have key := DenS.ro (O := fun _ => False) (w := W) (.typ cs xs) (some a) cap (fun _ _ => undef) 0 0 (by omega) hm (fun h => by omega) (fun i j hi hj => by omega) (fun i j hi hj => by omega)
        rw [hn] at key
        exact key
      · have hspot : a.spot = none := by
          obtain ⟨u, h9, _⟩ := (hx2 0 (by omega)).2 0 (by omega)
          simpa [Addr.add] using World.cell?_spot h9
        obtain ⟨b, off, spot⟩ := a
        simp only at hspot
        subst hspot
        have hc : ∀ i j, i < len → j < CL.wide cs → ∃ u, W.cell? ⟨b, off + i * CL.wide cs + j, none⟩ = some u ∧ DenS (fun _ => False) W (CL.cell cs (xs.getD i (CL.d cs)) j) u := by
          intro i j hi hj
          obtain ⟨u, h9, h10⟩ := (hx2 i (by omega)).2 j hj
          dsimp only at h9
          rw [add_zero_spot, add_zero_spot] at h9
          exact ⟨u, h9, by simpa [List.getD, hx1, hi] using h10⟩
        have key := DenS.ro (O := fun _ => False) (w := W) (.typ cs xs) (some ⟨b, off, none⟩) cap (fun i j => (W.cell? ⟨b, off + i * CL.wide cs + j, none⟩).getD undef) b off (by omega) hm (fun _ => ⟨rfl, fun h => h, ?_⟩) (fun i j hi hj => ?_) (fun i j hi hj => ?_)
        · rw [hn] at key
          exact key
        · obtain ⟨u, h9, _⟩ := hc 0 0 h0 (by omega)
          rcases Nat.lt_or_ge b W.heap.size with h2 | h2
          · exact h2
          · simp [World.cell?, Array.getElem?_eq_none h2] at h9
        · obtain ⟨u, h9, _⟩ := hc i j (by omega) hj
          show W.cell? ⟨b, off + i * CL.wide cs + j, none⟩ = _
          rw [h9]; rfl
        · obtain ⟨u, h9, h10⟩ := hc i j (by omega) hj
          rw [h9]
          exact h10

theorem trod_cl : ∀ (d : Nat) {t : TypeId} {cs : List CK} {fuel : Nat} {cells : List Value} {x : DataW H × List MemPlace}, layR P d t = some cs → DataW.trod enc P W 0 (fun _ => true) true fuel t cells = some x →
    cells.length = CL.wide cs ∧ ∃ y : CL cs, CL.wf cs y ∧ FD W cs y fun j => cells[j]?
  | 0, t, cs, fuel, cells, x, h, _ => by simp [layR] at h
  | d + 1, t, cs, fuel, cells, x, h, hd => by
    simp only [layR] at h
    have one : ∀ {c : CK} {v : Value} (y : c.V), c.wide = 1 → CK.wf c y → DenS (fun _ => False) W (c.cell y 0) v → ([v] : List Value).length = CL.wide [c] ∧ ∃ y : CL [c], CL.wf [c] y ∧ FD W [c] y fun j => ([v] : List Value)[j]? := by
      intro c v y hw hy hv
      refine ⟨by simp [CL.wide, hw], (y, ()), ⟨hy, trivial⟩, fun j hj => ?_⟩
      simp only [CL.wide, hw] at hj
      obtain rfl : j = 0 := by omega
      refine ⟨v, rfl, ?_⟩
      simp only [CL.cell, hw]
      exact hv
    split at h
    · rename_i k ht
      simp only [Option.some.injEq] at h
      subst h
      obtain ⟨n, rfl, _, hw⟩ := DataW.trod_int ht hd
      exact one (c := .int k) n rfl hw (.int k n)
    · rename_i ht
      simp only [Option.some.injEq] at h
      subst h
      obtain ⟨b, rfl, _⟩ := DataW.trod_bool ht hd
      exact one (c := .bool) b rfl trivial (.bool b)
    · rename_i ht
      simp only [Option.some.injEq] at h
      subst h
      obtain ⟨s, rfl, _, hs⟩ := DataW.trod_string ht hd
      exact one (c := .str) s rfl hs (.str s)
    · rename_i e ht
      split at h
      · rename_i k he
        rw [Bool.cond_eq_ite] at h
        split at h
        · rename_i hw
          have hw : P.cellsOf e = 1 := by simpa using hw
          simp only [Option.some.injEq] at h
          subst h
          obtain ⟨v, xs, rfl, h0, h1, h2⟩ := trod_row (cs := [.int k]) ht hw (Nat.le_refl _) (fun {fuel cells x} hx => by
            obtain ⟨n, rfl, _, hwf⟩ := DataW.trod_int he hx
            exact one (c := .int k) n rfl hwf (.int k n)) hd
          refine one (c := .ints k) (xs.map fun y : CL [.int k] => (show Int from y.1)) rfl ⟨by rw [List.length_map]; exact h0, fun n hn => ?_⟩ (den_ro_congr (c := .typ [.int k] xs) ?_ rfl ?_ h2)
          · obtain ⟨y, hy, rfl⟩ := List.mem_map.1 hn
            exact (h1 y hy).1
          · exact List.length_map _
          · intro i j hi hj
            have hj : j < 1 := hj
            obtain rfl : j = 0 := by omega
            have hi : i < xs.length := hi
            exact congrArg (SV.int k) (mapD (fun y : CL [.int k] => (show Int from y.1)) xs 0 (CL.d [.int k]) hi)
        · cases h
      · rename_i he
        rw [Bool.cond_eq_ite] at h
        split at h
        · rename_i hw
          have hw : P.cellsOf e = 1 := by simpa using hw
          simp only [Option.some.injEq] at h
          subst h
          obtain ⟨v, xs, rfl, h0, h1, h2⟩ := trod_row (cs := [.str]) ht hw (Nat.le_refl _) (fun {fuel cells x} hx => by
            obtain ⟨n, rfl, _, hwf⟩ := DataW.trod_string he hx
            exact one (c := .str) n rfl hwf (.str n)) hd
          refine one (c := .strs) (xs.map fun y : CL [.str] => (show ByteArray from y.1)) rfl ⟨by rw [List.length_map]; exact h0, fun n hn => ?_⟩ (den_ro_congr (c := .typ [.str] xs) ?_ rfl ?_ h2)
          · obtain ⟨y, hy, rfl⟩ := List.mem_map.1 hn
            exact (h1 y hy).1
          · exact List.length_map _
          · intro i j hi hj
            have hj : j < 1 := hj
            obtain rfl : j = 0 := by omega
            have hi : i < xs.length := hi
            exact congrArg (SV.str) (mapD (fun y : CL [.str] => (show ByteArray from y.1)) xs ByteArray.empty (CL.d [.str]) hi)
        · cases h
      · rename_i he
        rw [Bool.cond_eq_ite] at h
        split at h
        · rename_i hw
          have hw : P.cellsOf e = 1 := by simpa using hw
          simp only [Option.some.injEq] at h
          subst h
          obtain ⟨v, xs, rfl, h0, h1, h2⟩ := trod_row (cs := [.bool]) ht hw (Nat.le_refl _) (fun {fuel cells x} hx => by
            obtain ⟨n, rfl, _⟩ := DataW.trod_bool he hx
            exact one (c := .bool) n rfl trivial (.bool n)) hd
          refine one (c := .bools) (xs.map fun y : CL [.bool] => (show Bool from y.1)) rfl (by show List.length (List.map _ xs) ≤ maxLen; rw [List.length_map]; exact h0) (den_ro_congr (c := .typ [.bool] xs) ?_ rfl ?_ h2)
          · exact List.length_map _
          · intro i j hi hj
            have hj : j < 1 := hj
            obtain rfl : j = 0 := by omega
            have hi : i < xs.length := hi
            exact congrArg (SV.bool) (mapD (fun y : CL [.bool] => (show Bool from y.1)) xs false (CL.d [.bool]) hi)
        · cases h
      · obtain ⟨cs', h1, h2⟩ := Option.bind_eq_some_iff.1 h
        rw [Bool.cond_eq_ite] at h2
        split at h2
        · rename_i hb
          simp only [Bool.and_eq_true, Nat.beq_eq] at hb
          obtain ⟨hw, hw1⟩ := hb
          have hw1 := Nat.le_of_ble_eq_true hw1
          simp only [Option.some.injEq] at h2
          subst h2
          obtain ⟨v, xs, rfl, h0, h3, h4⟩ := trod_row (cs := cs') ht hw hw1 (fun hx => trod_cl d h1 hx) hd
          exact one (c := .rows cs') xs rfl ⟨h0, h3⟩ h4
        · cases h2
    · rename_i fs ht
      obtain ⟨cs', h1, h2⟩ := Option.bind_eq_some_iff.1 h
      rw [Bool.cond_eq_ite] at h2
      split at h2
      · rename_i hw
        have hw : P.cellsOf t = CL.wide cs' := by simpa using hw
        simp only [Option.some.injEq] at h2
        subst h2
        obtain ⟨xs, n, _, _, h3, h4, h5⟩ := DataW.trod_struct ht hd
        obtain ⟨y, h6, h7⟩ := trod_fs (enc := enc) (n := n) (cells := cells) (fun h1 h2 => trod_cl d h1 h2) fs.toList h1 (fun f hf => by
          obtain ⟨i, hi, rfl⟩ := List.getElem_of_mem hf
          have hi' : i < fs.size := by simpa using hi
          have := h5 i fs[i] (Array.getElem?_eq_getElem hi')
          rw [List.getElem?_eq_getElem (by omega)] at this
          exact ⟨_, by simpa using this⟩)
        refine ⟨by omega, y, h6, fun j hj => ?_⟩
        have := h7 j hj
        simpa using this
      · cases h2
    · rename_i n e ht
      split at h
      · rename_i k he
        rw [Bool.cond_eq_ite] at h
        split at h
        · rename_i hb
          simp only [Bool.and_eq_true, Nat.beq_eq] at hb
          obtain ⟨hw, hwt⟩ := hb
          simp only [Option.some.injEq] at h
          subst h
          obtain ⟨xs, m, _, _, h1, h2, h3⟩ := DataW.trod_array ht hd
          have each : ∀ i, i < n → ∃ z : Int, (Lit.int k z).wf = true ∧ cells[i]? = some (.int k z) := by
            intro i hi
            have h4 := h3 i hi
            rw [List.getElem?_eq_getElem (by omega), hw] at h4
            obtain ⟨z, h5, _, h6⟩ := DataW.trod_int he h4
            refine ⟨z, h6, ?_⟩
            have h7 : ((cells.drop (i * 1)).take 1)[0]? = some (.int k z) := by rw [h5]; rfl
            rw [List.getElem?_take, if_pos (by omega), List.getElem?_drop] at h7
            simpa using h7
          obtain ⟨zs, hz1, hz2⟩ := list_of n each
          refine ⟨by simp [CL.wide, CK.wide]; omega, (zs, ()), ⟨⟨hz1, fun z hz => ?_⟩, trivial⟩, fun j hj => ?_⟩
          · obtain ⟨i, hi, rfl⟩ := List.getElem_of_mem (show z ∈ zs from hz)
            exact (hz2 i hi).1
          · simp only [CL.wide, CK.wide, Nat.add_zero] at hj
            refine ⟨.int k zs[j], (hz2 j (by omega)).2, ?_⟩
            simp only [CL.cell, CK.wide]
            rw [blt_tt hj]
            show DenS _ _ (.int k (zs.getD j 0)) _
            rw [show zs.getD j 0 = zs[j] from by simp [List.getD, hz1, hj]]
            exact .int k _
        · cases h
      · cases h
    · cases h

/-! ### values of an argument's type -/
def RK.ck : RK → CK
  | .ints k => .ints k
  | .strs => .strs
  | .bools => .bools
  | .typ cs => .rows cs
def B.ck : B → CK
  | .int k => .int k
  | .bool => .bool
  | .str => .str
  | .row r _ => r.ck
  | .rrow r _ => r.ck
  | .arr k n => .arr k n
  | .fn => .bool
def B.noFn : B → Bool
  | .fn => false
  | _ => true
def RK.of : (r : RK) → r.ck.V → r.V
  | .ints _, y => y
  | .strs, y => y
  | .bools, y => y
  | .typ _, y => y
def B.of : (b : B) → b.ck.V → b.V
  | .int _, y => y
  | .bool, y => y
  | .str, y => y
  | .row r _, y => r.of y
  | .rrow r _, y => r.of y
  | .arr _ _, y => y
  | .fn, _ => (0 : Nat)
def RK.wf : (r : RK) → r.V → Prop
  | .ints k, x => ∀ n ∈ x, (Lit.int k n).wf = true
  | .strs, x => ∀ s ∈ x, ByteArray.size s ≤ maxLen
  | .bools, _ => True
  | .typ cs, x => ∀ y ∈ x, CL.wf cs y
def B.wf : (b : B) → b.V → Prop
  | .int k, n => (Lit.int k n).wf = true
  | .str, s => ByteArray.size s ≤ maxLen
  | .row r _, x => r.wf x
  | .rrow r _, x => r.wf x
  | .arr k n, ws => List.length (α := Int) ws = n ∧ ∀ m ∈ (show List Int from ws), (Lit.int k m).wf = true
  | _, _ => True
def BL.wf : (bs : List B) → BL bs → Prop
  | [], _ => True
  | b :: bs, (x, y) => b.wf x ∧ BL.wf bs y
def Ty.wf : (t : Ty) → t.V → Prop
  | .b q, x => q.wf x
  | .st bs, x => BL.wf bs x
def AL.wf : (ts : List Ty) → AL ts → Prop
  | [], _ => True
  | t :: ts, (x, y) => t.wf x ∧ AL.wf ts y
def BL.of : (bs : List B) → CL (bs.map B.ck) → BL bs
  | [], _ => ()
  | b :: bs, y => (b.of y.1, BL.of bs y.2)

theorem B.of_wf {b : B} {y : b.ck.V} (h : CK.wf b.ck y) : b.wf (b.of y) := by
  cases b with
  | int k => exact h
  | bool => trivial
  | str => exact h
  | row r e => cases r <;> first | exact h.2 | trivial
  | rrow r e => cases r <;> first | exact h.2 | trivial
  | arr k n => exact h
  | fn => trivial

theorem B.of_den {b : B} (hb : b.noFn = true) {y : b.ck.V} (hy : CK.wf b.ck y) {cells : List Value} (hl : cells.length = b.ck.wide) (h : ∀ j, j < b.ck.wide → ∃ u, cells[j]? = some u ∧ DenS (fun _ => False) W (b.ck.cell y j) u) :
    DenC ρ Hh (fun _ => False) W (b.av (b.of y)) cells := by
  have one : b.ck.wide = 1 → ∃ u, cells = [u] ∧ DenS (fun _ => False) W (b.ck.cell y 0) u := by
    intro h1
    obtain ⟨u, h2, h3⟩ := h 0 (by omega)
    rw [h1] at hl
    match cells, hl with
    | [v], _ => simp only [List.getElem?_cons_zero, Option.some.injEq] at h2; subst h2; exact ⟨v, rfl, h3⟩
  cases b with
  | int k => obtain ⟨u, rfl, h2⟩ := one rfl; show DenC _ _ _ _ (.s (.int k y)) _; unfold DenC; exact ⟨u, rfl, h2⟩
  | bool => obtain ⟨u, rfl, h2⟩ := one rfl; show DenC _ _ _ _ (.s (.bool y)) _; unfold DenC; exact ⟨u, rfl, h2⟩
  | str => obtain ⟨u, rfl, h2⟩ := one rfl; show DenC _ _ _ _ (.s (.str y)) _; unfold DenC; exact ⟨u, rfl, h2⟩
  | row r e =>
    obtain ⟨u, rfl, h2⟩ := one (by cases r <;> rfl)
    show DenC _ _ _ _ (.s (.ro (r.con (r.of y)))) _
    unfold DenC
    exact ⟨u, rfl, by cases r <;> exact h2⟩
  | rrow r e =>
    obtain ⟨u, rfl, h2⟩ := one (by cases r <;> rfl)
    show DenC _ _ _ _ (.s (.ro (r.con (r.of y)))) _
    unfold DenC
    exact ⟨u, rfl, by cases r <;> exact h2⟩
  | arr k n =>
    show DenC _ _ _ _ (.ints k n y) _
    unfold DenC
    have key : ∀ ys : List Int, ys.length = n → (∀ j, j < n → ∃ u, cells[j]? = some u ∧ DenS (fun _ => False) W (.int k (ys.getD j 0)) u) → cells.length = n → cells = ys.map (Value.int k) := by
      intro ys h1 h2 h3
      refine List.ext_getElem (by rw [h3, List.length_map, h1]) fun j h4 h5 => ?_
      obtain ⟨u, h6, h7⟩ := h2 j (by omega)
      cases h7
      rw [List.getElem?_eq_getElem h4, Option.some.injEq] at h6
      rw [h6, List.getElem_map]
      congr 1
      simp [List.getD, show j < ys.length by omega]
    exact ⟨hy.1, key y hy.1 h hl⟩
  | fn => cases hb

theorem BL.of_den : ∀ {bs : List B}, bs.all B.noFn = true → ∀ {y : CL (bs.map B.ck)}, CL.wf (bs.map B.ck) y → ∀ {cells : List Value}, cells.length = CL.wide (bs.map B.ck) → (FD W (bs.map B.ck) y fun j => cells[j]?) →
    BL.wf bs (BL.of bs y) ∧ DenSegs ρ Hh (fun _ => False) W (BL.av bs (BL.of bs y)) cells
  | [], _, y, _, cells, hl, _ => ⟨trivial, DenSegs_nil.2 (List.eq_nil_of_length_eq_zero hl)⟩
  | b :: bs, hb, y, hy, cells, hl, h => by
    simp only [List.all_cons, Bool.and_eq_true] at hb
    simp only [List.map_cons, CL.wide] at hl
    have hy : CK.wf b.ck y.1 ∧ CL.wf (bs.map B.ck) y.2 := hy
    have h : ∀ j, j < b.ck.wide + CL.wide (bs.map B.ck) → ∃ u, cells[j]? = some u ∧ DenS (fun _ => False) W (bif j.blt b.ck.wide then b.ck.cell y.1 j else CL.cell (bs.map B.ck) y.2 (j - b.ck.wide)) u := h
    obtain ⟨h1, h2⟩ := BL.of_den hb.2 (y := y.2) hy.2 (cells := cells.drop b.ck.wide) (by rw [List.length_drop]; omega) (fun j hj => by
      obtain ⟨u, h3, h4⟩ := h (b.ck.wide + j) (by omega)
      rw [blt_ff (by omega), cond_false, Nat.add_sub_cancel_left] at h4
      exact ⟨u, by dsimp only; rw [List.getElem?_drop]; exact h3, h4⟩)
    refine ⟨⟨B.of_wf hy.1, h1⟩, DenSegs_cons.2 ⟨cells.take b.ck.wide, cells.drop b.ck.wide, (List.take_append_drop _ _).symm, B.of_den hb.1 hy.1 (by rw [List.length_take]; omega) (fun j hj => ?_), h2⟩⟩
    obtain ⟨u, h3, h4⟩ := h j (by omega)
    rw [blt_tt hj, cond_true] at h4
    exact ⟨u, by rw [List.getElem?_take, if_pos hj]; exact h3, h4⟩

def Ty.lay (P : Program) (t : TypeId) : Ty → Bool
  | .b q => q.noFn && (layR P 12 t).any (fun cs => (CL.eq cs [q.ck]).isSome) && (match P.underlying t, q with
    | some (.array _ _), .arr _ _ => true
    | some (.struct _), _ => false
    | some (.array _ _), _ => false
    | _, .arr _ _ => false
    | _, _ => true)
  | .st bs => bs.all B.noFn && (layR P 12 t).any (fun cs => (CL.eq cs (bs.map B.ck)).isSome) && (match P.underlying t with
    | some (.struct _) => true
    | _ => false)

theorem lay_eq {d : Nat} {t : TypeId} {cs' : List CK} (h : (layR P d t).any (fun cs => (CL.eq cs cs').isSome) = true) : layR P d t = some cs' := by
  cases hl : layR P d t with
  | none => simp [hl] at h
  | some cs =>
    rw [hl, Option.any_some] at h
    obtain ⟨e, _⟩ := Option.isSome_iff_exists.1 h
    rw [e.down]

theorem den_ty {t : TypeId} {ty : Ty} {v : Value} {d : DataW H} {ps : List MemPlace} (hl : ty.lay P t = true) (hval : Value.okWide P W .any base t v) (hd : DataW.Trod enc P W 0 (fun _ => true) true t v d ps) :
    ∃ x : ty.V, ty.wf x ∧ DenV ρ Hh (fun _ => False) W (ty.av x) v := by
  obtain ⟨fuel, hd⟩ := hd
  cases ty with
  | st bs =>
    simp only [Ty.lay, Bool.and_eq_true] at hl
    obtain ⟨⟨h1, h2⟩, h3⟩ := hl
    split at h3
    · rename_i fs ht
      simp only [Value.okWide, ht] at hval
      obtain ⟨cs, rfl, _, _⟩ := hval
      obtain ⟨h4, y, h5, h6⟩ := trod_cl 12 (lay_eq h2) hd
      obtain ⟨h7, h8⟩ := BL.of_den (ρ := ρ) (Hh := Hh) h1 h5 h4 h6
      refine ⟨BL.of bs y, h7, ?_⟩
      show DenV _ _ _ _ (.agg _) _
      unfold DenV
      exact ⟨cs.toList, by simp, h8⟩
    · cases h3
  | b q =>
    simp only [Ty.lay, Bool.and_eq_true] at hl
    obtain ⟨⟨h1, h2⟩, h3⟩ := hl
    obtain ⟨h4, y, h5, h6⟩ := trod_cl 12 (lay_eq h2) hd
    have h4 : v.cells.toList.length = q.ck.wide := by simpa [CL.wide] using h4
    have h5 : CK.wf q.ck y.1 := h5.1
    have key := B.of_den (ρ := ρ) (Hh := Hh) h1 h5 h4 (fun j hj => by
      obtain ⟨u, h7, h8⟩ := h6 j (by simp only [CL.wide]; omega)
      simp only [CL.cell] at h8
      rw [blt_tt hj, cond_true] at h8
      exact ⟨u, h7, h8⟩)
    refine ⟨q.of y.1, B.of_wf h5, ?_⟩
    show DenV _ _ _ _ (q.av _) _
    have single : (∀ cs, v ≠ .agg cs) → (∀ k n ws, q.av (q.of y.1) ≠ .ints k n ws) → DenV ρ Hh (fun _ => False) W (q.av (q.of y.1)) v := by
      intro hna hni
      have hc : v.cells.toList = [v] := by cases v <;> first | rfl | exact absurd rfl (hna _)
      rw [hc] at key
      obtain ⟨u, hu, _, hden⟩ := DenC_single key (wide_other hni) hni
      cases hu
      exact hden
    by_cases harr : ∃ k n, q = .arr k n
    · obtain ⟨k, n, rfl⟩ := harr
      obtain ⟨n', e', ht⟩ : ∃ n' e', P.underlying t = some (.array n' e') := by
        cases hu : P.underlying t with
        | none => simp [hu] at h3
        | some td => cases td <;> simp [hu] at h3 ⊢
      simp only [Value.okWide, ht] at hval
      obtain ⟨cs, rfl, _, _⟩ := hval
      have key : DenC ρ Hh (fun _ => False) W (.ints k n y.1) cs.toList := key
      unfold DenC at key
      show DenV _ _ _ _ (.ints k n y.1) _
      unfold DenV
      exact ⟨key.1, by rw [← key.2]⟩
    · have hns : (∀ fs, P.underlying t ≠ some (.struct fs)) ∧ ∀ n e, P.underlying t ≠ some (.array n e) := by
        cases hu : P.underlying t with
        | none => simp
        | some td => cases td <;> cases q <;> simp_all
      refine single (fun cs hv => ?_) (fun k n ws he => ?_)
      · subst hv
        unfold Value.okWide at hval
        split at hval
        · rename_i fs ht; exact hns.1 fs ht
        · rename_i n e ht; exact hns.2 n e ht
        · simp only [Cell.okWide, Cell.ok] at hval
          split at hval <;> simp_all
      · cases q <;> simp [B.av] at he
        exact harr ⟨_, _, rfl⟩

/-- A contract that says 'true', under what the reading gives: the call's end. -/
theorem calls_true_pre {Z : Glob} {f : FuncId} {ts : List Ty} {pre : AL ts → List Prop} (h : FnOk P Z f ts [.b .bool] pre (fun _ => (true, ()))) (hz : Z.ok W) {x : AL ts} {vs : List Value} (hp : Needs (pre x))
    (hd : DenL (fun _ => undef) (fun _ => none) (fun _ => False) W (AL.av ts x) vs) : Calls P f vs.toArray W fun e W' => e = .returned (.bool true) ∧ Same W W' := by
  have e0 : Hot (fun _ => undef) (fun _ => none) (fun _ => False) = fun _ => False := by
    funext b
    refine propext ⟨fun h => ?_, False.elim⟩
    rcases h with ⟨id, o, ho, _⟩ | h
    · cases ho
    · exact h
  refine (h x (AL.okL hd) hp (fun _ => False) W vs (fun _ h => h.elim) hz (by rw [e0]; exact hd)).mono ?_
  rintro e W' ⟨v, rfl, ρ', _, h2, _, h4⟩
  have h5 : DenV ρ' (lk []) (Hot ρ' (lk []) fun _ => False) W' (.s (.bool true)) v := h2
  have h6 := DenS_of_V (by simp) h5
  cases h6
  exact ⟨rfl, h4.os, h4.output, fun b hb => h4.heap b hb (fun ⟨id, o, ho, _⟩ => by cases ho)⟩
end
end Go.Sx

/-! The last facts of a row whose program is a cut: its head word is read once. -/
namespace Go.Sx
open Go

theorem make_cut (P : Program) (r : List (List Char)) (h : behindMainWord (wordsSigns P.initOrder.toList) = [(Char.ofNat 99), (Char.ofNat 117), (Char.ofNat 116)] :: r) : P.make = some .cut := by
  unfold Program.make; rw [h]; kernel_rfl
theorem lifts_cut (P : Program) (r : List (List Char)) (h : behindMainWord (wordsSigns P.initOrder.toList) = [(Char.ofNat 99), (Char.ofNat 117), (Char.ofNat 116)] :: r) (hs : stripLifts liftWords ([(Char.ofNat 99), (Char.ofNat 117), (Char.ofNat 116)] :: r) = ([], [(Char.ofNat 99), (Char.ofNat 117), (Char.ofNat 116)] :: r)) : P.liftsFinal = false := by
  unfold Program.liftsFinal Program.headLifts; rw [h]; dsimp only; rw [hs]; kernel_rfl
theorem enter_cut (P : Program) (r : List (List Char)) (h : behindMainWord (wordsSigns P.initOrder.toList) = [(Char.ofNat 99), (Char.ofNat 117), (Char.ofNat 116)] :: r) (hs : stripLifts liftWords ([(Char.ofNat 99), (Char.ofNat 117), (Char.ofNat 116)] :: r) = ([], [(Char.ofNat 99), (Char.ofNat 117), (Char.ofNat 116)] :: r))
    (h1 : P.laysLater = false) (h2 : P.bearsReflect = false) (h3 : P.doorFits [] = true) : P.mayEnter = true := by
  unfold Program.mayEnter; rw [h]; dsimp only; rw [hs, h1, h2]; dsimp only; rw [h3]; kernel_rfl

def joinedRest (P : Program) (f : FuncId) (fn : Func) (s : ChangeSpec) (c : OpenClaim) : {b : Bool // P.mayEnter = true → P.liftsFinal = false → P.make = some .cut → joinedFacts P f fn s c = b} := by
  refine ⟨?b, fun h1 h2 h3 => ?h⟩
  case h =>
    unfold joinedFacts
    rw [h1, h2, h3]

theorem joined_cut {P : Program} {f : FuncId} {fn : Func} {s : ChangeSpec} {c : OpenClaim} (r : List (List Char)) (h : behindMainWord (wordsSigns P.initOrder.toList) = [(Char.ofNat 99), (Char.ofNat 117), (Char.ofNat 116)] :: r) (hs : stripLifts liftWords ([(Char.ofNat 99), (Char.ofNat 117), (Char.ofNat 116)] :: r) = ([], [(Char.ofNat 99), (Char.ofNat 117), (Char.ofNat 116)] :: r))
    (h1 : P.laysLater = false) (h2 : P.bearsReflect = false) (h3 : P.doorFits [] = true) (hr : (joinedRest P f fn s c).1 = true) : joinedFacts P f fn s c = true :=
  ((joinedRest P f fn s c).2 (enter_cut P r h hs h1 h2 h3) (lifts_cut P r h hs) (make_cut P r h)).trans hr
end Go.Sx

/- The head of the program's text, read once. -/
/-! The head. -/
namespace Go.Proofs.YtgfngdhelbfmdaaDoor.Hd
set_option maxRecDepth 100000 in
def ioL : List Char := [(Char.ofNat 104), (Char.ofNat 97), (Char.ofNat 114), (Char.ofNat 110), (Char.ofNat 101), (Char.ofNat 115), (Char.ofNat 115), (Char.ofNat 32), (Char.ofNat 57), (Char.ofNat 48), (Char.ofNat 98), (Char.ofNat 50), (Char.ofNat 101), (Char.ofNat 55), (Char.ofNat 102), (Char.ofNat 101), (Char.ofNat 99), (Char.ofNat 52), (Char.ofNat 101), (Char.ofNat 54), (Char.ofNat 49), (Char.ofNat 98), (Char.ofNat 52), (Char.ofNat 57), (Char.ofNat 52), (Char.ofNat 55), (Char.ofNat 50), (Char.ofNat 56), (Char.ofNat 97), (Char.ofNat 98), (Char.ofNat 57), (Char.ofNat 57), (Char.ofNat 97), (Char.ofNat 55), (Char.ofNat 49), (Char.ofNat 99), (Char.ofNat 54), (Char.ofNat 52), (Char.ofNat 48), (Char.ofNat 99), (Char.ofNat 55), (Char.ofNat 97), (Char.ofNat 49), (Char.ofNat 54), (Char.ofNat 50), (Char.ofNat 98), (Char.ofNat 55), (Char.ofNat 102), (Char.ofNat 99), (Char.ofNat 54), (Char.ofNat 100), (Char.ofNat 49), (Char.ofNat 48), (Char.ofNat 98), (Char.ofNat 54), (Char.ofNat 97), (Char.ofNat 101), (Char.ofNat 101), (Char.ofNat 55), (Char.ofNat 48), (Char.ofNat 49), (Char.ofNat 98), (Char.ofNat 101), (Char.ofNat 99), (Char.ofNat 48), (Char.ofNat 49), (Char.ofNat 102), (Char.ofNat 53), (Char.ofNat 50), (Char.ofNat 100), (Char.ofNat 100), (Char.ofNat 48), (Char.ofNat 32), (Char.ofNat 99), (Char.ofNat 117), (Char.ofNat 116), (Char.ofNat 32), (Char.ofNat 97), (Char.ofNat 116), (Char.ofNat 32), (Char.ofNat 99), (Char.ofNat 97), (Char.ofNat 108), (Char.ofNat 108), (Char.ofNat 98), (Char.ofNat 111), (Char.ofNat 97), (Char.ofNat 114), (Char.ofNat 100), (Char.ofNat 47), (Char.ofNat 99), (Char.ofNat 97), (Char.ofNat 108), (Char.ofNat 108), (Char.ofNat 98), (Char.ofNat 111), (Char.ofNat 97), (Char.ofNat 114), (Char.ofNat 100), (Char.ofNat 108), (Char.ofNat 97), (Char.ofNat 119), (Char.ofNat 49), (Char.ofNat 56), (Char.ofNat 46), (Char.ofNat 65), (Char.ofNat 114), (Char.ofNat 101), (Char.ofNat 110), (Char.ofNat 97), (Char.ofNat 83), (Char.ofNat 111), (Char.ofNat 117), (Char.ofNat 110), (Char.ofNat 100), (Char.ofNat 32), (Char.ofNat 99), (Char.ofNat 97), (Char.ofNat 108), (Char.ofNat 108), (Char.ofNat 98), (Char.ofNat 111), (Char.ofNat 97), (Char.ofNat 114), (Char.ofNat 100), (Char.ofNat 47), (Char.ofNat 99), (Char.ofNat 97), (Char.ofNat 108), (Char.ofNat 108), (Char.ofNat 98), (Char.ofNat 111), (Char.ofNat 97), (Char.ofNat 114), (Char.ofNat 100), (Char.ofNat 108), (Char.ofNat 97), (Char.ofNat 119), (Char.ofNat 49), (Char.ofNat 56), (Char.ofNat 46), (Char.ofNat 65), (Char.ofNat 114), (Char.ofNat 101), (Char.ofNat 110), (Char.ofNat 97), (Char.ofNat 78), (Char.ofNat 97), (Char.ofNat 109), (Char.ofNat 101), (Char.ofNat 115), (Char.ofNat 32), (Char.ofNat 99), (Char.ofNat 97), (Char.ofNat 108), (Char.ofNat 108), (Char.ofNat 98), (Char.ofNat 111), (Char.ofNat 97), (Char.ofNat 114), (Char.ofNat 100), (Char.ofNat 47), (Char.ofNat 99), (Char.ofNat 97), (Char.ofNat 108), (Char.ofNat 108), (Char.ofNat 98), (Char.ofNat 111), (Char.ofNat 97), (Char.ofNat 114), (Char.ofNat 100), (Char.ofNat 108), (Char.ofNat 97), (Char.ofNat 119), (Char.ofNat 49), (Char.ofNat 56), (Char.ofNat 46), (Char.ofNat 65), (Char.ofNat 114), (Char.ofNat 101), (Char.ofNat 110), (Char.ofNat 97), (Char.ofNat 84), (Char.ofNat 114), (Char.ofNat 101), (Char.ofNat 101), (Char.ofNat 115), (Char.ofNat 32), (Char.ofNat 99), (Char.ofNat 97), (Char.ofNat 108), (Char.ofNat 108), (Char.ofNat 98), (Char.ofNat 111), (Char.ofNat 97), (Char.ofNat 114), (Char.ofNat 100), (Char.ofNat 47), (Char.ofNat 99), (Char.ofNat 97), (Char.ofNat 108), (Char.ofNat 108), (Char.ofNat 98), (Char.ofNat 111), (Char.ofNat 97), (Char.ofNat 114), (Char.ofNat 100), (Char.ofNat 108), (Char.ofNat 97), (Char.ofNat 119), (Char.ofNat 49), (Char.ofNat 56), (Char.ofNat 46), (Char.ofNat 65), (Char.ofNat 114), (Char.ofNat 101), (Char.ofNat 110), (Char.ofNat 97), (Char.ofNat 78), (Char.ofNat 117), (Char.ofNat 109), (Char.ofNat 98), (Char.ofNat 101), (Char.ofNat 114), (Char.ofNat 115), (Char.ofNat 32), (Char.ofNat 99), (Char.ofNat 97), (Char.ofNat 108), (Char.ofNat 108), (Char.ofNat 98), (Char.ofNat 111), (Char.ofNat 97), (Char.ofNat 114), (Char.ofNat 100), (Char.ofNat 47), (Char.ofNat 99), (Char.ofNat 97), (Char.ofNat 108), (Char.ofNat 108), (Char.ofNat 98), (Char.ofNat 111), (Char.ofNat 97), (Char.ofNat 114), (Char.ofNat 100), (Char.ofNat 108), (Char.ofNat 97), (Char.ofNat 119), (Char.ofNat 50), (Char.ofNat 49), (Char.ofNat 46), (Char.ofNat 67), (Char.ofNat 97), (Char.ofNat 110), (Char.ofNat 99), (Char.ofNat 101), (Char.ofNat 108), (Char.ofNat 83), (Char.ofNat 111), (Char.ofNat 117), (Char.ofNat 110), (Char.ofNat 100), (Char.ofNat 32), (Char.ofNat 99), (Char.ofNat 97), (Char.ofNat 108), (Char.ofNat 108), (Char.ofNat 98), (Char.ofNat 111), (Char.ofNat 97), (Char.ofNat 114), (Char.ofNat 100), (Char.ofNat 47), (Char.ofNat 99), (Char.ofNat 97), (Char.ofNat 108), (Char.ofNat 108), (Char.ofNat 98), (Char.ofNat 111), (Char.ofNat 97), (Char.ofNat 114), (Char.ofNat 100), (Char.ofNat 108), (Char.ofNat 97), (Char.ofNat 119), (Char.ofNat 50), (Char.ofNat 50), (Char.ofNat 46), (Char.ofNat 82), (Char.ofNat 111), (Char.ofNat 117), (Char.ofNat 116), (Char.ofNat 101), (Char.ofNat 79), (Char.ofNat 117), (Char.ofNat 116), (Char.ofNat 119), (Char.ofNat 97), (Char.ofNat 114), (Char.ofNat 100), (Char.ofNat 32), (Char.ofNat 99), (Char.ofNat 97), (Char.ofNat 108), (Char.ofNat 108), (Char.ofNat 98), (Char.ofNat 111), (Char.ofNat 97), (Char.ofNat 114), (Char.ofNat 100), (Char.ofNat 47), (Char.ofNat 99), (Char.ofNat 97), (Char.ofNat 108), (Char.ofNat 108), (Char.ofNat 98), (Char.ofNat 111), (Char.ofNat 97), (Char.ofNat 114), (Char.ofNat 100), (Char.ofNat 108), (Char.ofNat 97), (Char.ofNat 119), (Char.ofNat 50), (Char.ofNat 50), (Char.ofNat 46), (Char.ofNat 82), (Char.ofNat 111), (Char.ofNat 117), (Char.ofNat 116), (Char.ofNat 101), (Char.ofNat 83), (Char.ofNat 99), (Char.ofNat 111), (Char.ofNat 112), (Char.ofNat 101), (Char.ofNat 115)]
set_option maxRecDepth 100000 in
theorem ioE : Tryd.prog.initOrder = String.ofList ioL := by kernel_rfl
theorem ioT : Tryd.prog.initOrder.toList = ioL := by rw [ioE]; exact String.toList_ofList
def restL : List (List Char) := (wordsSigns ioL).drop 3
theorem hb : behindMainWord (wordsSigns Tryd.prog.initOrder.toList) = [(Char.ofNat 99), (Char.ofNat 117), (Char.ofNat 116)] :: restL := by rw [ioT]; kernel_rfl
theorem a1 : Tryd.prog.laysLater = false := by kernel_rfl
theorem a2 : Tryd.prog.bearsReflect = false := by kernel_rfl
theorem a3 : stripLifts liftWords ([(Char.ofNat 99), (Char.ofNat 117), (Char.ofNat 116)] :: restL) = ([], [(Char.ofNat 99), (Char.ofNat 117), (Char.ofNat 116)] :: restL) := by kernel_rfl
theorem a5 : Tryd.prog.doorFits [] = true := by kernel_rfl
theorem own : ownKnob Tryd.prog.godebug = none := by kernel_rfl
theorem laidOut : laidOutB Tryd.prog = true := by kernel_rfl
end Go.Proofs.YtgfngdhelbfmdaaDoor.Hd

/-! Contracts of functions that are handed own objects: what they find in them, and what they leave. -/
namespace Go.Sx
open Go

/-- By plain data: the arguments over objects 0, 1, .., what these bear, what is owed, what they bear behind the call (new ones behind them), and the answer. -/
structure Spec (X : Type) where
  args : X → List AV
  heap : X → List AObj
  pre : X → List Prop
  outH : X → List AObj
  out : X → AV

def FnS (P : Program) (Z : Glob) (f : FuncId) {X : Type} (S : Spec X) : Prop :=
  ∀ x, Needs (S.pre x) → ∀ (ρ : Nat → Value) (G : Nat → Prop) (w : World) (vs : List Value), ZAt Z ρ (lk (S.heap x)) w → Sat ρ (lk (S.heap x)) G w →
    DenL ρ (lk (S.heap x)) (Hot ρ (lk (S.heap x)) G) w (S.args x) vs →
    Calls P f vs.toArray w fun e w' => ∃ v, e = .returned v ∧ Good ρ (lk (S.heap x)) G w (lk (S.outH x)) (S.out x) v w'

/-- The run's end, seen by a Norm. -/
def EndS {X : Type} (S : Spec X) (x : X) (L : List AObj) (r : AV) : Prop :=
  ∃ N : Norm, (S.heap x).length ≤ N.m ∧ N.run ⟨[r], L, [], {}⟩ = some ⟨[S.out x], S.outH x, [], {}⟩

def RM.bind {α β : Type} : RM α → (α → RM β) → RM β
  | .ret a, k => k a
  | .look id f, k => .look id fun o => (f o).bind k
  | .fail w, _ => .fail w

def lookAll : List Nat → (List AObj → RM Res) → RM Res
  | [], k => k []
  | i :: is, k => .look i fun o => match o with
    | some o => lookAll is fun os => k (o :: os)
    | none => .fail "no object"

/-- The callee's numbers, seen by the caller. -/
def back (σ : List Nat) (base n : Nat) (j : Nat) : Option Nat := bif j.blt σ.length then σ[j]? else bif j.blt n then some (base + (j - σ.length)) else none

/-- The summary: M tells the data and the objects; that it is right is owed. -/
def sumS {X : Type} (S : Spec X) (M : List AV → RM (X × List Nat)) : Nat → List AV → RM Res := fun base args =>
  (M args).bind fun (x, σ) => bif nodupB σ then lookAll σ fun os =>
    (match allM (rnO (back σ base (S.outH x).length)) (S.outH x), rn (back σ base (S.outH x).length) 20 (S.out x) with
     | some L', some r => bif σ.length.ble L'.length then
        .ret ⟨(allM (rn (idx σ) 20) args = some (S.args x)) :: (allM (rnO (idx σ)) os = some (S.heap x)) :: S.pre x, σ.zip L', L'.drop σ.length, fun _ => r⟩ else .fail "sum: objects are gone"
     | _, _ => .fail "sum: names")
   else .fail "sum: one object twice"

section
variable {ρ ρ' : Nat → Value} {H H' : AHeap} {G O O' : Nat → Prop} {w w' : World} {P : Program} {Z : Glob} {X : Type} {S : Spec X}

theorem RM.bind_eval {α β : Type} : ∀ {m : RM α} {k : α → RM β} {q : β}, (m.bind k).eval H = some q → ∃ a, m.eval H = some a ∧ (k a).eval H = some q
  | .ret a, k, q, h => ⟨a, rfl, h⟩
  | .look id f, k, q, h => by
    simp only [RM.bind, RM.eval] at h ⊢
    exact RM.bind_eval h
  | .fail w, k, q, h => by simp [RM.bind, RM.eval] at h

theorem lookAll_eval : ∀ {is : List Nat} {k : List AObj → RM Res} {q : Res}, (lookAll is k).eval H = some q → ∃ os : List AObj, (k os).eval H = some q ∧ os.length = is.length ∧ ∀ (j id : Nat), is[j]? = some id → H id = os[j]? ∧ os[j]?.isSome = true
  | [], k, q, h => ⟨[], h, rfl, fun j id hj => by simp at hj⟩
  | i :: is, k, q, h => by
    simp only [lookAll, RM.eval] at h
    split at h
    · rename_i o ho
      obtain ⟨os, h1, h2, h3⟩ := lookAll_eval h
      refine ⟨o :: os, h1, by simp [h2], fun j id hj => ?_⟩
      cases j with
      | zero => simp only [List.getElem?_cons_zero, Option.some.injEq] at hj; subst hj; exact ⟨by simpa using ho, rfl⟩
      | succ j => simpa using h3 j id (by simpa using hj)
    · simp [RM.eval] at h

theorem fnS_of_safe {f : FuncId} {fn : Func} (hf : P.funcs[f]? = some fn) (hb : fn.body.isSome = true) (hn : ∀ x, (S.args x).length ≤ fn.ntmps)
    (h : ∀ x, Needs (S.pre x) → ∀ X : Ctx, X.H = lk (S.heap x) → ZCtx Z X → Safe P f X (EndS S x) (start fn (S.args x) (S.heap x))) : FnS P Z f S := by
  intro x hpre ρ G w vs hz hs hd
  obtain ⟨c, hb⟩ := Option.isSome_iff_exists.1 hb
  have hlenV : vs.length = (S.args x).length := by
    have : ∀ {azs : List AV} {vs : List Value}, DenL ρ (lk (S.heap x)) (Hot ρ (lk (S.heap x)) G) w azs vs → vs.length = azs.length := by
      intro azs
      induction azs with
      | nil => intro vs h; rw [DenL_nil.1 h]; rfl
      | cons a azs ih => intro vs h; obtain ⟨v, rest, rfl, _, h2⟩ := DenL_cons.1 h; simp [ih h2]
    exact this hd
  refine (calls_of_goes (R := Post ⟨ρ, lk (S.heap x), G, w, []⟩ (EndS S x)) hf hb ?_).mono ?_
  · have := (h x hpre ⟨ρ, lk (S.heap x), G, w, []⟩ rfl hz).goes rfl rfl (ρ := ρ) (a := { tmps := vs.toArray ++ Array.replicate (fn.ntmps - vs.toArray.size) undef, defers := [] }) (w := w)
    simp only [start, hb, Option.getD_some] at this
    refine this ⟨hs, ?_, fun t => ?_, rfl, Step.refl _ _ _ _, ⟨rfl, rfl, rfl, fun _ _ _ => rfl⟩, fun x hx => by cases hx⟩
    · simp [hlenV]
    · have e1 : ∀ (azs : List AV) (vs : List Value), DenL ρ (lk (S.heap x)) (Hot ρ (lk (S.heap x)) G) w azs vs → ∀ t, DenV ρ (lk (S.heap x)) (Hot ρ (lk (S.heap x)) G) w (azs.getD t (.tup [])) (vs.getD t undef) := by
        intro azs
        induction azs with
        | nil => intro vs h t; rw [DenL_nil.1 h]; simp only [List.getD, List.getElem?_nil, Option.getD_none]; exact den_undef
        | cons a azs ih =>
          intro vs h t
          obtain ⟨v, rest, rfl, h1, h2⟩ := DenL_cons.1 h
          cases t with
          | zero => simpa using h1
          | succ t => simpa using ih rest h2 t
      have h1 := e1 _ _ hd t
      simp only [List.getD_eq_getElem?_getD, List.getElem?_append, List.getElem?_replicate, Array.getD_eq_getD_getElem?, Array.getElem?_append, List.getElem?_toArray, Array.getElem?_replicate, List.size_toArray] at h1 ⊢
      rw [hlenV]
      split
      · rename_i ht
        have hv : vs[t]? = some vs[t] := List.getElem?_eq_getElem (by omega)
        have ha : (S.args x)[t]? = some (S.args x)[t] := List.getElem?_eq_getElem ht
        rw [hv, ha] at h1 ⊢
        exact h1
      · split
        · exact den_undef
        · unfold DenV; trivial
  · rintro e w' ⟨v, rfl, L, r, ⟨N, hm, hN⟩, ρ1, g1, g2, g3, g4⟩
    refine ⟨v, rfl, ?_⟩
    have r0 : Rep ⟨ρ, lk (S.heap x), G, w, []⟩ ρ1 ⟨[r], L⟩ { tmps := #[v], defers := [] } w' := by
      refine ⟨g1, rfl, fun t => ?_, rfl, g3, g4, fun x hx => by cases hx⟩
      cases t with
      | zero => exact g2
      | succ t => simp only [List.getD, Array.getD]; simp; unfold DenV; trivial
    have h0 : ∀ id, N.m ≤ id → (⟨ρ, lk (S.heap x), G, w, []⟩ : Ctx).H id = none := fun id hid => by simp [lk]; omega
    unfold Norm.run at hN
    split at hN
    · rename_i t1 L1 h1
      simp only [] at hN
      split at hN
      · rename_i t2 L2 h2
        simp only [Option.some.injEq, Cfg.mk.injEq, and_true] at hN
        obtain ⟨rfl, rfl⟩ := hN
        obtain ⟨ρ1, r1⟩ := Rep.compact h0 h1 (Rep.keepOnly N.keep r0)
        obtain ⟨ρ2, r2⟩ := Rep.nilSlots N.nils r1
        obtain ⟨ρ3, r3⟩ := Rep.nilCells N.cells r2
        obtain ⟨ρ4, r4⟩ := Rep.compact h0 h2 r3
        exact ⟨ρ4, r4.sat, (by have h := r4.den 0; exact h), r4.from_, r4.frm⟩
      · cases hN
    · cases hN

theorem find_zip : ∀ {σ : List Nat} {L : List AObj} {j : Nat}, σ.Nodup → σ.length ≤ L.length →
    (∀ (i : Nat), σ[i]? = some j → findUp (σ.zip L) j = L[i]?) ∧ (j ∉ σ → findUp (σ.zip L) j = none)
  | [], L, j, hn, hl => ⟨fun i h => by simp at h, fun _ => rfl⟩
  | x :: xs, [], j, hn, hl => by simp at hl
  | x :: xs, l :: ls, j, hn, hl => by
    obtain ⟨h1, h2⟩ := find_zip (σ := xs) (L := ls) (j := j) (List.nodup_cons.1 hn).2 (by simpa using hl)
    constructor
    · intro i hi
      simp only [List.zip_cons_cons, findUp]
      cases i with
      | zero =>
        simp only [List.getElem?_cons_zero, Option.some.injEq] at hi
        subst hi
        rw [h2 (List.nodup_cons.1 hn).1]
        simp
      | succ i =>
        simp only [List.getElem?_cons_succ] at hi ⊢
        rw [h1 i hi]
        have hlt : i < xs.length := (List.getElem?_eq_some_iff.1 hi).1
        simp only [List.length_cons] at hl
        rw [List.getElem?_eq_getElem (show i < ls.length by omega)]
    · intro hj
      simp only [List.mem_cons, not_or] at hj
      simp only [List.zip_cons_cons, findUp]
      rw [h2 hj.2]
      simp [hj.1]

theorem FnS.sum {f : FuncId} (h : FnS P Z f S) (M : List AV → RM (X × List Nat)) : SOk1 P Z f (sumS S M) := by
  intro base args H q hq hn ρ G w vs hfresh hz hs hd
  unfold sumS at hq
  obtain ⟨⟨x, σ⟩, _, hq⟩ := RM.bind_eval hq
  simp only [Bool.cond_eq_ite] at hq
  split at hq
  · rename_i hnd
    have hnd := nodupB_spec hnd
    obtain ⟨os, hq, hlen, hos⟩ := lookAll_eval hq
    split at hq
    · rename_i L' r hL' hr
      split at hq
      · rename_i hle
        have hle := Nat.le_of_ble_eq_true hle
        simp only [RM.eval, Option.some.injEq] at hq
        subst hq
        obtain ⟨hargs, hheap, hpre⟩ := hn
        simp only [] at hfresh ⊢
        -- the view
        have hin : ∀ {j : Nat} {o' : AObj}, (S.heap x)[j]? = some o' → ∃ (id : Nat) (o : AObj), σ[j]? = some id ∧ H id = some o ∧ rnO (idx σ) o = some o' := by
          intro j o' ho'
          have hl := allM_length hheap
          have hj : j < os.length := by rw [← hl]; exact (List.getElem?_eq_some_iff.1 ho').1
          obtain ⟨b, g1, g2⟩ := allM_get hheap j os[j] (List.getElem?_eq_getElem hj)
          rw [ho'] at g2
          cases g2
          have hj2 : j < σ.length := by omega
          have := (hos j σ[j] (List.getElem?_eq_getElem hj2)).1
          exact ⟨σ[j], os[j], List.getElem?_eq_getElem hj2, by rw [this, List.getElem?_eq_getElem hj], g1⟩
        have hout : ∀ {j id : Nat}, σ[j]? = some id → ∃ o o', H id = some o ∧ rnO (idx σ) o = some o' ∧ (S.heap x)[j]? = some o' := by
          intro j id hj
          obtain ⟨g1, g2⟩ := hos j id hj
          obtain ⟨o, ho⟩ := Option.isSome_iff_exists.1 g2
          obtain ⟨b, g3, g4⟩ := allM_get hheap j o ho
          exact ⟨o, b, g1.trans ho, g3, g4⟩
        have hpull : ∀ {j id : Nat}, σ[j]? = some id → pull σ ρ j = ρ id := fun h1 => by simp [pull, List.getD, h1]
        have hown : ∀ {b : Nat}, Own (pull σ ρ) (lk (S.heap x)) b → ∃ (j id : Nat) (o : AObj), σ[j]? = some id ∧ H id = some o ∧ o.alive = true ∧ blk (ρ id) = some b := by
          rintro b ⟨j, o', ho', ha, hb⟩
          obtain ⟨id, o, h1, h2, h3⟩ := hin ho'
          rw [hpull h1] at hb
          exact ⟨j, id, o, h1, h2, by rw [← (rnO_alive h3).1]; exact ha, hb⟩
        let G' : Nat → Prop := fun b => Hot ρ H G b ∧ ¬ Own (pull σ ρ) (lk (S.heap x)) b
        have E : Emb (idx σ) ρ H (Hot ρ H G) (pull σ ρ) (lk (S.heap x)) (Hot (pull σ ρ) (lk (S.heap x)) G') := by
          refine ⟨fun i j hij => ?_, fun b hb => ?_⟩
          · have h1 := idx_spec hij
            refine ⟨hpull h1, fun o ho => ?_⟩
            obtain ⟨o1, o', h2, h3, h4⟩ := hout h1
            rw [ho] at h2
            cases h2
            exact ⟨o', h4, (rnO_alive h3).2⟩
          · rcases hb with hb | hb
            · obtain ⟨j, id, o, h1, h2, h3, h4⟩ := hown hb
              exact .inl ⟨id, o, h2, h3, h4⟩
            · exact hb.1
        have hsat : Sat (pull σ ρ) (lk (S.heap x)) G' w := by
          refine ⟨fun j o' ho' => ?_, fun i j oi oj b hi hj ai aj bi bj => ?_, fun b hb hG => hG.2 hb, fun b hb => hot_lt hs hb.1⟩
          · obtain ⟨id, o, h1, h2, h3⟩ := hin ho'
            rw [hpull h1]
            exact rnO_sat E h3 (hs.obj id o h2)
          · obtain ⟨id, o, h1, h2, h3⟩ := hin hi
            obtain ⟨id', o', h1', h2', h3'⟩ := hin hj
            rw [hpull h1] at bi
            rw [hpull h1'] at bj
            have := hs.inj id id' o o' b h2 h2' (by rw [← (rnO_alive h3).1]; exact ai) (by rw [← (rnO_alive h3').1]; exact aj) bi bj
            subst this
            obtain ⟨hi1, hi2⟩ := List.getElem?_eq_some_iff.1 h1
            obtain ⟨hj1, hj2⟩ := List.getElem?_eq_some_iff.1 h1'
            exact (List.getElem_inj hnd).1 (hi2.trans hj2.symm)
        have hz' : ZAt Z (pull σ ρ) (lk (S.heap x)) w := ⟨hz.1, fun b hb ho => by
          obtain ⟨j, id, o, h1, h2, h3, h4⟩ := hown ho
          exact hz.2 b hb ⟨id, o, h2, h3, h4⟩⟩
        have hd' := rnL_den E hargs hd
        refine (h x hpre (pull σ ρ) G' w vs hz' hsat hd').mono ?_
        rintro e w' ⟨v, he, ρ1, g1, g2, g3, g4⟩
        refine ⟨v, he, ?_⟩
        -- back again
        have hlenL := allM_length hL'
        generalize hn0 : (S.outH x).length = n0 at *
        have hnew : ∀ {j : Nat}, σ.length ≤ j → j < n0 → H (base + (j - σ.length)) = none := by
          intro j h1 h2
          exact hfresh (j - σ.length) (by simp; omega)
        have hnin : ∀ {id : Nat} {o : AObj}, H id = some o → ¬ (base ≤ id ∧ id < base + (L'.length - σ.length)) := by
          intro id o ho hc
          have := hnew (j := σ.length + (id - base)) (by omega) (by omega)
          rw [show base + (σ.length + (id - base) - σ.length) = id from by omega, ho] at this
          cases this
        let ρ2 : Nat → Value := fun id => if base ≤ id ∧ id < base + (L'.length - σ.length) then ρ1 (σ.length + (id - base)) else ρ id
        let H2 := resH H (σ.zip L') base (L'.drop σ.length)
        have hL1 : ∀ {j : Nat} {o2 : AObj}, L'[j]? = some o2 → ∃ o, (S.outH x)[j]? = some o ∧ rnO (back σ base n0) o = some o2 := by
          intro j o2 h1
          have hj : j < (S.outH x).length := by have := (List.getElem?_eq_some_iff.1 h1).1; omega
          obtain ⟨b, h2, h3⟩ := allM_get hL' j (S.outH x)[j] (List.getElem?_eq_getElem hj)
          rw [h1] at h3
          cases h3
          exact ⟨_, List.getElem?_eq_getElem hj, h2⟩
        have hρσ : ∀ {j id : Nat}, σ[j]? = some id → ρ2 id = ρ id ∧ ρ1 j = ρ id := by
          intro j id hj
          obtain ⟨o, o', h1, h2, h3⟩ := hout hj
          refine ⟨?_, ?_⟩
          · simp only [ρ2]; rw [if_neg (hnin h1)]
          · rw [g3.rho j o' h3, hpull hj]
        have hH2a : ∀ {j id : Nat}, σ[j]? = some id → H2 id = L'[j]? := by
          intro j id hj
          have hlt : j < σ.length := (List.getElem?_eq_some_iff.1 hj).1
          have := (find_zip (σ := σ) (L := L') (j := id) hnd hle).1 j hj
          simp only [H2, resH, this]
          rw [List.getElem?_eq_getElem (show j < L'.length by omega)]
        have hni : ∀ {id : Nat}, (base ≤ id ∧ id < base + (L'.length - σ.length)) → id ∉ σ := by
          intro id hc hm
          obtain ⟨i, hi⟩ := List.getElem?_of_mem hm
          obtain ⟨o, _, h3, _⟩ := hout hi
          exact hnin h3 hc
        have hH2b : ∀ {id : Nat}, (base ≤ id ∧ id < base + (L'.length - σ.length)) → H2 id = L'[σ.length + (id - base)]? := by
          intro id hc
          simp only [H2, resH, (find_zip (σ := σ) (L := L') hnd hle).2 (hni hc)]
          rw [if_pos (by simp only [List.length_drop]; exact hc)]
          simp only [List.getElem?_drop]
        have hH2c : ∀ {id : Nat}, id ∉ σ → ¬ (base ≤ id ∧ id < base + (L'.length - σ.length)) → H2 id = H id := by
          intro id h1 h2
          simp only [H2, resH, (find_zip (σ := σ) (L := L') hnd hle).2 h1]
          rw [if_neg (by simp only [List.length_drop]; exact h2)]
        have cls : ∀ {id : Nat} {o2 : AObj}, H2 id = some o2 → (∃ (j : Nat) (o : AObj), (S.outH x)[j]? = some o ∧ rnO (back σ base n0) o = some o2 ∧ ρ2 id = ρ1 j ∧ back σ base n0 j = some id) ∨ (id ∉ σ ∧ H id = some o2 ∧ ρ2 id = ρ id) := by
          intro id o2 ho
          by_cases hm : id ∈ σ
          · obtain ⟨j, hj⟩ := List.getElem?_of_mem hm
            rw [hH2a hj] at ho
            obtain ⟨o, h1, h2⟩ := hL1 ho
            obtain ⟨h3, h4⟩ := hρσ hj
            exact .inl ⟨j, o, h1, h2, by rw [h3, h4], by simp only [back, blt_t (List.getElem?_eq_some_iff.1 hj).1, cond_true]; exact hj⟩
          · by_cases hc : base ≤ id ∧ id < base + (L'.length - σ.length)
            · rw [hH2b hc] at ho
              obtain ⟨o, h1, h2⟩ := hL1 ho
              refine .inl ⟨_, o, h1, h2, by simp only [ρ2]; rw [if_pos hc], ?_⟩
              simp only [back, blt_f (show σ.length ≤ σ.length + (id - base) by omega), cond_false, blt_t (show σ.length + (id - base) < n0 by omega), cond_true]
              congr 1; omega
            · rw [hH2c hm hc] at ho
              exact .inr ⟨hm, ho, by simp only [ρ2]; rw [if_neg hc]⟩
        have view_not : ∀ {id b : Nat} {o : AObj}, id ∉ σ → H id = some o → o.alive = true → blk (ρ id) = some b → ¬ Own (pull σ ρ) (lk (S.heap x)) b := by
          intro id b o hm ho ha hb hv
          obtain ⟨j, id', o', h1, h2, h3, h4⟩ := hown hv
          have := hs.inj id id' o o' b ho h2 ha h3 hb h4
          subst this
          exact hm (List.mem_of_getElem? h1)
        have g_in : ∀ {b : Nat}, G b → G' b := fun {b} hb => ⟨.inr hb, fun hv => by
          obtain ⟨j, id', o', h1, h2, h3, h4⟩ := hown hv
          exact hs.apart b ⟨id', o', h2, h3, h4⟩ hb⟩
        have own2 : ∀ {b : Nat}, Own ρ2 H2 b → Own ρ1 (lk (S.outH x)) b ∨ (Own ρ H b ∧ G' b) := by
          rintro b ⟨id, o2, ho, ha, hb⟩
          rcases cls ho with ⟨j, o, h1, h2, h3, _⟩ | ⟨h1, h2, h3⟩
          · exact .inl ⟨j, o, h1, by rw [← (rnO_alive h2).1]; exact ha, by rw [← h3]; exact hb⟩
          · rw [h3] at hb
            exact .inr ⟨⟨id, o2, h2, ha, hb⟩, .inl ⟨id, o2, h2, ha, hb⟩, view_not h1 h2 ha hb⟩
        have E2 : Emb (back σ base n0) ρ1 (lk (S.outH x)) (Hot ρ1 (lk (S.outH x)) G') ρ2 H2 (Hot ρ2 H2 G) := by
          refine ⟨fun i j hij => ?_, fun b hb => ?_⟩
          · simp only [back, Bool.cond_eq_ite] at hij
            split at hij
            · rename_i hlt
              obtain ⟨h3, h4⟩ := hρσ hij
              refine ⟨by rw [h3, h4], fun o ho => ?_⟩
              obtain ⟨b, h5, h6⟩ := allM_get hL' i o ho
              exact ⟨b, by rw [hH2a hij]; exact h6, (rnO_alive h5).2⟩
            · rename_i hge
              split at hij
              · rename_i hlt
                have hlt : i < n0 := Nat.le_of_ble_eq_true hlt
                have hge : σ.length ≤ i := by
                  rcases Nat.lt_or_ge i σ.length with h5 | h5
                  · exact absurd (blt_t h5) hge
                  · exact h5
                simp only [Option.some.injEq] at hij
                have hc : base ≤ j ∧ j < base + (L'.length - σ.length) := by omega
                have hi : σ.length + (j - base) = i := by omega
                refine ⟨by simp only [ρ2]; rw [if_pos hc, hi], fun o ho => ?_⟩
                obtain ⟨b, h5, h6⟩ := allM_get hL' i o ho
                exact ⟨b, by rw [hH2b hc, hi]; exact h6, (rnO_alive h5).2⟩
              · cases hij
          · rcases hb with hb | hb
            · exact (own2 hb).imp (fun h => h) (fun h => h.2)
            · exact .inr (g_in hb)
        have st : Step ρ H (Hot ρ H G) w ρ2 H2 (Hot ρ2 H2 G) w' := by
          refine ⟨fun id o ho => by simp only [ρ2]; rw [if_neg (hnin ho)], fun id o ho => ?_, fun b hb => ?_, fun b hb hO => g3.heap b hb (fun hv => hO (E.hot b hv)), g3.size⟩
          · by_cases hm : id ∈ σ
            · obtain ⟨j, hj⟩ := List.getElem?_of_mem hm
              obtain ⟨o1, o', h1, h2, h3⟩ := hout hj
              rw [ho] at h1
              cases h1
              obtain ⟨o'', h4, h5⟩ := g3.keep j o' h3
              obtain ⟨o3, h6, h7⟩ := allM_get hL' j o'' h4
              refine ⟨o3, by rw [hH2a hj]; exact h7, fun c' e' hc => ?_⟩
              obtain ⟨c, e1, h8, h9, h10⟩ := h5 c' e' ((rnO_alive h6).2 c' e' hc)
              exact ⟨c, e1, (rnO_alive h2).2 c e1 h8, h9, h10⟩
            · exact ⟨o, by rw [hH2c hm (hnin ho)]; exact ho, fun c' e' hc => ⟨c', e', hc, rfl, rfl⟩⟩
          · rcases g3.hot b (E2.hot b hb) with h5 | h5
            · exact .inl (E.hot b h5)
            · exact .inr h5
        refine ⟨ρ2, ⟨fun id o2 ho => ?_, fun i j oi oj b hi hj ai aj bi bj => ?_, fun b hb hG => ?_, fun b hb => Nat.lt_of_lt_of_le (hs.low b hb) g3.size⟩, (rn_den E2 20).1 _ _ _ hr g2, st, ⟨g4.os, g4.tape, g4.output, fun b hb hO => g4.heap b hb (fun hv => ?_)⟩⟩
        · rcases cls ho with ⟨j, o, h1, h2, h3, _⟩ | ⟨h1, h2, h3⟩
          · rw [h3]
            exact rnO_sat E2 h2 (g1.obj j o h1)
          · rw [h3]
            refine (hs.obj id o2 h2).step st (fun b ha hb => ?_)
            exact g4.heap b (own_lt hs ⟨id, o2, h2, ha, hb⟩) (view_not h1 h2 ha hb)
        · have mixed : ∀ {b : Nat}, Own ρ1 (lk (S.outH x)) b → ∀ {id : Nat} {o : AObj}, id ∉ σ → H id = some o → o.alive = true → blk (ρ id) = some b → False := by
            intro b h1 id o h2 h3 h4 h5
            have hG : G' b := ⟨.inl ⟨id, o, h3, h4, h5⟩, view_not h2 h3 h4 h5⟩
            exact g1.apart b h1 hG
          rcases cls hi with ⟨j1, o1, p1, p2, p3, p4⟩ | ⟨p1, p2, p3⟩
          · rw [p3] at bi
            have a1 : o1.alive = true := by rw [← (rnO_alive p2).1]; exact ai
            rcases cls hj with ⟨j2, o2, q1, q2, q3, q4⟩ | ⟨q1, q2, q3⟩
            · rw [q3] at bj
              have := g1.inj j1 j2 o1 o2 b p1 q1 a1 (by rw [← (rnO_alive q2).1]; exact aj) bi bj
              subst this
              rw [p4] at q4
              exact Option.some.inj q4
            · rw [q3] at bj
              exact (mixed ⟨j1, o1, p1, a1, bi⟩ q1 q2 aj bj).elim
          · rw [p3] at bi
            rcases cls hj with ⟨j2, o2, q1, q2, q3, q4⟩ | ⟨q1, q2, q3⟩
            · rw [q3] at bj
              exact (mixed ⟨j2, o2, q1, by rw [← (rnO_alive q2).1]; exact aj, bj⟩ p1 p2 ai bi).elim
            · rw [q3] at bj
              exact hs.inj i j oi oj b p2 q2 ai aj bi bj
        · rcases own2 hb with h5 | h5
          · exact g1.apart b h5 (g_in hG)
          · exact hs.apart b h5.1 hG
        · obtain ⟨j, id, o, h1, h2, h3, h4⟩ := hown hv
          exact hO ⟨id, o, h2, h3, h4⟩
      · simp [RM.eval] at hq
    · simp [RM.eval] at hq
  · simp [RM.eval] at hq
end
end Go.Sx

/-! A tree gone through by rules. -/
namespace Go.Sx
open Go
instance {k : IntKind} {n : Nat} : DecidableEq (CK.arr k n).V := inferInstanceAs (DecidableEq (List Int))
instance {k : IntKind} : DecidableEq (CK.ints k).V := inferInstanceAs (DecidableEq (List Int))
instance {k : IntKind} : DecidableEq (CK.int k).V := inferInstanceAs (DecidableEq Int)
instance : DecidableEq CK.str.V := inferInstanceAs (DecidableEq ByteArray)
instance : DecidableEq CK.bool.V := inferInstanceAs (DecidableEq Bool)
/-- A record of a row. -/
abbrev el {cs : List CK} (l : List (CL cs)) (i : Int) : CL cs := l.getD i.toNat (CL.d cs)
abbrev Slf {α : Type} (a : α) : Prop := a = a
section
variable {K : List AObj → AV → Prop} {C : Cfg → Prop} {t e : Tree} {p q : Prop}
theorem h_eq {α : Type} {a : α} (h : t.Holds K C) : (Tree.need (a = a) t).Holds K C := ⟨rfl, h⟩
theorem h_need (hp : p) (h : t.Holds K C) : (Tree.need p t).Holds K C := ⟨hp, h⟩
theorem h_dec {d : Decidable p} (h1 : p → t.Holds K C) (h2 : ¬ p → e.Holds K C) : (Tree.ite (@decide p d) t e).Holds K C := ⟨fun h => h1 (of_decide_eq_true h), fun h => h2 (of_decide_eq_false h)⟩
theorem h_beq {a b : Int} (h1 : a = b → t.Holds K C) (h2 : a ≠ b → e.Holds K C) : (Tree.ite (a == b) t e).Holds K C := ⟨fun h => h1 (by simpa using h), fun h => h2 (by simpa using h)⟩
theorem h_bne {a b : Int} (h1 : a ≠ b → t.Holds K C) (h2 : a = b → e.Holds K C) : (Tree.ite (a != b) t e).Holds K C := ⟨fun h => h1 (by simpa using h), fun h => h2 (by simpa using h)⟩
theorem h_not {b : Bool} (h : (Tree.ite b e t).Holds K C) : (Tree.ite (!b) t e).Holds K C := ⟨fun hb => h.2 (by simpa using hb), fun hb => h.1 (by simpa using hb)⟩
theorem h_tt (h : t.Holds K C) : (Tree.ite true t e).Holds K C := ⟨fun _ => h, fun x => (by cases x)⟩
theorem h_ff (h : e.Holds K C) : (Tree.ite false t e).Holds K C := ⟨fun x => (by cases x), fun _ => h⟩
theorem h_ite {b : Bool} (h1 : b = true → t.Holds K C) (h2 : b = false → e.Holds K C) : (Tree.ite b t e).Holds K C := ⟨h1, h2⟩
theorem h_both (h1 : p → t.Holds K C) (h2 : q → e.Holds K C) : (Tree.both p q t e).Holds K C := ⟨h1, h2⟩
theorem h_ret {H : List AObj} {v : AV} (h : K H v) : (Tree.ret H v).Holds K C := h
theorem h_at {c : Cfg} (h : C c) : (Tree.at c).Holds K C := h
theorem endS {X : Type} {S : Spec X} {x : X} {L : List AObj} {r : AV} {o : AV} {h : List AObj} (m : Nat) (e : Norm.run ⟨[], [0], m, []⟩ ⟨[r], L, [], {}⟩ = some ⟨[o], h, [], {}⟩) (hm : (S.heap x).length ≤ m) (ho : S.out x = o) (hh : S.outH x = h) : EndS S x L r :=
  ⟨⟨[], [0], m, []⟩, hm, by rw [ho, hh]; exact e⟩
end
end Go.Sx

/-! What all texts share: ends, orders of texts, bytes. -/
namespace Lf
open Go Go.Sx

section
variable {L : List AObj}
theorem ends_il {n : Int} : Ends [.b (.int .i64)] (n, ()) L (.s (.ilit .i64 n)) := rfl
theorem ends_is {b : Bool} {b' : Bool} (h : b = b') : Ends [.b .bool] (b, ()) L (.s (.bool b')) := by subst h; rfl
end

theorem getD_lt {α : Type} {l : List α} {i : Nat} {d : α} (h : i < l.length) : l.getD i d = l[i] := by simp [List.getD, h]

/-! ### the order of texts -/
end Lf

/-! Ranges over maps: how one begins, and how it goes on. -/
namespace Go.Sx
open Go

section
variable {ρ ρ' : Nat → Value} {H H' H1 H2 : AHeap} {G O O' : Nat → Prop} {w w' w1 w2 : World} {P : Program} {X : Ctx} {K : List AObj → AV → Prop}

theorem Frm.seq (f1 : Frm ρ H w w1) {ρ1 : Nat → Value} (t1 : Step ρ H (Hot ρ H G) w ρ1 H1 (Hot ρ1 H1 G) w1) (s1 : Sat ρ1 H1 G w1) (f2 : Frm ρ1 H1 w1 w2) : Frm ρ H w w2 := by
  refine ⟨f2.os.trans f1.os, f2.tape.trans f1.tape, f2.output.trans f1.output, fun b hb hO => ?_⟩
  have hno : ¬ Own ρ1 H1 b := fun ho => by
    rcases t1.hot b (.inl ho) with hh | hh
    · exact hh.elim hO (s1.apart b ho)
    · omega
  rw [f2.heap b (by have := t1.size; omega) hno, f1.heap b hb hO]

/-- A value that is kept in mind. -/
theorem Good.ghost (hs : Sat ρ H G w) {n : Nat} (hn : H n = none) (g : Value) : ∃ ρ', ρ' n = g ∧ Sat ρ' (updH H n .dead) G w ∧ Step ρ H (Hot ρ H G) w ρ' (updH H n .dead) (Hot ρ' (updH H n .dead) G) w ∧ Frm ρ H w w := by
  have ne : ∀ j x, H j = some x → j ≠ n := fun j x hx e => by subst e; rw [hn] at hx; cases hx
  have own' : ∀ b, Own (fun j => if j = n then g else ρ j) (updH H n .dead) b → Own ρ H b := by
    rintro b ⟨j, x, hx, h1, h2⟩
    by_cases hj : j = n
    · subst hj
      simp only [updH, if_true, Option.some.injEq] at hx
      subst hx
      cases h1
    · simp only [updH, hj, if_false] at hx h2
      exact ⟨j, x, hx, h1, h2⟩
  have st : Step ρ H (Hot ρ H G) w (fun j => if j = n then g else ρ j) (updH H n .dead) (Hot (fun j => if j = n then g else ρ j) (updH H n .dead) G) w := by
    refine ⟨fun j x hx => by simp [ne j x hx], fun j x hx => ⟨x, by simp [updH, ne j x hx, hx], fun c' e' hc => ⟨c', e', hc, rfl, rfl⟩⟩, fun b hb => .inl (hb.imp (own' b) id), fun b hb _ => rfl, Nat.le_refl _⟩
  refine ⟨_, by simp, ⟨fun j x hx => ?_, fun i j oi oj b h1 h2 h3 h4 h5 h6 => ?_, fun b hb => hs.apart b (own' b hb), hs.low⟩, st, rfl, rfl, rfl, fun _ _ _ => rfl⟩
  · by_cases hj : j = n
    · subst hj
      simp only [updH, if_true, Option.some.injEq] at hx
      subst hx
      trivial
    · simp only [updH, hj, if_false] at hx
      simp only [hj, if_false]
      exact (hs.obj j x hx).step st (fun _ _ _ => rfl)
  · have f : ∀ i oi, updH H n .dead i = some oi → oi.alive = true → blk ((fun j => if j = n then g else ρ j) i) = some b → H i = some oi ∧ blk (ρ i) = some b := by
      intro i oi hi hal hb
      by_cases hi' : i = n
      · subst hi'
        simp only [updH, if_true, Option.some.injEq] at hi
        subst hi
        cases hal
      · simp only [updH, hi', if_false] at hi hb
        exact ⟨hi, hb⟩
    obtain ⟨x1, x2⟩ := f i oi h1 h3 h5
    obtain ⟨y1, y2⟩ := f j oj h2 h4 h6
    exact hs.inj i j oi oj b x1 y1 h3 h4 x2 y2

/-! ### the next entry -/
theorem erase_filter {L : List MapEntry} (hb : (L.map (·.born)).Nodup) {i : Nat} (hi : i < L.length) : L.filter (fun x => x.born != L[i].born) = L.eraseIdx i := by
  induction L generalizing i with
  | nil => simp at hi
  | cons x L ih =>
    simp only [List.map_cons, List.nodup_cons] at hb
    cases i with
    | zero =>
      simp only [List.getElem_cons_zero, List.eraseIdx_cons_zero]
      rw [List.filter_cons]
      simp only [bne_self_eq_false, Bool.false_eq_true, if_false]
      refine List.filter_eq_self.2 fun e he => ?_
      rw [bne_iff_ne]
      exact fun h => hb.1 (List.mem_map.2 ⟨e, he, h⟩)
    | succ i =>
      simp only [List.length_cons] at hi
      have hi' : i < L.length := by omega
      simp only [List.getElem_cons_succ, List.eraseIdx_cons_succ]
      rw [List.filter_cons, if_pos, ih hb.2 hi']
      rw [bne_iff_ne]
      exact fun h => hb.1 (List.mem_map.2 ⟨_, List.getElem_mem hi', h.symm⟩)

/-- What is left when one more was seen. -/
theorem IterIs.next {ck : CK} {left : List (Int × ck.V)} {cur : Option (Int × ck.V)} {es : Array MapEntry} {clock : Nat} {seen : Array Nat} (h : IterIs ck left cur es clock seen) {e : MapEntry} (he : e ∈ (leftOf es seen).toList) :
    ∃ i, ∃ hi : i < left.length, e.key = .int .i64 left[i].1 ∧ e.val = ck.val left[i].2 ∧ IterIs ck (left.eraseIdx i) (some left[i]) es clock (seen.push e.born) := by
  have hL : (leftOf es seen).toList = es.toList.filter fun e => !seen.contains e.born := by simp [leftOf]
  rw [hL] at he
  obtain ⟨i, hi, rfl⟩ := List.getElem_of_mem he
  generalize hF : (es.toList.filter fun e => !seen.contains e.born) = F at *
  have heq := h.eq
  rw [hF] at heq
  have hlen : F.length = left.length := by have := congrArg List.length heq; simpa only [List.length_map] using this
  have h1 := congrArg (fun l => l[i]?) heq
  have hil : i < left.length := by omega
  simp only [List.getElem?_map, List.getElem?_eq_getElem hi, List.getElem?_eq_getElem hil, Option.map_some, Option.some.injEq, Prod.mk.injEq] at h1
  have hmem : F[i] ∈ es.toList := by
    have := List.getElem_mem hi
    exact (List.mem_filter.1 (show F[i] ∈ es.toList.filter (fun e => !seen.contains e.born) from by rw [hF]; exact this)).1
  refine ⟨i, hil, h1.1, h1.2, ⟨?_, fun p hp => h.fits p (List.mem_of_mem_eraseIdx hp), h.borns, h.old, fun p hp => ?_⟩⟩
  · have e1 : (es.toList.filter fun e => !(seen.push F[i].born).contains e.born) = F.filter (fun x => x.born != F[i].born) := by
      generalize F[i].born = z
      rw [← hF, List.filter_filter]
      refine List.filter_congr fun x _ => ?_
      by_cases hz : x.born = z <;> simp [hz, bne]
    have hnd : (F.map (·.born)).Nodup := by
      rw [← hF]
      exact (List.Sublist.map _ List.filter_sublist).nodup h.borns
    rw [e1, erase_filter hnd hi, ChangeMaps.map_eraseIdx, heq, ← ChangeMaps.map_eraseIdx]
  · cases hp
    exact ⟨h.fits _ (List.getElem_mem hil), F[i], hmem, by simp, h1.1, h1.2⟩

/-! ### the same of a whole run -/
theorem Rep.good {s : St} {a : Act} (h : Rep X ρ s a w) {dst : Option Tmp} {q : Res} {v : Value} (hw : w1 = w ∨ w1 = w.drew) (hg : Good ρ s.look X.G w1 (s.put dst q).look (q.r s.H.length) v w') : ∃ ρ', Rep X ρ' (s.put dst q) (a.put dst v) w' := by
  have h1 : Rep X ρ s a w1 := by
    rcases hw with rfl | rfl
    · exact h
    · exact h.drew
  obtain ⟨ρ', g1, g2, g3, g4⟩ := hg
  obtain ⟨arr, df⟩ := a
  have hp := put_den (ρ := ρ') (H := (s.put dst q).look) (O := Hot ρ' (s.put dst q).look X.G) (w := w') h1.size (fun t => DenV.step g3 _ _ (h1.den t)) dst g2 df
  exact ⟨ρ', g1, hp.1, hp.2, by have := h1.defers; cases dst <;> exact this, h1.from_.trans g3, Frm.trans h1 g4, h1.kept.frm h1.sat g4⟩

def opAt (fn : Func) (key i : Nat) : Option (Array Oper × Oper × List Item) := match hr fn key with
  | .code (.region _ ops _) :: k => (ops[i]?).map fun o => (ops, o, k)
  | _ => none

theorem Yields.congr {o : Oper} {e e' : Operand → Value} {R : Value → World → Prop} (he : execOp e' o = execOp e o) (h : Yields P o e w R) : Yields P o e' w R := by
  unfold Yields at *
  rw [he]; exact h

end
end Go.Sx

namespace Ds
open Go Go.Sx Go.Proofs Lf
noncomputable abbrev P : Program := Tryd.prog
theorem mixed : P.follows .mixedOrders = true := by kernel_rfl
abbrev tInt : Ty := .b (.int .i64)
abbrev tBool : Ty := .b .bool
abbrev tStr : Ty := .b .str
theorem go {Z : Glob} {X : Ctx} {t : Tab} {f : FuncId} {fn : Func} {ns : List (Nat × Norm)} {c : Cfg} {tr : Tree} {K : List AObj → AV → Prop} {inl : List FuncId} (hz : ZCtx Z X) (hX : ∀ id, X.H id = none) (hT : t.Ok P Z) (hf : P.funcs[f]? = some fn)
    (e : run P t.sum fn ns c inl = tr) (h : tr.Holds K (Safe P f X K)) : Safe P f X K c := safe_of_run (Tab.sOk hT) hz mixed hf (fun _ _ id _ => hX id) e h
theorem goS {Z : Glob} {X : Ctx} {t : Tab} {f : FuncId} {fn : Func} {ns : List (Nat × Norm)} {c : Cfg} {tr : Tree} {K : List AObj → AV → Prop} {L : List AObj} {inl : List FuncId} (hz : ZCtx Z X) (hX : X.H = lk L) (hm : ∀ x ∈ ns, L.length ≤ x.2.m) (hT : t.Ok P Z) (hf : P.funcs[f]? = some fn)
    (e : run P t.sum fn ns c inl = tr) (h : tr.Holds K (Safe P f X K)) : Safe P f X K c :=
  safe_of_run (Tab.sOk hT) hz mixed hf (fun x hx id hid => by rw [hX]; exact List.getElem?_eq_none (Nat.le_trans (hm x hx) hid)) e h
theorem yes_and {A B : Prop} {b : Bool} (hb : b = true) (h : A) : (b = true → A) ∧ (b = false → B) := ⟨fun _ => h, fun e => absurd (hb.symm.trans e) (by simp)⟩
theorem no_and {A B : Prop} {b : Bool} (hb : b = false) (h : B) : (b = true → A) ∧ (b = false → B) := ⟨fun e => absurd (hb.symm.trans e) (by simp), fun _ => h⟩

end Ds

/-! Arguments that stand still from the call on: own rows handed over for good, and nil rows. -/
namespace Go.Sx
open Go

section
variable {ρ ρ' : Nat → Value} {H H' : AHeap} {G O O' : Nat → Prop} {w w' : World} {P : Program} {Z : Glob}

variable {X : Type} {S : Spec X}
/-- One summary or another one, by the arguments. -/
def sumIf (c : List AV → Bool) (s1 s2 : Nat → List AV → RM Res) : Nat → List AV → RM Res := fun b a => bif c a then s1 b a else s2 b a
theorem sumIf_ok {f : FuncId} {c : List AV → Bool} {s1 s2 : Nat → List AV → RM Res} (h1 : SOk1 P Z f s1) (h2 : SOk1 P Z f s2) : SOk1 P Z f (sumIf c s1 s2) := by
  intro base args H q hq
  unfold sumIf at hq
  rw [Bool.cond_eq_ite] at hq
  split at hq
  · exact h1 base args H q hq
  · exact h2 base args H q hq
end
end Go.Sx

/-! States of the engine, as records and rows. -/
namespace Ds
open Go Go.Sx Go.Proofs Lf
abbrev cV : List CK := [.str, .int .u8, .int .i64, .str]
abbrev cN : List CK := [.str, .int .u8, .int .i64, .int .i64, .int .u8, .str, .str, .str, .bool, .rows cV, .strs]
abbrev cF : List CK := [.int .i64, .int .i64, .str, .bool]
abbrev cP : List CK := [.str, .rows cV, .rows cN, .rows cF]
abbrev cI : List CK := [.int .i64, .int .i64, .int .u8, .str, .int .i64, .int .i64, .int .u8, .str]
abbrev cC : List CK := [.int .i64, .str, .int .u8, .int .i64, .str]
abbrev cW : List CK := [.int .i64, .int .i64, .int .i64, .int .u8, .str, .int .i64, .bool]
abbrev iI (x : CL cI) : Int := x.1
abbrev iU (x : CL cI) : Int := x.2.1
abbrev iS (x : CL cI) : Int := x.2.2.1
abbrev iP (x : CL cI) : ByteArray := x.2.2.2.1
abbrev iN (x : CL cI) : Int := x.2.2.2.2.1
abbrev iF (x : CL cI) : Int := x.2.2.2.2.2.1
abbrev iW (x : CL cI) : Int := x.2.2.2.2.2.2.1
abbrev iC (x : CL cI) : ByteArray := x.2.2.2.2.2.2.2.1
abbrev eP : TypeId := 40
abbrev eI : TypeId := 31
abbrev eC : TypeId := 82
abbrev eW : TypeId := 85
abbrev eT : TypeId := 27
abbrev tIt : Ty := .st [.int .i64, .int .i64, .int .u8, .str, .int .i64, .int .i64, .int .u8, .str]
abbrev tSt : Ty := .st [.int .i64, .int .i64, .row (.typ cP) eP, .row (.typ cI) eI, .row (.typ cC) eC, .row (.typ cW) eW]
abbrev tSr : Ty := .st [.int .i64, .int .i64, .rrow (.typ cP) eP, .rrow (.typ cI) eI, .rrow (.typ cC) eC, .rrow (.typ cW) eW]
abbrev tNs : Ty := .b (.row (.ints .i64) 3)
abbrev avI (n : Int) : AV := .s (.int .i64 n)
abbrev avL (l : List Int) : AV := .s (.ro (.ints .i64 l))
abbrev Ps : Type := List (CL cP)
abbrev Is : Type := List (CL cI)
abbrev Cs : Type := List (CL cC)
abbrev Ws : Type := List (CL cW)
abbrev avSt (ck nx : Int) (ps : Ps) (is : Is) (cs : Cs) (ws : Ws) : AV := .agg [avI ck, avI nx, .s (.ro (.typ cP ps)), .s (.ro (.typ cI is)), .s (.ro (.typ cC cs)), .s (.ro (.typ cW ws))]
abbrev obSt (ck nx : Int) (ps : Ps) (is : Is) (cs : Cs) (ws : Ws) : AObj := .own [avI ck, avI nx, .s (.ro (.typ cP ps)), .s (.ro (.typ cI is)), .s (.ro (.typ cC cs)), .s (.ro (.typ cW ws))] eT
abbrev avIt (x : CL cI) : AV := .agg [avI (iI x), avI (iU x), .s (.int .u8 (iS x)), .s (.str (iP x)), avI (iN x), avI (iF x), .s (.int .u8 (iW x)), .s (.str (iC x))]
abbrev obIt (x : CL cI) : AObj := .own [avI (iI x), avI (iU x), .s (.int .u8 (iS x)), .s (.str (iP x)), avI (iN x), avI (iF x), .s (.int .u8 (iW x)), .s (.str (iC x))] eI
abbrev tab0 : Tab := []
def idxF {α : Type} (p : α → Bool) (l : List α) : Int := match l.findIdx? p with
  | some i => (i : Int)
  | none => -1
/-! place -/
abbrev fIx : FuncId := 60
def nsPl : List (Nat × Norm) := [((fIx + 1) * 100000 + 2, ⟨[], [0, 1, 7, 8], 0, []⟩)]
abbrev inPl : List FuncId := [fIx, 63]
theorem trPl (ck nx : Int) (ps : Ps) (is : Is) (cs : Cs) (ws : Ws) (id : Int) : run P tab0.sum Tryd.f35 nsPl (start Tryd.f35 [avSt ck nx ps is cs ws, avI id] []) inPl =
  Tree.at (Cfg.mk (sl (28 : Nat) [((0 : Nat), AV.s (SV.ro (Con.typ cI is))), ((1 : Nat), AV.fn (63 : Nat) [AV.ptr (0 : Nat) (0 : Nat)]), ((7 : Nat), AV.s (SV.int IntKind.i64 (↑(List.length is) : Int))), ((8 : Nat), AV.s (SV.int IntKind.i64 (0 : Int)))]) [AObj.own [AV.s (SV.int IntKind.i64 id)] (3 : Nat)] (hd Tryd.f60 (2 : Nat)) (Stk.mk (some (60 : Nat)) false (0 : Nat) [inCall Tryd.f35 none (1 : Nat) (3 : Nat) false (0 : Nat)] (0 : Nat))) := by kernel_rfl
noncomputable def cPl (is : Is) (id i : Int) : Cfg := ⟨sl 28 [(0, .s (.ro (.typ cI is))), (1, .fn 63 [.ptr 0 0]), (7, avI (is.length : Int)), (8, avI i)], [.own [avI id] 3], hd Tryd.f60 2, ⟨some fIx, false, 0, [inCall Tryd.f35 none 1 3 false 0], 0⟩⟩
theorem loopPl (is : Is) (id i : Int) : run P tab0.sum Tryd.f35 nsPl (cPl is id i) inPl =
  Tree.ite (decide (i < (↑(List.length is) : Int))) (Tree.need ((0 : Int) ≤ i) (Tree.need (i < (↑(List.length is) : Int)) (Tree.ite (iI (el is i) == id) (Tree.ret [AObj.own [AV.s (SV.int IntKind.i64 id)] (3 : Nat), AObj.own [AV.s (SV.int IntKind.i64 (iI (el is i))), AV.s (SV.int IntKind.i64 (iU (el is i))), AV.s (SV.int IntKind.u8 (iS (el is i))), AV.s (SV.str (iP (el is i))), AV.s (SV.int IntKind.i64 (iN (el is i))), AV.s (SV.int IntKind.i64 (iF (el is i))), AV.s (SV.int IntKind.u8 (iW (el is i))), AV.s (SV.str (iC (el is i)))] (31 : Nat)] (AV.s (SV.int IntKind.i64 i))) (Tree.need (inI64 (i + (1 : Int))) (Tree.at (Cfg.mk (sl (28 : Nat) [((0 : Nat), AV.s (SV.ro (Con.typ cI is))), ((1 : Nat), AV.fn (63 : Nat) [AV.ptr (0 : Nat) (0 : Nat)]), ((7 : Nat), AV.s (SV.int IntKind.i64 (↑(List.length is) : Int))), ((8 : Nat), AV.s (SV.int IntKind.i64 (i + (1 : Int))))]) [AObj.own [AV.s (SV.int IntKind.i64 id)] (3 : Nat)] (hd Tryd.f60 (2 : Nat)) (Stk.mk (some (60 : Nat)) false (0 : Nat) [inCall Tryd.f35 none (1 : Nat) (3 : Nat) false (0 : Nat)] (0 : Nat)))))))) (Tree.ret [AObj.own [AV.s (SV.int IntKind.i64 id)] (3 : Nat)] (AV.s (SV.ilit IntKind.i64 (-1 : Int)))) := by kernel_rfl
end Ds

/-! Lists of numbers, and what is below what: plain laws. -/
namespace Ds
open Go Go.Sx Lf
def cmpG (x : Int) : List Int → List Int
  | [] => []
  | y :: l => if y = x then cmpG y l else y :: cmpG y l
def cmpF : List Int → List Int
  | [] => []
  | x :: l => x :: cmpG x l
def insS (x : Int) : List Int → List Int
  | [] => [x]
  | y :: l => if x < y then x :: y :: l else if x = y then y :: l else y :: insS x l
def setS : List Int → List Int
  | [] => []
  | x :: l => insS x (setS l)
abbrev Rises (l : List Int) : Prop := l.Pairwise (fun x y => x < y)
theorem cmpG_snoc (y : Int) : ∀ (l : List Int) (x : Int), cmpG x (l ++ [y]) = cmpG x l ++ (if y = (x :: l).getLast (by simp) then [] else [y])
  | [], x => by by_cases h : y = x <;> simp [cmpG, h]
  | z :: l, x => by
    have ih := cmpG_snoc y l z
    simp only [List.cons_append, cmpG]
    rw [show (x :: z :: l).getLast (by simp) = (z :: l).getLast (by simp) from by simp [List.getLast_cons]]
    split
    · exact ih
    · rw [ih]; rfl
theorem cmpF_snoc (y : Int) {l : List Int} (h : l ≠ []) : cmpF (l ++ [y]) = cmpF l ++ (if y = l.getLast h then [] else [y]) := by
  cases l with
  | nil => exact absurd rfl h
  | cons x l => simp only [List.cons_append, cmpF]; rw [cmpG_snoc]
theorem mem_cmpG {y : Int} : ∀ {l : List Int} {x : Int}, y ∈ x :: cmpG x l ↔ y ∈ x :: l
  | [], x => by simp [cmpG]
  | z :: l, x => by
    simp only [cmpG]
    split
    · rename_i e; subst e
      rw [mem_cmpG (l := l) (x := z)]
      simp
    · have := mem_cmpG (y := y) (l := l) (x := z)
      rw [List.mem_cons, this, List.mem_cons (a := y) (b := x)]
theorem mem_cmpF {y : Int} {l : List Int} : y ∈ cmpF l ↔ y ∈ l := by
  cases l with
  | nil => exact Iff.rfl
  | cons x l => exact mem_cmpG
theorem cmpG_lt : ∀ {l : List Int} {x : Int}, (x :: l).Pairwise (fun a b => decide (a ≤ b) = true) → Rises (x :: cmpG x l)
  | [], x, _ => by simp [cmpG]
  | z :: l, x, h => by
    have h1 := List.pairwise_cons.1 h
    have ih := cmpG_lt h1.2
    simp only [cmpG]
    split
    · rename_i e; subst e; exact ih
    · rename_i e
      refine List.pairwise_cons.2 ⟨fun a ha => ?_, ih⟩
      have ha := mem_cmpG.1 ha
      have hz := of_decide_eq_true (h1.1 z List.mem_cons_self)
      rcases List.mem_cons.1 ha with rfl | ha
      · omega
      · have := of_decide_eq_true ((List.pairwise_cons.1 h1.2).1 a ha)
        omega
theorem cmpF_lt {l : List Int} (h : l.Pairwise (fun a b => decide (a ≤ b) = true)) : Rises (cmpF l) := by
  cases l with
  | nil => exact List.Pairwise.nil
  | cons x l => exact cmpG_lt h
theorem mem_insS {y x : Int} : ∀ {l : List Int}, y ∈ insS x l ↔ y = x ∨ y ∈ l
  | [] => by simp [insS]
  | z :: l => by
    simp only [insS]
    split
    · simp
    · split
      · rename_i e; subst e; simp
      · rw [List.mem_cons, mem_insS, List.mem_cons]
        exact ⟨fun h => h.elim (fun a => .inr (.inl a)) (fun b => b.elim .inl (fun c => .inr (.inr c))), fun h => h.elim (fun a => .inr (.inl a)) (fun b => b.elim .inl (fun c => .inr (.inr c)))⟩
theorem insS_lt {x : Int} : ∀ {l : List Int}, Rises l → Rises (insS x l)
  | [], _ => by simp [insS]
  | z :: l, h => by
    have h1 := List.pairwise_cons.1 h
    simp only [insS]
    split
    · rename_i hz
      refine List.pairwise_cons.2 ⟨fun a ha => ?_, h⟩
      rcases List.mem_cons.1 ha with rfl | ha
      · exact hz
      · have := h1.1 a ha; omega
    · split
      · exact h
      · refine List.pairwise_cons.2 ⟨fun a ha => ?_, insS_lt h1.2⟩
        rcases mem_insS.1 ha with rfl | ha
        · omega
        · exact h1.1 a ha
theorem mem_setS {y : Int} : ∀ {l : List Int}, y ∈ setS l ↔ y ∈ l
  | [] => Iff.rfl
  | x :: l => by rw [setS, mem_insS, mem_setS, List.mem_cons]
theorem setS_lt : ∀ l : List Int, Rises (setS l)
  | [] => List.Pairwise.nil
  | x :: l => insS_lt (setS_lt l)
theorem lt_ext : ∀ {a b : List Int}, Rises a → Rises b → (∀ x, x ∈ a ↔ x ∈ b) → a = b
  | [], [], _, _, _ => rfl
  | [], y :: b, _, _, h => absurd ((h y).2 List.mem_cons_self) (by simp)
  | x :: a, [], _, _, h => absurd ((h x).1 List.mem_cons_self) (by simp)
  | x :: a, y :: b, ha, hb, h => by
    have ha1 := List.pairwise_cons.1 ha
    have hb1 := List.pairwise_cons.1 hb
    have e : x = y := by
      rcases List.mem_cons.1 ((h x).1 List.mem_cons_self) with e | hx
      · exact e
      · rcases List.mem_cons.1 ((h y).2 List.mem_cons_self) with e | hy
        · exact e.symm
        · have := hb1.1 x hx
          have := ha1.1 y hy
          omega
    subst e
    rw [lt_ext ha1.2 hb1.2 fun z => ?_]
    have hz := h z
    rw [List.mem_cons, List.mem_cons] at hz
    constructor
    · intro h1
      have := ha1.1 z h1
      exact (hz.1 (.inr h1)).elim (fun e => by omega) (fun x => x)
    · intro h1
      have := hb1.1 z h1
      exact (hz.2 (.inr h1)).elim (fun e => by omega) (fun x => x)
theorem rises_nodup {l : List Int} (h : Rises l) : l.Nodup := List.Pairwise.imp (fun {a b} (hab : a < b) => by omega) h
theorem setS_len (l : List Int) : (setS l).length ≤ l.length := by
  have : ∀ (x : Int) (l : List Int), (insS x l).length ≤ l.length + 1 := by
    intro x l
    induction l with
    | nil => simp [insS]
    | cons y l ih =>
      simp only [insS]
      split
      · simp
      · split
        · simp
        · simp only [List.length_cons]; omega
  induction l with
  | nil => simp [setS]
  | cons x l ih => have := this x (setS l); simp only [setS, List.length_cons]; omega
/-! what is below what -/
abbrev Es : Type := List (Int × Int)
def kidsL (es : Es) (id : Int) : List Int := (es.filter fun e => e.2 == id && e.1 != id).map (·.1)
def kidsF (es : Es) (id : Int) : List Int := setS (kidsL es id)
theorem mem_kids {es : Es} {id x : Int} : x ∈ kidsF es id ↔ (x, id) ∈ es ∧ x ≠ id := by
  unfold kidsF kidsL
  rw [mem_setS]
  simp only [List.mem_map, List.mem_filter, Bool.and_eq_true, beq_iff_eq, bne_iff_ne]
  constructor
  · rintro ⟨⟨a, b⟩, ⟨h1, rfl, h3⟩, rfl⟩
    exact ⟨h1, h3⟩
  · rintro ⟨h1, h2⟩
    exact ⟨(x, id), ⟨h1, rfl, h2⟩, rfl⟩
def freshK (es : Es) (met : List Int) (w : Int) : List Int := (kidsF es w).filter fun k => !met.contains k
def bfs (es : Es) : Nat → List Int → List Int → List Int
  | 0, _, _ => []
  | _ + 1, _, [] => []
  | f + 1, met, w :: ws => freshK es met w ++ bfs es f (met ++ freshK es met w) (ws ++ freshK es met w)
def belowR (es : Es) (id : Int) : List Int := bfs es (es.length + 1) [id] [id]
def belowF (es : Es) (id : Int) : List Int := setS (belowR es id)
inductive Reach (es : Es) : Int → Int → Prop
  | kid {a b : Int} : b ∈ kidsF es a → Reach es a b
  | more {a b c : Int} : Reach es a b → c ∈ kidsF es b → Reach es a c
theorem Reach.trans {es : Es} {a b c : Int} (h : Reach es a b) (k : Reach es b c) : Reach es a c := by
  induction k with
  | kid h1 => exact .more h h1
  | more _ h1 ih => exact .more ih h1
theorem mem_fresh {es : Es} {met : List Int} {w x : Int} : x ∈ freshK es met w ↔ x ∈ kidsF es w ∧ x ∉ met := by
  unfold freshK
  simp [List.mem_filter]
theorem fresh_nodup (es : Es) (met : List Int) (w : Int) : (freshK es met w).Nodup := (rises_nodup (setS_lt _)).filter _
/-- IDs that were not met yet. -/
def todoN (es : Es) (met : List Int) : Nat := ((setS (es.map (·.1))).filter fun k => !met.contains k).length
theorem nodup_len : ∀ {a b : List Int}, a.Nodup → (∀ x ∈ a, x ∈ b) → a.length ≤ b.length
  | [], b, _, _ => Nat.zero_le _
  | x :: a, b, hn, h => by
    obtain ⟨h1, h2⟩ := List.nodup_cons.1 hn
    have hx := h x List.mem_cons_self
    have ih := nodup_len (b := b.erase x) h2 fun y hy => (List.mem_erase_of_ne (fun e => h1 (by rw [← e]; exact hy))).2 (h y (List.mem_cons_of_mem _ hy))
    rw [List.length_erase_of_mem hx] at ih
    have := List.length_pos_of_mem hx
    simp only [List.length_cons]
    omega
theorem filter_len_le {l : List Int} {met add : List Int} (hl : l.Nodup) (ha : add.Nodup) (h1 : ∀ x ∈ add, x ∈ l ∧ x ∉ met) : (l.filter fun k => !(met ++ add).contains k).length + add.length ≤ (l.filter fun k => !met.contains k).length := by
  have e : (l.filter fun k => !met.contains k).length = (l.filter fun k => !(met ++ add).contains k).length + ((l.filter fun k => !met.contains k).filter fun k => add.contains k).length := by
    clear hl ha h1
    induction l with
    | nil => rfl
    | cons x l ih =>
      simp only [List.filter_cons, List.contains_eq_mem, List.mem_append] at ih ⊢
      by_cases a : x ∈ met <;> by_cases b : x ∈ add <;> simp [a, b] at ih ⊢ <;> omega
  have : add.length ≤ ((l.filter fun k => !met.contains k).filter fun k => add.contains k).length := by
    refine nodup_len ha fun x hx => ?_
    simp only [List.mem_filter, List.contains_eq_mem, decide_eq_true_eq, Bool.not_eq_true', decide_eq_false_iff_not]
    exact ⟨h1 x hx, hx⟩
  omega
theorem todo_step (es : Es) (met : List Int) (w : Int) : todoN es (met ++ freshK es met w) + (freshK es met w).length ≤ todoN es met := by
  refine filter_len_le (rises_nodup (setS_lt _)) (fresh_nodup es met w) fun x hx => ?_
  obtain ⟨h1, h2⟩ := mem_fresh.1 hx
  refine ⟨mem_setS.2 ?_, h2⟩
  exact List.mem_map.2 ⟨(x, w), (mem_kids.1 h1).1, rfl⟩
theorem todo_le (es : Es) (met : List Int) : todoN es met ≤ es.length := by
  unfold todoN
  have h1 := List.length_filter_le (fun k => !met.contains k) (setS (es.map (·.1)))
  have h2 := setS_len (es.map (·.1))
  rw [List.length_map] at h2
  omega
/-- What the search finds. -/
theorem bfs_spec {es : Es} : ∀ (f : Nat) (met work : List Int), todoN es met + work.length < f + 1 → met.Nodup → (∀ x ∈ work, x ∈ met) → (∀ x ∈ met, x ∉ work → ∀ k ∈ kidsF es x, k ∈ met) →
    (met ++ bfs es f met work).Nodup ∧ (∀ x ∈ met ++ bfs es f met work, ∀ k ∈ kidsF es x, k ∈ met ++ bfs es f met work) ∧ (∀ x ∈ bfs es f met work, ∃ w ∈ work, Reach es w x)
  | 0, met, work, hf, hn, hw, hc => by
    have : work = [] := List.eq_nil_of_length_eq_zero (by omega)
    subst this
    simp only [bfs, List.append_nil]
    exact ⟨hn, fun x hx => hc x hx (by simp), fun x hx => by cases hx⟩
  | f + 1, met, [], hf, hn, hw, hc => by
    simp only [bfs, List.append_nil]
    exact ⟨hn, fun x hx => hc x hx (by simp), fun x hx => by cases hx⟩
  | f + 1, met, w :: ws, hf, hn, hw, hc => by
    have hs := todo_step es met w
    have hfr := fun x => mem_fresh (es := es) (met := met) (w := w) (x := x)
    have hfn := fresh_nodup es met w
    have har : todoN es (met ++ freshK es met w) + (ws ++ freshK es met w).length < f + 1 := by
      rw [List.length_append]
      rw [List.length_cons] at hf
      omega
    simp only [bfs]
    clear hs hf
    generalize freshK es met w = fr at *
    have hn' : (met ++ fr).Nodup := by
      refine List.nodup_append.2 ⟨hn, hfn, fun a ha b hb e => ?_⟩
      subst e
      exact ((hfr a).1 hb).2 ha
    obtain ⟨h1, h2, h3⟩ := bfs_spec f (met ++ fr) (ws ++ fr) har hn' (fun x hx => by
        rcases List.mem_append.1 hx with h | h
        · exact List.mem_append_left _ (hw x (List.mem_cons_of_mem _ h))
        · exact List.mem_append_right _ h) (fun x hx hxw k hk => by
        rcases List.mem_append.1 hx with h | h
        · by_cases e : x = w
          · subst e
            by_cases hm : k ∈ met
            · exact List.mem_append_left _ hm
            · exact List.mem_append_right _ ((hfr k).2 ⟨hk, hm⟩)
          · refine List.mem_append_left _ (hc x h (fun h2 => ?_) k hk)
            rcases List.mem_cons.1 h2 with h2 | h2
            · exact e h2
            · exact hxw (List.mem_append_left _ h2)
        · exact absurd (List.mem_append_right _ h) hxw)
    rw [List.append_assoc] at h1 h2
    refine ⟨h1, h2, fun x hx => ?_⟩
    rcases List.mem_append.1 hx with h | h
    · exact ⟨w, List.mem_cons_self, .kid ((hfr x).1 h).1⟩
    · obtain ⟨v, hv, hr⟩ := h3 x h
      rcases List.mem_append.1 hv with hv | hv
      · exact ⟨v, List.mem_cons_of_mem _ hv, hr⟩
      · exact ⟨w, List.mem_cons_self, Reach.trans (.kid ((hfr v).1 hv).1) hr⟩
theorem below_spec (es : Es) (id : Int) : (id :: belowR es id).Nodup ∧ ∀ x, x ∈ belowR es id ↔ x ≠ id ∧ Reach es id x := by
  have ht := todo_le es [id]
  obtain ⟨h1, h2, h3⟩ := bfs_spec (es := es) (es.length + 1) [id] [id] (by simp only [List.length_cons, List.length_nil]; omega) (by simp) (by simp) (by simp)
  refine ⟨h1, fun x => ⟨fun hx => ?_, fun ⟨hne, hr⟩ => ?_⟩⟩
  · have hx' : x ∈ bfs es (es.length + 1) [id] [id] := hx
    obtain ⟨w, hw, hr⟩ := h3 x hx'
    rw [List.mem_singleton.1 hw] at hr
    refine ⟨fun e => ?_, hr⟩
    subst e
    exact (List.nodup_cons.1 h1).1 hx'
  · have all : ∀ y, Reach es id y → y ∈ [id] ++ bfs es (es.length + 1) [id] [id] := by
      intro y hy
      induction hy with
      | kid h => exact h2 id (by simp) _ h
      | more _ h ih => exact h2 _ ih _ h
    rcases List.mem_append.1 (all x hr) with h | h
    · exact absurd (List.mem_singleton.1 h) hne
    · exact h
theorem mem_below {es : Es} {id x : Int} : x ∈ belowF es id ↔ x ≠ id ∧ Reach es id x := by
  unfold belowF
  rw [mem_setS]
  exact (below_spec es id).2 x
theorem below_lt (es : Es) (id : Int) : Rises (belowF es id) := setS_lt _
end Ds

namespace Go.Proofs
open Go.RowKit Go.Maps Go.Sort Go.Shelf
def Tryd.sortA_ren : Go.Shelf.Ren := ⟨fun | 5 => 40 | 8 => 66 | 7 => 65 | 19 => 93 | 20 => 94 | 10 => 84 | 11 => 85 | 12 => 86 | 13 => 87 | 14 => 88 | 15 => 89 | 16 => 90 | 17 => 91 | 18 => 92 | 30 => 105 | 31 => 106 | 32 => 107 | 33 => 108 | 34 => 109 | 35 => 110 | 40 => 119 | n => n, fun | 23 => 48 | 25 => 3 | 3 => 3 | 32 => 32 | 22 => 48 | 0 => 0 | 44 => 139 | 46 => 141 | 4 => 4 | 36 => 132 | 35 => 131 | 41 => 99 | 5 => 5 | 9 => 9 | 53 => 152 | 57 => 156 | 63 => 164 | 64 => 165 | n => n, fun | n => n⟩
theorem Tryd.sortA : Go.Proofs.SlLaysM.n5 Tryd.prog Tryd.sortA_ren := {
  mixed := by kernel_rfl
  f5 := ⟨Tryd.f40.name, by decide, Tryd.func40.trans (congrArg some (by kernel_rfl))⟩
  f7 := ⟨Tryd.f65.name, by decide, Tryd.func65.trans (congrArg some (by kernel_rfl))⟩
  f8 := Tryd.func66.trans (congrArg some (by kernel_rfl))
  f10 := ⟨Tryd.f84.name, by decide, Tryd.func84.trans (congrArg some (by kernel_rfl))⟩
  f11 := ⟨Tryd.f85.name, by decide, Tryd.func85.trans (congrArg some (by kernel_rfl))⟩
  f12 := ⟨Tryd.f86.name, by decide, Tryd.func86.trans (congrArg some (by kernel_rfl))⟩
  f13 := ⟨Tryd.f87.name, by decide, Tryd.func87.trans (congrArg some (by kernel_rfl))⟩
  f14 := ⟨Tryd.f88.name, by decide, Tryd.func88.trans (congrArg some (by kernel_rfl))⟩
  f15 := ⟨Tryd.f89.name, by decide, Tryd.func89.trans (congrArg some (by kernel_rfl))⟩
  f16 := ⟨Tryd.f90.name, by decide, Tryd.func90.trans (congrArg some (by kernel_rfl))⟩
  f17 := ⟨Tryd.f91.name, by decide, Tryd.func91.trans (congrArg some (by kernel_rfl))⟩
  f18 := ⟨Tryd.f92.name, by decide, Tryd.func92.trans (congrArg some (by kernel_rfl))⟩
  f19 := Tryd.func93.trans (congrArg some (by kernel_rfl))
  f20 := Tryd.func94.trans (congrArg some (by kernel_rfl))
  f30 := ⟨Tryd.f105.name, by decide, Tryd.func105.trans (congrArg some (by kernel_rfl))⟩
  f31 := Tryd.func106.trans (congrArg some (by kernel_rfl))
  f32 := Tryd.func107.trans (congrArg some (by kernel_rfl))
  f33 := ⟨Tryd.f108.name, by decide, Tryd.func108.trans (congrArg some (by kernel_rfl))⟩
  f34 := ⟨Tryd.f109.name, by decide, Tryd.func109.trans (congrArg some (by kernel_rfl))⟩
  f35 := ⟨Tryd.f110.name, by decide, Tryd.func110.trans (congrArg some (by kernel_rfl))⟩
  f40 := ⟨Tryd.f119.name, by decide, Tryd.func119.trans (congrArg some (by kernel_rfl))⟩
  t0 := Tryd.underlying0
  a0 := Tryd.isAgg0
  z0 := Tryd.sizeOf0
  v0 := Tryd.zeroValue0
  t3 := Tryd.underlying3
  a3 := Tryd.isAgg3
  z3 := Tryd.sizeOf3
  v3 := Tryd.zeroValue3
  t4 := Tryd.underlying4
  a4 := Tryd.isAgg4
  z4 := Tryd.sizeOf4
  v4 := Tryd.zeroValue4
  t5 := Tryd.underlying5
  a5 := Tryd.isAgg5
  z5 := Tryd.sizeOf5
  v5 := Tryd.zeroValue5
  t9 := Tryd.underlying9
  a9 := Tryd.isAgg9
  z9 := Tryd.sizeOf9
  v9 := Tryd.zeroValue9
  t22 := Tryd.underlying48
  a22 := Tryd.isAgg48
  z22 := Tryd.sizeOf48
  v22 := Tryd.zeroValue48
  t23 := Tryd.underlying48
  a23 := Tryd.isAgg48
  z23 := Tryd.sizeOf48
  v23 := Tryd.zeroValue48
  t25 := Tryd.underlying3
  a25 := Tryd.isAgg3
  z25 := Tryd.sizeOf3
  v25 := Tryd.zeroValue3
  t32 := Tryd.underlying32
  a32 := Tryd.isAgg32
  z32 := Tryd.sizeOf32
  v32 := Tryd.zeroValue32
  t35 := Tryd.underlying131
  a35 := Tryd.isAgg131
  z35 := Tryd.sizeOf131
  v35 := Tryd.zeroValue131
  t36 := Tryd.underlying132
  a36 := Tryd.isAgg132
  z36 := Tryd.sizeOf132
  v36 := Tryd.zeroValue132
  t41 := Tryd.underlying99
  a41 := Tryd.isAgg99
  z41 := Tryd.sizeOf99
  v41 := Tryd.zeroValue99
  t44 := Tryd.underlying139
  a44 := Tryd.isAgg139
  z44 := Tryd.sizeOf139
  v44 := Tryd.zeroValue139
  t46 := Tryd.underlying141
  a46 := Tryd.isAgg141
  z46 := Tryd.sizeOf141
  v46 := Tryd.zeroValue141
  t53 := Tryd.underlying152
  a53 := Tryd.isAgg152
  z53 := Tryd.sizeOf152
  v53 := Tryd.zeroValue152
  t57 := Tryd.underlying156
  a57 := Tryd.isAgg156
  z57 := Tryd.sizeOf156
  v57 := Tryd.zeroValue156
  t63 := Tryd.underlying164
  a63 := Tryd.isAgg164
  z63 := Tryd.sizeOf164
  v63 := Tryd.zeroValue164
  t64 := Tryd.underlying165
  a64 := Tryd.isAgg165
  z64 := Tryd.sizeOf165
  v64 := Tryd.zeroValue165 }


end Go.Proofs
namespace Ds
open Go Go.Sx Go.Proofs Lf
section
variable {ρ : Nat → Value} {H H' : AHeap} {G : Nat → Prop} {w w1 w2 : World}
/-- More blocks, that nobody owns. -/
theorem good_grow {r : AV} {v : Value} (h : Good ρ H G w H' r v w1) (os : Array Obj) (hh : w2.heap = w1.heap ++ os) (ht : w2.tape = w1.tape) (ho : w2.os = w1.os) (hu : w2.output = w1.output) : Good ρ H G w H' r v w2 := by
  obtain ⟨ρ', s, d, t, f⟩ := h
  have hsz : w1.heap.size ≤ w2.heap.size := by rw [hh, Array.size_append]; omega
  have hold : ∀ i, i < w1.heap.size → w2.heap[i]? = w1.heap[i]? := fun i hi => by rw [hh, Array.getElem?_append_left hi]
  have st : Step ρ' H' (Hot ρ' H' G) w1 ρ' H' (Hot ρ' H' G) w2 :=
    ⟨fun _ _ _ => rfl, fun _ o ho => ⟨o, ho, fun c' e' e => ⟨c', e', e, rfl, rfl⟩⟩, fun b hb => .inl hb, fun b hb _ => hold b hb, hsz⟩
  exact ⟨ρ', ⟨fun j x hx => (s.obj j x hx).step st (fun b ha hb => hold b (own_lt s ⟨j, x, hx, ha, hb⟩)), s.inj, s.apart, fun b hb => Nat.lt_of_lt_of_le (s.low b hb) hsz⟩, DenV.step st _ _ d, t.trans st,
    ⟨ho.trans f.os, ht.trans f.tape, hu.trans f.output, fun b hb hO => by rw [hold b (Nat.lt_of_lt_of_le hb t.size), f.heap b hb hO]⟩⟩
end
def srtZ (zs : List Int) : List Int := zs.mergeSort fun x y => decide (x ≤ y)
abbrev sSort : Spec (List Int) := ⟨fun _ => [.vec 0], fun zs => [.vec (.ints .i64 zs) 3], fun zs => [zs.length ≤ 1000000], fun zs => [.vec (.ints .i64 (srtZ zs)) 3], fun _ => .tup []⟩
theorem srtZ_len (zs : List Int) : (srtZ zs).length = zs.length := List.length_mergeSort _
theorem sort_ok {Z : Glob} : FnS P Z 40 sSort := by
  rintro (zs : List Int) ⟨(hl : zs.length ≤ 1000000), _⟩ ρ G w vs hz hs hd
  obtain ⟨v, rest, rfl, hv, h0⟩ := DenL_cons.1 hd
  obtain rfl := DenL_nil.1 h0
  obtain ⟨a, cap, rfl, hroot, hle, hmax⟩ := vec_val hs (show lk [.vec (.ints .i64 zs) 3] 0 = some _ from rfl) hv
  have hobj := hs.obj 0 _ (show lk [.vec (.ints .i64 zs) 3] 0 = some _ from rfl)
  rw [hroot] at hobj
  obtain ⟨a2, cap2, g1, g2, g3, g4⟩ := hobj
  cases g1
  have hn : (Con.ints .i64 zs).n = zs.length := rfl
  have hH : lk (sSort.outH zs) = updH (lk [.vec (.ints .i64 zs) 3]) 0 (.vec (.ints .i64 (srtZ zs)) 3) := by
    funext j
    cases j with
    | zero => rfl
    | succ j => rfl
  by_cases hc0 : cap = 0
  · have hz0 : zs = [] := List.eq_nil_of_length_eq_zero (by rw [hn] at g2; omega)
    subst hz0
    refine (AnyM.slices_Sort_int_none Tryd.sortA a cap w).mono ?_
    rintro e w' ⟨rfl, rfl⟩
    have e0 : srtZ [] = [] := by simp [srtZ]
    refine ⟨_, rfl, ?_⟩
    show Sx.Good ρ (lk [.vec (.ints .i64 []) 3]) G w' (lk [.vec (.ints .i64 (srtZ [])) 3]) (.tup []) undef w'
    rw [e0]
    exact Good.val hs den_undef
  · obtain ⟨b, o, cells, fr, us, rfl, g5, g6, g7, g8⟩ := g4.resolve_left hc0
    have hcell : ∀ j, j < zs.length → cells[o + j]? = some (Value.int .i64 (zs.getD j 0)) := fun j hj => by
      obtain ⟨k1, k2⟩ := g8 j 0 hj Nat.one_pos
      simp only [Con.size, Nat.mul_one, Nat.add_zero, Con.cell] at k1 k2
      rw [k1]
      generalize us j 0 = u at k2 ⊢
      cases k2
      rfl
    have hroom : o + zs.length ≤ cells.length := by
      simp only [Con.size, Nat.mul_one] at g7
      rw [hn] at g2
      omega
    have hholds : Sort.Holds (Value.int .i64) w b o zs.toArray := fun j hj => by
      have hj : j < zs.length := by simpa using hj
      refine ⟨?_, unm_frozen g5 (by simpa using g6.unm) (by simp; omega)⟩
      rw [cell_of_blk g5, hcell j hj]
      simp [getD_lt hj, hj]
    refine (AnyM.slices_Sort_int Tryd.sortA b o cap zs w hholds (Array.getElem?_eq_some_iff.1 g5).1 (by omega)).mono ?_
    rintro e w' ⟨rfl, n, os, rfl⟩
    refine ⟨_, rfl, ?_⟩
    rw [hH]
    have hput : (Sort.putCells (Value.int .i64) o (srtZ zs).toArray cells.toArray).toList.toArray = Sort.putCells (Value.int .i64) o (srtZ zs).toArray cells.toArray := by simp
    have hheap : (Sort.putRow (Value.int .i64) (Sort.ahead w n) b o (srtZ zs).toArray).heap = (World.setBlk w b (.cells (Sort.putCells (Value.int .i64) o (srtZ zs).toArray cells.toArray).toList.toArray 3 fr)).heap := by
      rw [hput]
      show w.heap.modify b _ = w.heap.setIfInBounds b _
      apply Array.ext_getElem?
      intro i
      rw [Array.getElem?_modify, Array.getElem?_setIfInBounds]
      by_cases hi : b = i
      · subst hi
        have hlt := (Array.getElem?_eq_some_iff.1 g5).1
        rw [if_pos rfl, if_pos rfl, if_pos hlt, g5]
        rfl
      · rw [if_neg hi, if_neg hi]
    have hbk : blk (ρ 0) = some b := by
      rw [hroot]
      simp only [blk]
      rw [if_neg hc0]
    refine good_grow (w1 := World.setBlk w b (.cells (Sort.putCells (Value.int .i64) o (srtZ zs).toArray cells.toArray).toList.toArray 3 fr)) (Good.write hs (show lk [.vec (.ints .i64 zs) 3] 0 = some _ from rfl) rfl rfl hbk (fun c' e' hc => by cases hc; exact ⟨_, _, rfl, srtZ_len zs, rfl⟩) ?_ den_undef) os (by rw [← hheap]; rfl) rfl rfl rfl
    refine ⟨some ⟨b, o, none⟩, cap, by rw [hroot]; show Value.slice _ zs.length cap = .slice _ (srtZ zs).length cap; rw [srtZ_len], by show (srtZ zs).length ≤ cap; rw [srtZ_len]; exact g2, g3, .inr ⟨b, o, _, fr, fun i _ => .int .i64 ((srtZ zs).getD i 0), rfl, setBlk_get g5, ?_, ?_, ?_⟩⟩
    · refine ⟨fun off ho => g6.1 off (by simpa [Sort.putCells] using ho), fun u hu => ?_⟩
      simp only [Sort.putCells, List.mem_iff_getElem?, Array.toList_mapIdx, List.getElem?_mapIdx] at hu
      obtain ⟨k, hk⟩ := hu
      rw [Option.map_eq_some_iff] at hk
      obtain ⟨x, hx, rfl⟩ := hk
      split
      · rfl
      · exact g6.2 _ (List.mem_of_getElem? hx)
    · show o + cap * 1 ≤ _
      simp only [Sort.putCells, Array.length_toList, Array.size_mapIdx, List.size_toArray]
      exact g7
    · intro i j hi hj
      have hi : i < zs.length := by have hi : i < (srtZ zs).length := hi; rwa [srtZ_len] at hi
      simp only [Con.size] at hj
      obtain rfl : j = 0 := by omega
      refine ⟨?_, .int _ _⟩
      have hlt : o + i < cells.length := by omega
      have hi2 : i < (srtZ zs).length := by rw [srtZ_len]; exact hi
      simp [Sort.putCells, Con.size, hlt, srtZ_len, hi, getD_lt hi2, hi2]
end Ds

/-! A row seen with its room, or as one that has none. -/
namespace Go.Sx
open Go
section
variable {ρ ρ' : Nat → Value} {H H' : AHeap} {G O O' : Nat → Prop} {w w' : World} {P : Program} {X : Ctx} {L : List AObj} {K : List AObj → AV → Prop}

theorem slot_set {tmps : List AV} {t : Nat} {y x : AV} (ht : tmps.getD t (.s .junk) = y) (hy : y ≠ .s .junk) (u : Nat) : (tmps.set t x).getD u (.s .junk) = if u = t then x else tmps.getD u (.s .junk) := by
  have hlt : t < tmps.length := by
    rcases Nat.lt_or_ge t tmps.length with h | h
    · exact h
    · rw [List.getD, List.getElem?_eq_none h] at ht
      exact absurd ht.symm hy
  by_cases hu : u = t
  · subst hu; rw [if_pos rfl]; simp [List.getD, hlt]
  · rw [if_neg hu]; simp [List.getD, List.getElem?_set_ne (Ne.symm hu)]

end
end Go.Sx

/-! An own object told in other words; a number told as a literal (its sums wrap, and nothing is owed). -/
namespace Go.Sx
open Go

section
variable {P : Program} {X : Ctx} {K : List AObj → AV → Prop} {L : List AObj}

/-- A number in a slot, told as a literal. -/
theorem slot_lit_safe {f : FuncId} {tmps : List AV} {L : List AObj} {todo : List Item} {stk : Stk} {t : Nat} {k : IntKind} {n : Int} (ht : tmps.getD t (.s .junk) = .s (.int k n))
    (h : Safe P f X K ⟨tmps.set t (.s (.ilit k n)), L, todo, stk⟩) : Safe P f X K ⟨tmps, L, todo, stk⟩ := by
  intro G E ρ a w hG1 hG2 hr b t' fs hw
  refine h G E ρ a w hG1 hG2 (hr.refine (d := t) (x := .s (.int k n)) ht fun v hv => ?_) b t' fs hw
  have := DenS_of_V (by simp) hv
  cases this
  exact DenV_s (.ilit _ _)
/-- A part of an own row, alone from then on. -/
theorem cut_safe {f : FuncId} {tmps : List AV} {L : List AObj} {todo : List Item} {stk : Stk} {t id lo n : Nat} {c : Con} {e : TypeId} (ht : tmps.getD t (.s .junk) = .part id lo n) (hid : L[id]? = some (.vec c e))
    (h : Safe P f X K ⟨tmps.set t (.vec L.length), L.set id .dead ++ [.vec (conSub c lo (lo + n)) e], todo, stk⟩) : Safe P f X K ⟨tmps, L, todo, stk⟩ := by
  intro G E ρ a w hG1 hG2 hr b tf fs hw
  have hs : Sat ρ (lk L) G w := hr.sat
  have hd : DenV ρ (lk L) (Hot ρ (lk L) G) w (.part id lo n) (a.tmps.getD t undef) := by
    have := hr.den t
    rw [show (St.tmps ⟨tmps, L⟩).getD t (.s .junk) = .part id lo n from ht] at this
    exact this
  obtain ⟨ρ', s', st, hv⟩ := retract hs hid hd
  refine h G E ρ' a w hG1 hG2 ⟨s', by rw [List.length_set]; exact hr.size, fun u => ?_, hr.defers, hr.from_.trans st, hr.frm, hr.kept⟩ b tf fs hw
  show DenV ρ' _ _ w ((tmps.set t (.vec L.length)).getD u (.s .junk)) _
  rw [slot_set ht (by simp)]
  by_cases hu : u = t
  · subst hu
    rw [if_pos rfl]
    unfold DenV
    exact hv _
  · rw [if_neg hu]
    exact DenV.step st _ _ (hr.den u)
/-- A row under another number. -/
theorem vec_cut_safe {f : FuncId} {tmps : List AV} {L : List AObj} {todo : List Item} {stk : Stk} {t id : Nat} {c : Con} {e : TypeId} (ht : tmps.getD t (.s .junk) = .vec id) (hid : L[id]? = some (.vec c e)) {c' : Con} (hc : conSub c 0 (0 + c.n) = c')
    (h : Safe P f X K ⟨tmps.set t (.vec L.length), L.set id .dead ++ [.vec c' e], todo, stk⟩) : Safe P f X K ⟨tmps, L, todo, stk⟩ := by
  subst hc
  have hlt : t < tmps.length := by
    rcases Nat.lt_or_ge t tmps.length with h3 | h3
    · exact h3
    · rw [List.getD, List.getElem?_eq_none h3] at ht
      simp at ht
  have key : Safe P f X K ⟨tmps.set t (.part id 0 c.n), L, todo, stk⟩ := by
    refine cut_safe (t := t) (id := id) (lo := 0) (n := c.n) (by simp [List.getD, hlt]) hid ?_
    rw [List.set_set]
    exact h
  intro G E ρ a w hG1 hG2 hr b tf fs hw
  have hs : Sat ρ (lk L) G w := hr.sat
  have hd := hr.den t
  rw [show (St.tmps ⟨tmps, L⟩).getD t (.s .junk) = .vec id from ht] at hd
  refine key G E ρ a w hG1 hG2 (hr.refine1 ht ?_) b tf fs hw
  unfold DenV Den1 at hd ⊢
  obtain ⟨h1, o, ho, hv⟩ := hd
  refine ⟨h1, o, ho, fun c2 e2 he => ?_⟩
  have h2 : (St.look ⟨tmps, L⟩) id = some (.vec c e) := hid
  rw [h2] at ho
  cases ho
  cases he
  obtain ⟨a2, cap, g1, g2, g3, _⟩ := hs.obj id _ hid
  refine ⟨by omega, a2, cap, a2, g1, g2, by rw [hv c e rfl, g1, Nat.sub_zero], fun hcap => ?_⟩
  rw [Nat.zero_mul]
  cases a2 with
  | none => rfl
  | some y => simp [Addr.add]
end
end Go.Sx

namespace Ds
open Go Go.Sx Go.Proofs Lf
def mSort : List AV → RM (List Int × List Nat)
  | [.vec id] => .look id fun o => match o with
    | some (.vec (.ints .i64 zs) _) => .ret (zs, [id])
    | _ => .fail "no row"
  | _ => .fail "no row"
abbrev sumSort := sumS sSort mSort
def placeF (is : Is) (id : Int) : Int := idxF (fun x : CL cI => iI x == id) is
def hasI (is : Is) (id : Int) : Bool := decide (0 ≤ placeF is id)
def whereF (is : Is) (id : Int) : Int := if 0 ≤ placeF is id then placeF is id else is.length
abbrev getI (is : Is) (id : Int) : CL cI := el is (whereF is id)
abbrev sumPl := sumOf [tSt, tInt] [tInt] (fun _ => []) (fun ((_, _, _, is, _, _, ()), id, ()) => (placeF is id, ()))
def tabFi : Tab := [(35, sumPl)]
theorem trFi (ck nx : Int) (ps : Ps) (is : Is) (cs : Cs) (ws : Ws) (id : Int) : run P tabFi.sum Tryd.f19 [] (start Tryd.f19 [avSt ck nx ps is cs ws, avI id] []) =
  Tree.ite (decide (placeF is id < (0 : Int))) (Tree.ret [AObj.own [AV.s (SV.int IntKind.i64 ck), AV.s (SV.int IntKind.i64 nx), AV.s (SV.ro (Con.typ [CK.str, CK.rows [CK.str, CK.int IntKind.u8, CK.int IntKind.i64, CK.str], CK.rows [CK.str, CK.int IntKind.u8, CK.int IntKind.i64, CK.int IntKind.i64, CK.int IntKind.u8, CK.str, CK.str, CK.str, CK.bool, CK.rows [CK.str, CK.int IntKind.u8, CK.int IntKind.i64, CK.str], CK.strs], CK.rows [CK.int IntKind.i64, CK.int IntKind.i64, CK.str, CK.bool]] ps)), AV.s (SV.ro (Con.typ cI is)), AV.s (SV.ro (Con.typ cC cs)), AV.s (SV.ro (Con.typ cW ws))] (27 : Nat), AObj.own [AV.s (SV.ilit IntKind.i64 (0 : Int)), AV.s (SV.ilit IntKind.i64 (0 : Int)), AV.s (SV.ilit IntKind.u8 (0 : Int)), AV.s (SV.str ByteArray.empty), AV.s (SV.ilit IntKind.i64 (0 : Int)), AV.s (SV.ilit IntKind.i64 (0 : Int)), AV.s (SV.ilit IntKind.u8 (0 : Int)), AV.s (SV.str ByteArray.empty)] (31 : Nat)] (AV.tup [AV.agg [AV.s (SV.ilit IntKind.i64 (0 : Int)), AV.s (SV.ilit IntKind.i64 (0 : Int)), AV.s (SV.ilit IntKind.u8 (0 : Int)), AV.s (SV.str ByteArray.empty), AV.s (SV.ilit IntKind.i64 (0 : Int)), AV.s (SV.ilit IntKind.i64 (0 : Int)), AV.s (SV.ilit IntKind.u8 (0 : Int)), AV.s (SV.str ByteArray.empty)], AV.s (SV.blit false)])) (Tree.need ((0 : Int) ≤ placeF is id) (Tree.need (placeF is id < (↑(List.length is) : Int)) (Tree.ret [AObj.own [AV.s (SV.int IntKind.i64 ck), AV.s (SV.int IntKind.i64 nx), AV.s (SV.ro (Con.typ [CK.str, CK.rows [CK.str, CK.int IntKind.u8, CK.int IntKind.i64, CK.str], CK.rows [CK.str, CK.int IntKind.u8, CK.int IntKind.i64, CK.int IntKind.i64, CK.int IntKind.u8, CK.str, CK.str, CK.str, CK.bool, CK.rows [CK.str, CK.int IntKind.u8, CK.int IntKind.i64, CK.str], CK.strs], CK.rows [CK.int IntKind.i64, CK.int IntKind.i64, CK.str, CK.bool]] ps)), AV.s (SV.ro (Con.typ cI is)), AV.s (SV.ro (Con.typ cC cs)), AV.s (SV.ro (Con.typ cW ws))] (27 : Nat), AObj.own [AV.s (SV.int IntKind.i64 (iI (el is (placeF is id)))), AV.s (SV.int IntKind.i64 (iU (el is (placeF is id)))), AV.s (SV.int IntKind.u8 (iS (el is (placeF is id)))), AV.s (SV.str (iP (el is (placeF is id)))), AV.s (SV.int IntKind.i64 (iN (el is (placeF is id)))), AV.s (SV.int IntKind.i64 (iF (el is (placeF is id)))), AV.s (SV.int IntKind.u8 (iW (el is (placeF is id)))), AV.s (SV.str (iC (el is (placeF is id))))] (31 : Nat)] (AV.tup [AV.agg [AV.s (SV.int IntKind.i64 (iI (el is (placeF is id)))), AV.s (SV.int IntKind.i64 (iU (el is (placeF is id)))), AV.s (SV.int IntKind.u8 (iS (el is (placeF is id)))), AV.s (SV.str (iP (el is (placeF is id)))), AV.s (SV.int IntKind.i64 (iN (el is (placeF is id)))), AV.s (SV.int IntKind.i64 (iF (el is (placeF is id)))), AV.s (SV.int IntKind.u8 (iW (el is (placeF is id)))), AV.s (SV.str (iC (el is (placeF is id))))], AV.s (SV.blit true)])))) := by kernel_rfl
/-! Compact, on an own row -/
def nsCo : List (Nat × Norm) := [(4, ⟨[], [0, 3], 1, []⟩), (9, ⟨[], [0, 3, 4, 5], 1, []⟩), (midKey + 2001, ⟨[], [9], 1, []⟩), (midKey + 15003, ⟨[], [59], 1, []⟩), (midKey + 16001, ⟨[], [60], 1, []⟩)]
abbrev kk (l : Nat) : Stk := ⟨none, false, 0, [], l⟩
theorem trCo (l : List Int) : run P tab0.sum Tryd.f41 nsCo (start Tryd.f41 [.vec 0] [.vec (.ints .i64 l) 3]) =
  Tree.ite (decide ((↑l.length : Int) < (2 : Int))) (Tree.at (Cfg.mk (sl (61 : Nat) [((9 : Nat), AV.vec (0 : Nat))]) [AObj.vec (Con.ints IntKind.i64 l) (3 : Nat)] (cal Tryd.f41 (2 : Nat) (1 : Nat)) (Stk.mk none false (0 : Nat) [] (2 : Nat)))) (Tree.at (Cfg.mk (sl (61 : Nat) [((0 : Nat), AV.vec (0 : Nat)), ((3 : Nat), AV.s (SV.int IntKind.i64 (1 : Int)))]) [AObj.vec (Con.ints IntKind.i64 l) (3 : Nat)] (hd Tryd.f41 (4 : Nat)) (Stk.mk none false (0 : Nat) [] (0 : Nat)))) := by kernel_rfl
noncomputable def cCo (l : List Int) (k : Int) : Cfg := ⟨sl 61 [(0, .vec 0), (3, avI k)], [.vec (.ints .i64 l) 3], hd Tryd.f41 4, {}⟩
theorem loopCo (l : List Int) (k : Int) : run P tab0.sum Tryd.f41 nsCo (cCo l k) =
  Tree.ite (decide (k < (↑l.length : Int))) (Tree.need ((0 : Int) ≤ k) (Tree.need (k < (↑l.length : Int)) (Tree.need (inI64 (k - (1 : Int))) (Tree.need ((0 : Int) ≤ k - (1 : Int)) (Tree.need (k - (1 : Int) < (↑l.length : Int)) (Tree.ite (l.getD k.toNat (0 : Int) == l.getD (k - (1 : Int)).toNat (0 : Int)) (Tree.need ((0 : Int) ≤ k) (Tree.need (k ≤ (↑l.length : Int)) (Tree.need ((↑(0 : Nat) : Int) + (↑l.length : Int) ≤ (↑l.length : Int)) (Tree.at (Cfg.mk (sl (61 : Nat) [((0 : Nat), AV.vec (0 : Nat)), ((3 : Nat), AV.s (SV.int IntKind.i64 k)), ((4 : Nat), AV.part (0 : Nat) ((0 : Nat) + k.toNat) ((↑l.length : Int).toNat - k.toNat)), ((5 : Nat), AV.s (SV.int IntKind.i64 (1 : Int)))]) [AObj.vec (Con.ints IntKind.i64 l) (3 : Nat)] (hd Tryd.f41 (9 : Nat)) (Stk.mk none false (0 : Nat) [] (0 : Nat))))))) (Tree.need (inI64 (k + (1 : Int))) (Tree.at (Cfg.mk (sl (61 : Nat) [((0 : Nat), AV.vec (0 : Nat)), ((3 : Nat), AV.s (SV.int IntKind.i64 (k + (1 : Int))))]) [AObj.vec (Con.ints IntKind.i64 l) (3 : Nat)] (hd Tryd.f41 (4 : Nat)) (Stk.mk none false (0 : Nat) [] (0 : Nat))))))))))) (Tree.at (Cfg.mk (sl (61 : Nat) [((60 : Nat), AV.vec (0 : Nat))]) [AObj.vec (Con.ints IntKind.i64 l) (3 : Nat)] (cal Tryd.f41 (16 : Nat) (1 : Nat)) (Stk.mk none false (0 : Nat) [] (16 : Nat)))) := by kernel_rfl
noncomputable def cCo9 (l : List Int) (k : Int) (lo n : Nat) (k2 : Int) : Cfg := ⟨sl 61 [(0, .vec 0), (3, avI k), (4, .part 0 lo n), (5, avI k2)], [.vec (.ints .i64 l) 3], hd Tryd.f41 9, {}⟩
theorem loopCo9 (l : List Int) (k : Int) (lo n : Nat) (k2 : Int) : run P tab0.sum Tryd.f41 nsCo (cCo9 l k lo n k2) =
  Tree.ite (decide (k2 < (↑n : Int))) (Tree.need ((0 : Int) ≤ k2) (Tree.need (k2 < (↑n : Int)) (Tree.need (inI64 (k2 - (1 : Int))) (Tree.need ((0 : Int) ≤ k2 - (1 : Int)) (Tree.need (k2 - (1 : Int) < (↑n : Int)) (Tree.ite (l.getD (lo + k2.toNat) (0 : Int) != l.getD (lo + (k2 - (1 : Int)).toNat) (0 : Int)) (Tree.need ((0 : Int) ≤ k2) (Tree.need (k2 < (↑n : Int)) (Tree.need ((0 : Int) ≤ k) (Tree.need (k < (↑l.length : Int)) (Tree.need (inI64 (k + (1 : Int))) (Tree.need (inI64 (k2 + (1 : Int))) (Tree.at (Cfg.mk (sl (61 : Nat) [((0 : Nat), AV.vec (0 : Nat)), ((3 : Nat), AV.s (SV.int IntKind.i64 (k + (1 : Int)))), ((4 : Nat), AV.part (0 : Nat) lo n), ((5 : Nat), AV.s (SV.int IntKind.i64 (k2 + (1 : Int))))]) [AObj.vec (Con.ints IntKind.i64 (l.set k.toNat (l.getD (lo + k2.toNat) (0 : Int)))) (3 : Nat)] (hd Tryd.f41 (9 : Nat)) (Stk.mk none false (0 : Nat) [] (0 : Nat)))))))))) (Tree.need (inI64 (k2 + (1 : Int))) (Tree.at (Cfg.mk (sl (61 : Nat) [((0 : Nat), AV.vec (0 : Nat)), ((3 : Nat), AV.s (SV.int IntKind.i64 k)), ((4 : Nat), AV.part (0 : Nat) lo n), ((5 : Nat), AV.s (SV.int IntKind.i64 (k2 + (1 : Int))))]) [AObj.vec (Con.ints IntKind.i64 l) (3 : Nat)] (hd Tryd.f41 (9 : Nat)) (Stk.mk none false (0 : Nat) [] (0 : Nat))))))))))) (Tree.need ((0 : Int) ≤ k) (Tree.need (k ≤ (↑l.length : Int)) (Tree.need ((↑(0 : Nat) : Int) + (↑l.length : Int) ≤ (↑l.length : Int)) (Tree.need ((0 : Int) ≤ (0 : Int)) (Tree.need ((0 : Int) ≤ k) (Tree.need ((↑(0 : Nat) : Int) + k ≤ (↑(over l ((0 : Nat) + k.toNat) ((↑l.length : Int).toNat - k.toNat) (List.replicate ((↑l.length : Int).toNat - k.toNat) (0 : Int))).length : Int)) (Tree.at (Cfg.mk (sl (61 : Nat) [((59 : Nat), AV.part (0 : Nat) (0 : Nat) (k.toNat - Int.toNat (0 : Int)))]) [AObj.vec (Con.ints IntKind.i64 (over l ((0 : Nat) + k.toNat) ((↑l.length : Int).toNat - k.toNat) (List.replicate ((↑l.length : Int).toNat - k.toNat) (0 : Int)))) (3 : Nat)] (cal Tryd.f41 (15 : Nat) (3 : Nat)) (Stk.mk none false (0 : Nat) [] (15 : Nat)))))))))) := by kernel_rfl
noncomputable def cCo2 (l : List Int) : Cfg := ⟨sl 61 [(9, .vec 1)], [.dead, .vec (.ints .i64 l) 3], cal Tryd.f41 2 1, kk 2⟩
theorem endCo2 (l : List Int) : run P tab0.sum Tryd.f41 nsCo (cCo2 l) =
  Tree.ret [AObj.dead, AObj.vec (Con.ints IntKind.i64 l) (3 : Nat)] (AV.vec (1 : Nat)) := by kernel_rfl
noncomputable def cCo15 (l : List Int) : Cfg := ⟨sl 61 [(59, .vec 1)], [.dead, .vec (.ints .i64 l) 3], cal Tryd.f41 15 3, kk 15⟩
theorem endCo15 (l : List Int) : run P tab0.sum Tryd.f41 nsCo (cCo15 l) =
  Tree.ret [AObj.dead, AObj.vec (Con.ints IntKind.i64 l) (3 : Nat)] (AV.vec (1 : Nat)) := by kernel_rfl
noncomputable def cCo16 (l : List Int) : Cfg := ⟨sl 61 [(60, .vec 1)], [.dead, .vec (.ints .i64 l) 3], cal Tryd.f41 16 1, kk 16⟩
theorem endCo16 (l : List Int) : run P tab0.sum Tryd.f41 nsCo (cCo16 l) =
  Tree.ret [AObj.dead, AObj.vec (Con.ints IntKind.i64 l) (3 : Nat)] (AV.vec (1 : Nat)) := by kernel_rfl
abbrev sCm : Spec (List Int) := ⟨fun _ => [.vec 0], fun l => [.vec (.ints .i64 l) 3], fun l => [l.length ≤ 1000000], fun l => [.dead, .vec (.ints .i64 (cmpF l)) 3], fun _ => .vec 1⟩
abbrev sumCm := sumS sCm mSort
/-! Kids -/
abbrev esOf (is : Is) : Es := is.map fun x => (iI x, iU x)
def nsKi : List (Nat × Norm) := [(3, ⟨[(5, .ints .i64 [], 3)], [1, 5, 9, 10, 11], 0, []⟩)]
def tabKi : Tab := [(40, sumSort), (41, sumCm)]
theorem trKi (ck nx : Int) (ps : Ps) (is : Is) (cs : Cs) (ws : Ws) (id : Int) : run P tabKi.sum Tryd.f17 nsKi (start Tryd.f17 [avSt ck nx ps is cs ws, avI id] []) =
  Tree.at (Cfg.mk (sl (35 : Nat) [((1 : Nat), AV.s (SV.int IntKind.i64 id)), ((5 : Nat), AV.vec (0 : Nat)), ((9 : Nat), AV.s (SV.ro (Con.typ cI is))), ((10 : Nat), AV.s (SV.int IntKind.i64 (↑(List.length is) : Int))), ((11 : Nat), AV.s (SV.int IntKind.i64 (0 : Int)))]) [AObj.vec (Con.ints IntKind.i64 []) (3 : Nat)] (hd Tryd.f17 (3 : Nat)) (Stk.mk none false (0 : Nat) [] (0 : Nat))) := by kernel_rfl
noncomputable def cKi (is : Is) (id : Int) (acc : List Int) (i : Int) : Cfg := ⟨sl 35 [(1, avI id), (5, .vec 0), (9, .s (.ro (.typ cI is))), (10, avI (is.length : Int)), (11, avI i)], [.vec (.ints .i64 acc) 3], hd Tryd.f17 3, {}⟩
theorem loopKi (is : Is) (id : Int) (acc : List Int) (i : Int) : run P tabKi.sum Tryd.f17 nsKi (cKi is id acc i) =
  Tree.ite (decide (i < (↑(List.length is) : Int))) (Tree.need ((0 : Int) ≤ i) (Tree.need (i < (↑(List.length is) : Int)) (Tree.ite (iU (el is i) == id) (Tree.ite (iI (el is i) != id) (Tree.need ((acc.length + (1 : Nat)) * (8 : Nat) ≤ (140737488355328 : Nat)) (Tree.need (inI64 (i + (1 : Int))) (Tree.at (Cfg.mk (sl (35 : Nat) [((1 : Nat), AV.s (SV.int IntKind.i64 id)), ((5 : Nat), AV.vec (0 : Nat)), ((9 : Nat), AV.s (SV.ro (Con.typ cI is))), ((10 : Nat), AV.s (SV.int IntKind.i64 (↑(List.length is) : Int))), ((11 : Nat), AV.s (SV.int IntKind.i64 (i + (1 : Int))))]) [AObj.vec (Con.ints IntKind.i64 (acc ++ [iI (el is i)])) (3 : Nat)] (hd Tryd.f17 (3 : Nat)) (Stk.mk none false (0 : Nat) [] (0 : Nat)))))) (Tree.need (inI64 (i + (1 : Int))) (Tree.at (Cfg.mk (sl (35 : Nat) [((1 : Nat), AV.s (SV.int IntKind.i64 id)), ((5 : Nat), AV.vec (0 : Nat)), ((9 : Nat), AV.s (SV.ro (Con.typ cI is))), ((10 : Nat), AV.s (SV.int IntKind.i64 (↑(List.length is) : Int))), ((11 : Nat), AV.s (SV.int IntKind.i64 (i + (1 : Int))))]) [AObj.vec (Con.ints IntKind.i64 acc) (3 : Nat)] (hd Tryd.f17 (3 : Nat)) (Stk.mk none false (0 : Nat) [] (0 : Nat)))))) (Tree.need (inI64 (i + (1 : Int))) (Tree.at (Cfg.mk (sl (35 : Nat) [((1 : Nat), AV.s (SV.int IntKind.i64 id)), ((5 : Nat), AV.vec (0 : Nat)), ((9 : Nat), AV.s (SV.ro (Con.typ cI is))), ((10 : Nat), AV.s (SV.int IntKind.i64 (↑(List.length is) : Int))), ((11 : Nat), AV.s (SV.int IntKind.i64 (i + (1 : Int))))]) [AObj.vec (Con.ints IntKind.i64 acc) (3 : Nat)] (hd Tryd.f17 (3 : Nat)) (Stk.mk none false (0 : Nat) [] (0 : Nat)))))))) (Tree.need (Slf (some [AV.vec (0 : Nat)])) (Tree.need (Slf (some [AObj.vec (Con.ints IntKind.i64 acc) (3 : Nat)])) (Tree.need (acc.length ≤ (1000000 : Nat)) (Tree.need (Slf (some [AV.vec (0 : Nat)])) (Tree.need (Slf (some [AObj.vec (Con.ints IntKind.i64 (srtZ acc)) (3 : Nat)])) (Tree.need ((srtZ acc).length ≤ (1000000 : Nat)) (Tree.ret [AObj.dead, AObj.vec (Con.ints IntKind.i64 (cmpF (srtZ acc))) (3 : Nat)] (AV.vec (1 : Nat))))))))) := by kernel_rfl
end Ds

namespace Ds
open Go Go.Sx Go.Proofs Lf
theorem srtZ_sorted (zs : List Int) : (srtZ zs).Pairwise (fun x y => decide (x ≤ y) = true) :=
  List.pairwise_mergeSort (fun a b c h1 h2 => by simp at *; omega) (fun a b => by simp; omega) zs
theorem srtZ_perm (zs : List Int) : (srtZ zs).Perm zs := List.mergeSort_perm _ _
theorem srt_set (l : List Int) : cmpF (srtZ l) = setS l := lt_ext (cmpF_lt (srtZ_sorted l)) (setS_lt l) fun x => by rw [mem_cmpF, (srtZ_perm l).mem_iff, mem_setS]
theorem el_lt {cs : List CK} {l : List (CL cs)} {k : Nat} (h : k < l.length) : el l (k : Int) = l[k] := by
  show l.getD (k : Int).toNat _ = _
  rw [Int.toNat_natCast]; exact getD_lt h
theorem idxF_spec {α : Type} {p : α → Bool} : ∀ {l : List α}, (idxF p l = -1 ∧ ∀ x ∈ l, p x = false) ∨ ∃ i : Nat, idxF p l = (i : Int) ∧ ∃ h : i < l.length, p l[i] = true ∧ ∀ j (hj : j < i), p (l[j]'(by omega)) = false := by
  intro l
  unfold idxF
  cases h : l.findIdx? p with
  | none =>
    refine .inl ⟨rfl, fun x hx => ?_⟩
    have := List.findIdx?_eq_none_iff.1 h x hx
    simpa using this
  | some i =>
    obtain ⟨h1, h2, h3⟩ := List.findIdx?_eq_some_iff_getElem.1 h
    exact .inr ⟨i, rfl, h1, h2, fun j hj => by simpa using h3 j hj⟩
theorem idxF_at {α : Type} {p : α → Bool} {l : List α} {k : Nat} (hk : k < l.length) (h : p l[k] = true) (hl : ∀ j (hj : j < k), p (l[j]'(by omega)) = false) : idxF p l = (k : Int) := by
  rcases idxF_spec (p := p) (l := l) with ⟨_, h2⟩ | ⟨i, e, h1, h2, h3⟩
  · rw [h2 _ (List.getElem_mem hk)] at h; cases h
  · rw [e]
    rcases Nat.lt_trichotomy i k with h4 | h4 | h4
    · rw [hl i h4] at h2; cases h2
    · rw [h4]
    · rw [h3 k h4] at h; cases h
theorem idxF_none {α : Type} {p : α → Bool} {l : List α} (h : ∀ j (hj : j < l.length), p l[j] = false) : idxF p l = -1 := by
  rcases idxF_spec (p := p) (l := l) with ⟨e, _⟩ | ⟨i, e, h1, h2, _⟩
  · exact e
  · rw [h i h1] at h2; cases h2
theorem place_ok {Z : Glob} : FnOk P Z 35 [tSt, tInt] [tInt] (fun _ => []) (fun ((_, _, _, is, _, _, ()), id, ()) => (placeF is id, ())) := by
  refine fnOk_of_safe Tryd.func35 (by kernel_rfl) (by kernel_rfl) ?_
  rintro ⟨⟨(ck : Int), (nx : Int), (ps : Ps), (is : Is), (cs : Cs), (ws : Ws), ⟨⟩⟩, (id : Int), ⟨⟩⟩ ⟨⟨_, _, _, (hl : is.length ≤ maxLen), _⟩, _⟩ _ X hX hz
  have hl2 : is.length ≤ 9223372036854775807 := by unfold maxLen at hl; omega
  show Safe P 35 X (Ends [tInt] (placeF is id, ())) _
  have loop : ∀ (j k : Nat), k + j = is.length → (∀ i (hi : i < k) (h2 : i < is.length), (iI is[i] == id) = false) → Safe P 35 X (Ends [tInt] (placeF is id, ())) (cPl is id (k : Int)) := by
    intro j
    induction j with
    | zero =>
      intro k hk hi
      have e : placeF is id = -1 := idxF_none fun j hj => hi j (by omega) hj
      refine go hz hX Tab.Ok.nil Tryd.func35 (loopPl is id k) ⟨fun h => absurd (of_decide_eq_true h) (by omega), fun _ => ?_⟩
      rw [e]; exact ends_eq _ rfl (by kernel_rfl)
    | succ j ih =>
      intro k hk hi
      have hlt : k < is.length := by omega
      refine go hz hX Tab.Ok.nil Tryd.func35 (loopPl is id k) ?_
      have next := fun h : (iI is[k] == id) = false => ih (k + 1) (by omega) fun i h1 h2 => by
        by_cases e : i = k
        · subst e; exact h
        · exact hi i (by omega) h2
      have fin := fun h : (iI is[k] == id) = true => idxF_at (p := fun x : CL cI => iI x == id) hlt h fun j hj => hi j hj (by omega)
      rw [el_lt hlt]
      repeat' (with_reducible (first | refine h_eq ?_ | refine h_need ?_ ?_ | refine h_dec (fun _ => ?_) (fun _ => ?_) | refine h_beq (fun _ => ?_) (fun _ => ?_) | refine h_bne (fun _ => ?_) (fun _ => ?_) | refine h_tt ?_ | refine h_ff ?_ | refine h_not ?_ | refine h_ite (fun _ => ?_) (fun _ => ?_) | refine h_both (fun _ => ?_) (fun _ => ?_) | refine h_ret ?_ | refine h_at ?_))
      all_goals first | omega | exact ⟨by omega, by omega⟩ | skip
      · rename_i h
        have e : placeF is id = (k : Int) := fin (by simpa using h)
        rw [e]; exact ends_eq _ rfl (by kernel_rfl)
      · rename_i h; exact next (by simpa using h)
  refine go hz hX Tab.Ok.nil Tryd.func35 (trPl ck nx ps is cs ws id) ?_
  exact loop is.length 0 (by omega) fun i hi => absurd hi (Nat.not_lt_zero _)
theorem place_range (is : Is) (id : Int) : (placeF is id = -1 ∧ ∀ x ∈ is, iI x ≠ id) ∨ (0 ≤ placeF is id ∧ placeF is id < (is.length : Int) ∧ ∃ h : (placeF is id).toNat < is.length, iI is[(placeF is id).toNat] = id) := by
  rcases idxF_spec (p := fun x : CL cI => iI x == id) (l := is) with ⟨e, h⟩ | ⟨i, e, h1, h2, _⟩
  · exact .inl ⟨e, fun x hx => by simpa using h x hx⟩
  · have e : placeF is id = (i : Int) := e
    refine .inr ⟨by omega, by omega, by omega, ?_⟩
    have e2 : (placeF is id).toNat = i := by omega
    simp only [e2]
    simpa using h2
theorem tabFi_ok {Z : Glob} : tabFi.Ok P Z := Tab.Ok.cons place_ok.sum Tab.Ok.nil
theorem find_ok {Z : Glob} : FnOk P Z 19 [tSt, tInt] [tIt, tBool] (fun _ => []) (fun ((_, _, _, is, _, _, ()), id, ()) => (getI is id, hasI is id, ())) := by
  refine fnOk_of_safe Tryd.func19 (by kernel_rfl) (by kernel_rfl) ?_
  rintro ⟨⟨(ck : Int), (nx : Int), (ps : Ps), (is : Is), (cs : Cs), (ws : Ws), ⟨⟩⟩, (id : Int), ⟨⟩⟩ _ _ X hX hz
  refine go hz hX tabFi_ok Tryd.func19 (trFi ck nx ps is cs ws id) ?_
  show Tree.Holds (Ends [tIt, tBool] (getI is id, hasI is id, ())) _ _
  rcases place_range is id with ⟨e, _⟩ | ⟨h0, h1, _⟩
  · refine ⟨fun _ => ?_, fun h => absurd (of_decide_eq_false h) (by omega)⟩
    have e1 : getI is id = CL.d cI := by
      show el is (whereF is id) = _
      unfold whereF
      rw [if_neg (by omega)]
      show is.getD (is.length : Int).toNat (CL.d cI) = _
      simp [List.getD]
    have e2 : hasI is id = false := by unfold hasI; rw [decide_eq_false (by omega)]
    rw [e1, e2]; exact ends_eq _ rfl (by kernel_rfl)
  · refine ⟨fun h => absurd (of_decide_eq_true h) (by omega), fun _ => ⟨h0, h1, ?_⟩⟩
    have e1 : getI is id = el is (placeF is id) := by
      show el is (whereF is id) = _
      unfold whereF
      rw [if_pos h0]
    have e2 : hasI is id = true := by unfold hasI; rw [decide_eq_true h0]
    rw [e1, e2]
    generalize el is (placeF is id) = x
    exact ends_eq _ rfl (by kernel_rfl)
theorem take_snoc {l : List Int} {k : Nat} (h : k < l.length) : l.take (k + 1) = l.take k ++ [l.getD k 0] := by
  rw [List.take_add_one, List.getElem?_eq_getElem h, getD_lt h]; rfl
theorem last_take {l : List Int} {k : Nat} (h0 : 0 < k) (h : k ≤ l.length) (hne : l.take k ≠ []) : (l.take k).getLast hne = l.getD (k - 1) 0 := by
  rw [List.getLast_eq_getElem, getD_lt (by omega), List.getElem_take]
  congr 1
  rw [List.length_take]; omega
theorem cmp_step {l : List Int} {k : Nat} (h0 : 0 < k) (h : k < l.length) : cmpF (l.take (k + 1)) = cmpF (l.take k) ++ (if l.getD k 0 = l.getD (k - 1) 0 then [] else [l.getD k 0]) := by
  have hne : l.take k ≠ [] := fun e => by have := congrArg List.length e; rw [List.length_take, List.length_nil] at this; omega
  rw [take_snoc h, cmpF_snoc _ hne, last_take h0 (by omega)]
theorem compact_ok {Z : Glob} : FnS P Z 41 sCm := by
  refine fnS_of_safe Tryd.func41 (by kernel_rfl) (fun x => Nat.le_of_ble_eq_true (by kernel_rfl)) ?_
  rintro (l : List Int) ⟨(hl : l.length ≤ 1000000), _⟩ X hX hz
  have hns : ∀ x ∈ nsCo, (sCm.heap l).length ≤ x.2.m := by intro y hy; simp [nsCo] at hy; rcases hy with rfl | rfl | rfl | rfl | rfl <;> exact Nat.le_refl _
  have sub0 : ∀ zs : List Int, conSub (.ints .i64 zs) 0 (0 + (Con.ints .i64 zs).n) = .ints .i64 zs := fun zs => by
    show Con.ints .i64 ((zs.take (0 + zs.length)).drop 0) = _
    rw [Nat.zero_add, List.take_length, List.drop_zero]
  have fin9 : ∀ (l' : List Int) (k : Nat), l'.length = l.length → k ≤ l.length → l'.take k = cmpF l → Safe P 41 X (EndS sCm l)
      (⟨sl 61 [(59, .part 0 0 (k - Int.toNat 0))], [.vec (.ints .i64 (over l' (0 + k) (l.length - k) (List.replicate (l.length - k) 0))) 3], cal Tryd.f41 15 3, kk 15⟩ : Cfg) := by
    intro l' k hl' hk e
    refine cut_safe (t := 59) (id := 0) rfl rfl ?_
    have e2 : conSub (.ints .i64 (over l' (0 + k) (l.length - k) (List.replicate (l.length - k) 0))) 0 (0 + (k - Int.toNat 0)) = .ints .i64 (cmpF l) := by
      show Con.ints .i64 ((List.take (0 + (k - 0)) (over l' (0 + k) (l.length - k) (List.replicate (l.length - k) 0))).drop 0) = _
      rw [List.drop_zero, Nat.zero_add, Nat.sub_zero, Nat.zero_add]
      unfold over
      rw [List.append_assoc, List.take_append_of_le_length (by rw [List.length_take]; omega), List.take_take, Nat.min_self, e]
    rw [e2]
    show Safe P _ X _ (cCo15 (cmpF l))
    exact goS hz hX hns Tab.Ok.nil Tryd.func41 (endCo15 _) (endS 1 rfl (Nat.le_refl _) rfl rfl)
  have loop9 : ∀ (j : Nat) (l' : List Int) (k lo k2 : Nat), lo + k2 + j = l.length → 0 < lo → 0 < k2 → k ≤ lo + k2 - 1 → l'.length = l.length → l'.take k = cmpF (l.take (lo + k2)) → (∀ i, k ≤ i → l'.getD i 0 = l.getD i 0) →
      Safe P 41 X (EndS sCm l) (cCo9 l' (k : Int) lo (l.length - lo) (k2 : Int)) := by
    intro j
    induction j with
    | zero =>
      intro l' k lo k2 hj h0 h2 hk hl' ht hi
      refine goS hz hX hns Tab.Ok.nil Tryd.func41 (loopCo9 l' k lo _ k2) ⟨fun h => absurd (of_decide_eq_true h) (by omega), fun _ => ?_⟩
      rw [hl', Int.toNat_natCast, Int.toNat_natCast]
      have := fin9 l' k hl' (by omega) (by rw [ht, List.take_of_length_le (by omega)])
      refine ⟨by omega, by omega, by omega, by omega, by omega, ?_, this⟩
      rw [over_length _ _ (by omega) (by simp)]; omega
    | succ j ih =>
      intro l' k lo k2 hj h0 h2 hk hl' ht hi
      refine goS hz hX hns Tab.Ok.nil Tryd.func41 (loopCo9 l' k lo _ k2) ?_
      rw [Int.toNat_natCast, show ((k2 : Int) - 1).toNat = k2 - 1 from by omega, Int.toNat_natCast, hi (lo + k2) (by omega), hi (lo + (k2 - 1)) (by omega)]
      have hs := cmp_step (l := l) (k := lo + k2) (by omega) (by omega)
      rw [show lo + k2 - 1 = lo + (k2 - 1) from by omega] at hs
      have same : l.getD (lo + k2) 0 = l.getD (lo + (k2 - 1)) 0 → Safe P 41 X (EndS sCm l) (cCo9 l' (k : Int) lo (l.length - lo) ((k2 : Int) + 1)) := fun e => by
        have := ih l' k lo (k2 + 1) (by omega) h0 (by omega) (by omega) hl' (by rw [show lo + (k2 + 1) = lo + k2 + 1 from by omega, hs, if_pos e, List.append_nil]; exact ht) hi
        exact this
      have diff : ¬ l.getD (lo + k2) 0 = l.getD (lo + (k2 - 1)) 0 → Safe P 41 X (EndS sCm l) (cCo9 (l'.set k (l.getD (lo + k2) 0)) ((k : Int) + 1) lo (l.length - lo) ((k2 : Int) + 1)) := fun e => by
        have := ih (l'.set k (l.getD (lo + k2) 0)) (k + 1) lo (k2 + 1) (by omega) h0 (by omega) (by omega) (by simpa using hl') (by
          rw [show lo + (k2 + 1) = lo + k2 + 1 from by omega, hs, if_neg e, take_snoc (by simp; omega), List.take_set_of_le (Nat.le_refl _), ht, getD_lt (by simp; omega), List.getElem_set_self]) (fun i h => by
          simp only [List.getD, List.getElem?_set_ne (show k ≠ i from by omega)]
          exact hi i (by omega))
        exact this
      repeat' (with_reducible (first | refine h_eq ?_ | refine h_need ?_ ?_ | refine h_dec (fun _ => ?_) (fun _ => ?_) | refine h_beq (fun _ => ?_) (fun _ => ?_) | refine h_bne (fun _ => ?_) (fun _ => ?_) | refine h_tt ?_ | refine h_ff ?_ | refine h_not ?_ | refine h_ite (fun _ => ?_) (fun _ => ?_) | refine h_both (fun _ => ?_) (fun _ => ?_) | refine h_ret ?_ | refine h_at ?_))
      all_goals first | omega | exact ⟨by omega, by omega⟩ | exact same (by assumption) | exact diff (by assumption)
  have loop : ∀ (j k : Nat), k + j = l.length → 0 < k → cmpF (l.take k) = l.take k → Safe P 41 X (EndS sCm l) (cCo l (k : Int)) := by
    intro j
    induction j with
    | zero =>
      intro k hk h0 hc
      rw [List.take_of_length_le (by omega)] at hc
      refine goS hz hX hns Tab.Ok.nil Tryd.func41 (loopCo l k) ⟨fun h => absurd (of_decide_eq_true h) (by omega), fun _ => ?_⟩
      refine vec_cut_safe (t := 60) (id := 0) rfl rfl (sub0 l) ?_
      show Safe P _ X _ (cCo16 l)
      exact goS hz hX hns Tab.Ok.nil Tryd.func41 (endCo16 _) (endS 1 rfl (Nat.le_refl _) rfl (by show [AObj.dead, .vec (.ints .i64 (cmpF l)) 3] = _; rw [hc]))
    | succ j ih =>
      intro k hk h0 hc
      refine goS hz hX hns Tab.Ok.nil Tryd.func41 (loopCo l k) ?_
      have hs := cmp_step (l := l) (k := k) h0 (by omega)
      rw [Int.toNat_natCast, show ((k : Int) - 1).toNat = k - 1 from by omega]
      have next := fun e : ¬ l.getD k 0 = l.getD (k - 1) 0 => ih (k + 1) (by omega) (by omega) (by rw [hs, if_neg e, hc, take_snoc (by omega)])
      have dup := fun e : l.getD k 0 = l.getD (k - 1) 0 => loop9 (l.length - (k + 1)) l k k 1 (by omega) (by omega) (by omega) (by omega) rfl (by rw [hs, if_pos e, hc, List.append_nil]) (fun _ _ => rfl)
      rw [Nat.zero_add, Int.toNat_natCast]
      repeat' (with_reducible (first | refine h_eq ?_ | refine h_need ?_ ?_ | refine h_dec (fun _ => ?_) (fun _ => ?_) | refine h_beq (fun _ => ?_) (fun _ => ?_) | refine h_bne (fun _ => ?_) (fun _ => ?_) | refine h_tt ?_ | refine h_ff ?_ | refine h_not ?_ | refine h_ite (fun _ => ?_) (fun _ => ?_) | refine h_both (fun _ => ?_) (fun _ => ?_) | refine h_ret ?_ | refine h_at ?_))
      all_goals first | omega | exact ⟨by omega, by omega⟩ | exact dup (by assumption) | exact next (by assumption)
  refine goS hz hX hns Tab.Ok.nil Tryd.func41 (trCo l) ⟨fun h => ?_, fun h => ?_⟩
  · have h := of_decide_eq_true h
    have hc : cmpF l = l := by
      match l, h with
      | [], _ => rfl
      | [x], _ => rfl
      | x :: y :: l, h => simp only [List.length_cons] at h; omega
    refine vec_cut_safe (t := 9) (id := 0) rfl rfl (sub0 l) ?_
    show Safe P _ X _ (cCo2 l)
    exact goS hz hX hns Tab.Ok.nil Tryd.func41 (endCo2 _) (endS 1 rfl (Nat.le_refl _) rfl (by show [AObj.dead, .vec (.ints .i64 (cmpF l)) 3] = _; rw [hc]))
  · have h := of_decide_eq_false h
    refine loop (l.length - 1) 1 (by omega) (by omega) ?_
    cases l with
    | nil => simp at h
    | cons x l => simp [cmpF, cmpG]
theorem tabKi_ok {Z : Glob} : tabKi.Ok P Z := Tab.Ok.cons (sort_ok.sum mSort) (Tab.Ok.cons (compact_ok.sum mSort) Tab.Ok.nil)
theorem kids_ok {Z : Glob} : FnOk P Z 17 [tSt, tInt] [tNs] (fun ((_, _, _, is, _, _, ()), _, ()) => [(is : Is).length ≤ 1000000]) (fun ((_, _, _, is, _, _, ()), id, ()) => (kidsF (esOf is) id, ())) := by
  refine fnOk_of_safe Tryd.func17 (by kernel_rfl) (by kernel_rfl) ?_
  rintro ⟨⟨(ck : Int), (nx : Int), (ps : Ps), (is : Is), (cs : Cs), (ws : Ws), ⟨⟩⟩, (id : Int), ⟨⟩⟩ _ ⟨(hl : is.length ≤ 1000000), _⟩ X hX hz
  show Safe P 17 X (Ends [tNs] (kidsF (esOf is) id, ())) _
  have loop : ∀ (j k : Nat) (acc : List Int), k + j = is.length → acc.length ≤ k → acc ++ kidsL (esOf (is.drop k)) id = kidsL (esOf is) id → Safe P 17 X (Ends [tNs] (kidsF (esOf is) id, ())) (cKi is id acc (k : Int)) := by
    intro j
    induction j with
    | zero =>
      intro k acc hk ha he
      rw [List.drop_eq_nil_of_le (by omega)] at he
      have he : acc = kidsL (esOf is) id := by simpa [kidsL] using he
      refine go hz hX tabKi_ok Tryd.func17 (loopKi is id acc k) ⟨fun h => absurd (of_decide_eq_true h) (by omega), fun _ => ⟨rfl, rfl, by omega, rfl, rfl, by rw [srtZ_len]; omega, ?_⟩⟩
      rw [srt_set, he]
      exact ends_eq _ rfl (by kernel_rfl)
    | succ j ih =>
      intro k acc hk ha he
      have hlt : k < is.length := by omega
      rw [List.drop_eq_getElem_cons hlt] at he
      refine go hz hX tabKi_ok Tryd.func17 (loopKi is id acc k) ?_
      rw [el_lt hlt]
      have next := ih (k + 1)
      generalize is[k] = x at *
      have yes : iU x = id → iI x ≠ id → Safe P 17 X (Ends [tNs] (kidsF (esOf is) id, ())) (cKi is id (acc ++ [iI x]) ((k : Int) + 1)) := fun h1 h2 => by
        refine next (acc ++ [iI x]) (by omega) (by simp; omega) ?_
        rw [← he]
        simp [kidsL, esOf, List.filter_cons, h1, h2]
      have no : ¬ (iU x = id ∧ iI x ≠ id) → Safe P 17 X (Ends [tNs] (kidsF (esOf is) id, ())) (cKi is id acc ((k : Int) + 1)) := fun h => by
        refine next acc (by omega) (by omega) ?_
        rw [← he]
        have : ((iU x == id) && (iI x != id)) = false := by
          rw [← Bool.not_eq_true]
          simpa using h
        simp [kidsL, esOf, List.filter_cons, this]
      repeat' (with_reducible (first | refine h_eq ?_ | refine h_need ?_ ?_ | refine h_dec (fun _ => ?_) (fun _ => ?_) | refine h_beq (fun _ => ?_) (fun _ => ?_) | refine h_bne (fun _ => ?_) (fun _ => ?_) | refine h_tt ?_ | refine h_ff ?_ | refine h_not ?_ | refine h_ite (fun _ => ?_) (fun _ => ?_) | refine h_both (fun _ => ?_) (fun _ => ?_) | refine h_ret ?_ | refine h_at ?_))
      all_goals first | omega | exact ⟨by omega, by omega⟩ | exact yes (by assumption) (by assumption) | exact no (by omega)
  refine go hz hX tabKi_ok Tryd.func17 (trKi ck nx ps is cs ws id) ?_
  exact loop is.length 0 [] (by omega) (by simp) (by simp)
end Ds

namespace Ds
open Go Go.Sx Go.Proofs Lf
/-! Below -/
abbrev kM : CK := .int .i64
abbrev Mp : Type := List (Int × Int)
abbrev sumKi := sumOf [tSt, tInt] [tNs] (fun ((_, _, _, is, _, _, ()), _, ()) => [(is : Is).length ≤ 1000000]) (fun ((_, _, _, is, _, _, ()), id, ()) => (kidsF (esOf is) id, ()))
def tabBe : Tab := [(17, sumKi), (40, sumSort)]
def nsBe : List (Nat × Norm) := [(4, ⟨[(7, .ints .i64 [], 3)], [2, 5, 6, 7], 0, []⟩), (6, ⟨[], [2, 5, 6, 7, 22, 23, 24], 0, []⟩)]
theorem trBe (ck nx : Int) (ps : Ps) (is : Is) (cs : Cs) (ws : Ws) (id : Int) : run P tabBe.sum Tryd.f16 nsBe (start Tryd.f16 [avSt ck nx ps is cs ws, avI id] []) =
  Tree.at (Cfg.mk (sl (50 : Nat) [((2 : Nat), AV.ptr (0 : Nat) (0 : Nat)), ((5 : Nat), AV.mapv (1 : Nat)), ((6 : Nat), AV.vec (2 : Nat)), ((7 : Nat), AV.vec (3 : Nat))]) [AObj.own [AV.s (SV.int IntKind.i64 ck), AV.s (SV.int IntKind.i64 nx), AV.s (SV.ro (Con.typ [CK.str, CK.rows [CK.str, CK.int IntKind.u8, CK.int IntKind.i64, CK.str], CK.rows [CK.str, CK.int IntKind.u8, CK.int IntKind.i64, CK.int IntKind.i64, CK.int IntKind.u8, CK.str, CK.str, CK.str, CK.bool, CK.rows [CK.str, CK.int IntKind.u8, CK.int IntKind.i64, CK.str], CK.strs], CK.rows [CK.int IntKind.i64, CK.int IntKind.i64, CK.str, CK.bool]] ps)), AV.s (SV.ro (Con.typ cI is)), AV.s (SV.ro (Con.typ cC cs)), AV.s (SV.ro (Con.typ cW ws))] (27 : Nat), AObj.map (CK.int IntKind.i64) (mput [] id (1 : Int)), AObj.vec (Con.ints IntKind.i64 [id]) (3 : Nat), AObj.vec (Con.ints IntKind.i64 []) (3 : Nat)] (hd Tryd.f16 (4 : Nat)) (Stk.mk none false (0 : Nat) [] (0 : Nat))) := by kernel_rfl
noncomputable def cBe (ck nx : Int) (ps : Ps) (is : Is) (cs : Cs) (ws : Ws) (m : Mp) (work out : List Int) : Cfg := ⟨sl 50 [(2, .ptr 0 0), (5, .mapv 1), (6, .vec 4), (7, .vec 3)], [obSt ck nx ps is cs ws, .map kM m, .dead, .vec (.ints .i64 out) 3, .vec (.ints .i64 work) 3], hd Tryd.f16 4, {}⟩
theorem loopBe (ck nx : Int) (ps : Ps) (is : Is) (cs : Cs) (ws : Ws) (m : Mp) (work out : List Int) : run P tabBe.sum Tryd.f16 nsBe (cBe ck nx ps is cs ws m work out) =
  Tree.ite (decide ((↑work.length : Int) > (0 : Int))) (Tree.need ((0 : Int) ≤ (0 : Int)) (Tree.need ((0 : Int) < (↑work.length : Int)) (Tree.need (List.length is ≤ (1000000 : Nat)) (Tree.at (Cfg.mk (sl (50 : Nat) [((2 : Nat), AV.ptr (0 : Nat) (0 : Nat)), ((5 : Nat), AV.mapv (1 : Nat)), ((6 : Nat), AV.vec (2 : Nat)), ((7 : Nat), AV.vec (3 : Nat)), ((22 : Nat), AV.vec (4 : Nat)), ((23 : Nat), AV.s (SV.int IntKind.i64 (↑(kidsF (esOf is) (work.getD (0 : Nat) (0 : Int))).length : Int))), ((24 : Nat), AV.s (SV.int IntKind.i64 (0 : Int)))]) [AObj.own [AV.s (SV.int IntKind.i64 ck), AV.s (SV.int IntKind.i64 nx), AV.s (SV.ro (Con.typ [CK.str, CK.rows [CK.str, CK.int IntKind.u8, CK.int IntKind.i64, CK.str], CK.rows [CK.str, CK.int IntKind.u8, CK.int IntKind.i64, CK.int IntKind.i64, CK.int IntKind.u8, CK.str, CK.str, CK.str, CK.bool, CK.rows [CK.str, CK.int IntKind.u8, CK.int IntKind.i64, CK.str], CK.strs], CK.rows [CK.int IntKind.i64, CK.int IntKind.i64, CK.str, CK.bool]] ps)), AV.s (SV.ro (Con.typ cI is)), AV.s (SV.ro (Con.typ cC cs)), AV.s (SV.ro (Con.typ cW ws))] (27 : Nat), AObj.map (CK.int IntKind.i64) m, AObj.vec (Con.ints IntKind.i64 work) (3 : Nat), AObj.vec (Con.ints IntKind.i64 out) (3 : Nat), AObj.vec (Con.ints IntKind.i64 (kidsF (esOf is) (work.getD (0 : Nat) (0 : Int)))) (3 : Nat)] (hd Tryd.f16 (6 : Nat)) (Stk.mk none false (0 : Nat) [] (0 : Nat))))))) (Tree.need (Slf (some [AV.vec (0 : Nat)])) (Tree.need (Slf (some [AObj.vec (Con.ints IntKind.i64 out) (3 : Nat)])) (Tree.need (out.length ≤ (1000000 : Nat)) (Tree.ret [AObj.own [AV.s (SV.int IntKind.i64 ck), AV.s (SV.int IntKind.i64 nx), AV.s (SV.ro (Con.typ [CK.str, CK.rows [CK.str, CK.int IntKind.u8, CK.int IntKind.i64, CK.str], CK.rows [CK.str, CK.int IntKind.u8, CK.int IntKind.i64, CK.int IntKind.i64, CK.int IntKind.u8, CK.str, CK.str, CK.str, CK.bool, CK.rows [CK.str, CK.int IntKind.u8, CK.int IntKind.i64, CK.str], CK.strs], CK.rows [CK.int IntKind.i64, CK.int IntKind.i64, CK.str, CK.bool]] ps)), AV.s (SV.ro (Con.typ cI is)), AV.s (SV.ro (Con.typ cC cs)), AV.s (SV.ro (Con.typ cW ws))] (27 : Nat), AObj.map (CK.int IntKind.i64) m, AObj.dead, AObj.vec (Con.ints IntKind.i64 (srtZ out)) (3 : Nat), AObj.vec (Con.ints IntKind.i64 work) (3 : Nat)] (AV.vec (3 : Nat)))))) := by kernel_rfl
noncomputable def cBe6 (ck nx : Int) (ps : Ps) (is : Is) (cs : Cs) (ws : Ws) (m : Mp) (work out ks : List Int) (i : Int) : Cfg := ⟨sl 50 [(2, .ptr 0 0), (5, .mapv 1), (6, .vec 2), (7, .vec 3), (22, .vec 4), (23, avI (ks.length : Int)), (24, avI i)], [obSt ck nx ps is cs ws, .map kM m, .vec (.ints .i64 work) 3, .vec (.ints .i64 out) 3, .vec (.ints .i64 ks) 3], hd Tryd.f16 6, {}⟩
theorem loopBe6 (ck nx : Int) (ps : Ps) (is : Is) (cs : Cs) (ws : Ws) (m : Mp) (work out ks : List Int) (i : Int) : run P tabBe.sum Tryd.f16 nsBe (cBe6 ck nx ps is cs ws m work out ks i) =
  Tree.ite (decide (i < (↑ks.length : Int))) (Tree.need ((0 : Int) ≤ i) (Tree.need (i < (↑ks.length : Int)) (Tree.ite ((mget m (ks.getD i.toNat (0 : Int))).getD (CK.int IntKind.i64).d == (0 : Int)) (Tree.need (inI64 ((mget m (ks.getD i.toNat (0 : Int))).getD (CK.int IntKind.i64).d + (1 : Int))) (Tree.need ((work.length + (1 : Nat)) * (8 : Nat) ≤ (140737488355328 : Nat)) (Tree.need ((out.length + (1 : Nat)) * (8 : Nat) ≤ (140737488355328 : Nat)) (Tree.need (inI64 (i + (1 : Int))) (Tree.at (Cfg.mk (sl (50 : Nat) [((2 : Nat), AV.ptr (0 : Nat) (0 : Nat)), ((5 : Nat), AV.mapv (1 : Nat)), ((6 : Nat), AV.vec (2 : Nat)), ((7 : Nat), AV.vec (3 : Nat)), ((22 : Nat), AV.vec (4 : Nat)), ((23 : Nat), AV.s (SV.int IntKind.i64 (↑ks.length : Int))), ((24 : Nat), AV.s (SV.int IntKind.i64 (i + (1 : Int))))]) [AObj.own [AV.s (SV.int IntKind.i64 ck), AV.s (SV.int IntKind.i64 nx), AV.s (SV.ro (Con.typ [CK.str, CK.rows [CK.str, CK.int IntKind.u8, CK.int IntKind.i64, CK.str], CK.rows [CK.str, CK.int IntKind.u8, CK.int IntKind.i64, CK.int IntKind.i64, CK.int IntKind.u8, CK.str, CK.str, CK.str, CK.bool, CK.rows [CK.str, CK.int IntKind.u8, CK.int IntKind.i64, CK.str], CK.strs], CK.rows [CK.int IntKind.i64, CK.int IntKind.i64, CK.str, CK.bool]] ps)), AV.s (SV.ro (Con.typ cI is)), AV.s (SV.ro (Con.typ cC cs)), AV.s (SV.ro (Con.typ cW ws))] (27 : Nat), AObj.map (CK.int IntKind.i64) (mput m (ks.getD i.toNat (0 : Int)) ((mget m (ks.getD i.toNat (0 : Int))).getD (CK.int IntKind.i64).d + (1 : Int))), AObj.vec (Con.ints IntKind.i64 (work ++ [ks.getD i.toNat (0 : Int)])) (3 : Nat), AObj.vec (Con.ints IntKind.i64 (out ++ [ks.getD i.toNat (0 : Int)])) (3 : Nat), AObj.vec (Con.ints IntKind.i64 ks) (3 : Nat)] (hd Tryd.f16 (6 : Nat)) (Stk.mk none false (0 : Nat) [] (0 : Nat)))))))) (Tree.need (inI64 (i + (1 : Int))) (Tree.at (Cfg.mk (sl (50 : Nat) [((2 : Nat), AV.ptr (0 : Nat) (0 : Nat)), ((5 : Nat), AV.mapv (1 : Nat)), ((6 : Nat), AV.vec (2 : Nat)), ((7 : Nat), AV.vec (3 : Nat)), ((22 : Nat), AV.vec (4 : Nat)), ((23 : Nat), AV.s (SV.int IntKind.i64 (↑ks.length : Int))), ((24 : Nat), AV.s (SV.int IntKind.i64 (i + (1 : Int))))]) [AObj.own [AV.s (SV.int IntKind.i64 ck), AV.s (SV.int IntKind.i64 nx), AV.s (SV.ro (Con.typ [CK.str, CK.rows [CK.str, CK.int IntKind.u8, CK.int IntKind.i64, CK.str], CK.rows [CK.str, CK.int IntKind.u8, CK.int IntKind.i64, CK.int IntKind.i64, CK.int IntKind.u8, CK.str, CK.str, CK.str, CK.bool, CK.rows [CK.str, CK.int IntKind.u8, CK.int IntKind.i64, CK.str], CK.strs], CK.rows [CK.int IntKind.i64, CK.int IntKind.i64, CK.str, CK.bool]] ps)), AV.s (SV.ro (Con.typ cI is)), AV.s (SV.ro (Con.typ cC cs)), AV.s (SV.ro (Con.typ cW ws))] (27 : Nat), AObj.map (CK.int IntKind.i64) m, AObj.vec (Con.ints IntKind.i64 work) (3 : Nat), AObj.vec (Con.ints IntKind.i64 out) (3 : Nat), AObj.vec (Con.ints IntKind.i64 ks) (3 : Nat)] (hd Tryd.f16 (6 : Nat)) (Stk.mk none false (0 : Nat) [] (0 : Nat))))))))
  (Tree.need ((0 : Int) ≤ (1 : Int)) (Tree.need ((1 : Int) ≤ (↑work.length : Int)) (Tree.need ((↑(0 : Nat) : Int) + (↑work.length : Int) ≤ (↑work.length : Int)) (Tree.at (Cfg.mk (sl (50 : Nat) [((2 : Nat), AV.ptr (0 : Nat) (0 : Nat)), ((5 : Nat), AV.mapv (1 : Nat)), ((6 : Nat), AV.part (2 : Nat) (1 : Nat) ((↑work.length : Int).toNat - Int.toNat (1 : Int))), ((7 : Nat), AV.vec (3 : Nat))]) [AObj.own [AV.s (SV.int IntKind.i64 ck), AV.s (SV.int IntKind.i64 nx), AV.s (SV.ro (Con.typ [CK.str, CK.rows [CK.str, CK.int IntKind.u8, CK.int IntKind.i64, CK.str], CK.rows [CK.str, CK.int IntKind.u8, CK.int IntKind.i64, CK.int IntKind.i64, CK.int IntKind.u8, CK.str, CK.str, CK.str, CK.bool, CK.rows [CK.str, CK.int IntKind.u8, CK.int IntKind.i64, CK.str], CK.strs], CK.rows [CK.int IntKind.i64, CK.int IntKind.i64, CK.str, CK.bool]] ps)), AV.s (SV.ro (Con.typ cI is)), AV.s (SV.ro (Con.typ cC cs)), AV.s (SV.ro (Con.typ cW ws))] (27 : Nat), AObj.map (CK.int IntKind.i64) m, AObj.vec (Con.ints IntKind.i64 work) (3 : Nat), AObj.vec (Con.ints IntKind.i64 out) (3 : Nat)] (hd Tryd.f16 (4 : Nat)) (Stk.mk none false (0 : Nat) [] (0 : Nat))))))) := by kernel_rfl
theorem mget_put' : ∀ (m : Mp) (n x v : Int), mget (mput m n v) x = if x = n then some v else mget m x := by
  intro m n x v
  have hmap : ∀ l : Mp, (l.map fun p => if p.1 == n then (n, v) else p).find? (fun p => p.1 == x) = if x = n then (if mhas l n = true then some (n, v) else none) else l.find? (fun p => p.1 == x) := by
    intro l
    induction l with
    | nil => simp [mhas]
    | cons p l ih =>
      simp only [List.map_cons, List.find?_cons]
      by_cases hp : p.1 = n
      · have hp' : (p.1 == n) = true := by simpa using hp
        simp only [hp', if_true]
        by_cases hx : x = n
        · subst hx
          simp [mhas, hp]
        · have : (n == x) = false := by simpa using Ne.symm hx
          have h2 : (p.1 == x) = false := by rw [hp]; exact this
          rw [this, h2, ih, if_neg hx]
          simp [hx]
      · have hp' : (p.1 == n) = false := by simpa using hp
        simp only [hp', Bool.false_eq_true, if_false]
        by_cases hpx : p.1 = x
        · have : (p.1 == x) = true := by simpa using hpx
          rw [this]
          rw [if_neg (fun h => hp (hpx.trans h))]
        · have : (p.1 == x) = false := by simpa using hpx
          rw [this, ih]
          have hm : mhas (p :: l) n = mhas l n := by simp [mhas, hp]
          rw [hm]
  unfold mput mget
  split
  · rename_i hh
    rw [hmap]
    split
    · rfl
    · rfl
  · rename_i hh
    rw [List.find?_append]
    by_cases hx : x = n
    · subst hx
      rw [if_pos rfl]
      have : m.find? (fun p => p.1 == x) = none := by
        rw [List.find?_eq_none]
        intro p hp hpx
        exact hh (by simp only [mhas, List.any_eq_true]; exact ⟨p, hp, hpx⟩)
      rw [this]
      simp
    · rw [if_neg hx]
      have : (n == x) = false := by simpa using Ne.symm hx
      simp [List.find?_cons, this]
def cnt (m : Mp) (k : Int) : Int := (mget m k).getD 0
def Marks (m : Mp) (l : List Int) : Prop := ∀ k, cnt m k = if k ∈ l then 1 else 0
theorem marks_put {m : Mp} {l : List Int} {k : Int} (h : Marks m l) (hk : k ∉ l) : Marks (mput m k (cnt m k + 1)) (l ++ [k]) := by
  intro x
  have hk0 := h k
  rw [if_neg hk] at hk0
  unfold cnt at hk0 ⊢
  rw [mget_put']
  by_cases hx : x = k
  · subst hx
    rw [if_pos rfl, if_pos (by simp)]
    show (mget m x).getD 0 + 1 = 1
    omega
  · rw [if_neg hx]
    have := h x
    unfold cnt at this
    rw [this]
    simp [hx]
theorem nodup_srt {l : List Int} (h : l.Nodup) : srtZ l = setS l := by
  refine lt_ext ?_ (setS_lt l) fun x => by rw [(srtZ_perm l).mem_iff, mem_setS]
  have hn : (srtZ l).Nodup := (srtZ_perm l).nodup_iff.2 h
  refine List.Pairwise.imp₂ (fun a b (hab : decide (a ≤ b) = true) (hne : a ≠ b) => ?_) (srtZ_sorted l) hn
  have := of_decide_eq_true hab
  omega
theorem tabBe_ok {Z : Glob} : tabBe.Ok P Z := Tab.Ok.cons kids_ok.sum (Tab.Ok.cons (sort_ok.sum mSort) Tab.Ok.nil)
theorem below_ok {Z : Glob} : FnOk P Z 16 [tSt, tInt] [tNs] (fun ((_, _, _, is, _, _, ()), _, ()) => [(is : Is).length ≤ 1000000]) (fun ((_, _, _, is, _, _, ()), id, ()) => (belowF (esOf is) id, ())) := by
  refine fnOk_of_safe Tryd.func16 (by kernel_rfl) (by kernel_rfl) ?_
  rintro ⟨⟨(ck : Int), (nx : Int), (ps : Ps), (is : Is), (cs : Cs), (ws : Ws), ⟨⟩⟩, (id : Int), ⟨⟩⟩ _ ⟨(hl : is.length ≤ 1000000), _⟩ X hX hz
  show Safe P 16 X (Ends [tNs] (belowF (esOf is) id, ())) _
  have hel : (esOf is).length = is.length := List.length_map _
  generalize hes : esOf is = es at *
  have olen : ∀ out : List Int, (id :: out).Nodup → (∀ x ∈ out, x ∈ es.map (·.1)) → out.length ≤ is.length := fun out h1 h2 => by
    have := nodup_len (List.nodup_cons.1 h1).2 h2
    rw [List.length_map] at this
    omega
  have kin : ∀ w x, x ∈ kidsF es w → x ∈ es.map (·.1) := fun w x h => List.mem_map.2 ⟨(x, w), (mem_kids.1 h).1, rfl⟩
  have outer : ∀ (f : Nat) (m : Mp) (work out dn : List Int), todoN es (id :: out) + work.length < f + 1 → (id :: out).Nodup → (∀ x ∈ out, x ∈ es.map (·.1)) → dn ++ work = id :: out → Marks m (id :: out) → out ++ bfs es f (id :: out) work = belowR es id →
      Safe P 16 X (Ends [tNs] (belowF es id, ())) (cBe ck nx ps is cs ws m work out) := by
    intro f
    have fin : ∀ (m : Mp) (out : List Int), (id :: out).Nodup → (∀ x ∈ out, x ∈ es.map (·.1)) → out = belowR es id → Safe P 16 X (Ends [tNs] (belowF es id, ())) (cBe ck nx ps is cs ws m [] out) := by
      intro m out hn hi ho
      have := olen out hn hi
      refine go hz hX tabBe_ok Tryd.func16 (loopBe ck nx ps is cs ws m [] out) ⟨fun h => absurd (of_decide_eq_true h) (by simp), fun _ => ⟨rfl, rfl, by omega, ?_⟩⟩
      have e : srtZ out = belowF es id := by rw [nodup_srt (List.nodup_cons.1 hn).2, ho]; rfl
      rw [e]
      exact ends_eq _ rfl (by kernel_rfl)
    induction f with
    | zero =>
      intro m work out dn hf hn hi hd hm hb
      obtain rfl : work = [] := List.eq_nil_of_length_eq_zero (by omega)
      exact fin m out hn hi (by simpa [bfs] using hb)
    | succ f ih =>
      intro m work out dn hf hn hi hd hm hb
      cases work with
      | nil => exact fin m out hn hi (by simpa [bfs] using hb)
      | cons w wr =>
        have inner : ∀ (j i : Nat) (m' : Mp) (add : List Int), i + j = (kidsF es w).length → ((kidsF es w).take i).filter (fun k => !(id :: out).contains k) = add → Marks m' (id :: (out ++ add)) →
            Safe P 16 X (Ends [tNs] (belowF es id, ())) (cBe6 ck nx ps is cs ws m' (w :: wr ++ add) (out ++ add) (kidsF es w) (i : Int)) := by
          intro j
          have hfr : ∀ i, ((kidsF es w).take i).filter (fun k => !(id :: out).contains k) <+: freshK es (id :: out) w := fun i => by
            unfold freshK
            exact (List.take_prefix i _).filter _
          have addlen : ∀ i add, ((kidsF es w).take i).filter (fun k => !(id :: out).contains k) = add → (id :: (out ++ add)).Nodup ∧ (∀ x ∈ out ++ add, x ∈ es.map (·.1)) ∧ (out ++ add).length ≤ is.length ∧ (w :: wr ++ add).length ≤ is.length + 1 := fun i add ha => by
            have h1 : (id :: (out ++ add)).Nodup := by
              rw [← List.cons_append]
              refine List.nodup_append.2 ⟨hn, by rw [← ha]; exact ((rises_nodup (setS_lt _)).sublist (List.take_sublist _ _)).filter _, fun a h1 b h2 e => ?_⟩
              subst e
              rw [← ha] at h2
              have := (List.mem_filter.1 h2).2
              simp only [List.contains_eq_mem, Bool.not_eq_true', decide_eq_false_iff_not] at this
              exact this h1
            have h2 : ∀ x ∈ out ++ add, x ∈ es.map (·.1) := fun x hx => by
              rcases List.mem_append.1 hx with h | h
              · exact hi x h
              · rw [← ha] at h
                exact kin w x (List.mem_of_mem_take (List.mem_filter.1 h).1)
            have h3 := olen _ h1 h2
            refine ⟨h1, h2, h3, ?_⟩
            have := congrArg List.length hd
            simp only [List.length_append, List.length_cons] at this h3 ⊢
            omega
          induction j with
          | zero =>
            intro i m' add hij ha hm'
            obtain ⟨g1, g2, g3, g4⟩ := addlen i add ha
            rw [List.take_of_length_le (by omega)] at ha
            have ha : freshK es (id :: out) w = add := ha
            refine go hz hX tabBe_ok Tryd.func16 (loopBe6 ck nx ps is cs ws m' _ _ _ i) ⟨fun h => absurd (of_decide_eq_true h) (by omega), fun _ => ⟨by decide, by simp; omega, by omega, ?_⟩⟩
            refine cut_safe (t := 6) (id := 2) rfl rfl ?_
            have e : conSub (.ints .i64 (w :: wr ++ add)) 1 (1 + (((w :: wr ++ add).length : Int).toNat - Int.toNat 1)) = .ints .i64 (wr ++ add) := by
              show Con.ints .i64 (((w :: wr ++ add).take _).drop 1) = _
              rw [Int.toNat_natCast, List.take_of_length_le (by simp; omega)]
              rfl
            rw [e]
            have hts := todo_step es (id :: out) w
            rw [ha] at hts
            have := ih m' (wr ++ add) (out ++ add) (dn ++ [w]) (by rw [List.length_append, ← List.cons_append]; rw [List.length_cons] at hf; omega) g1 g2 (by
              rw [← List.cons_append, ← hd]; simp) hm' (by
              rw [← hb]
              simp only [bfs, ha, List.append_assoc, List.cons_append])
            exact this
          | succ j ihj =>
            intro i m' add hij ha hm'
            obtain ⟨g1, g2, g3, g4⟩ := addlen i add ha
            have hlt : i < (kidsF es w).length := by omega
            refine go hz hX tabBe_ok Tryd.func16 (loopBe6 ck nx ps is cs ws m' _ _ _ i) ?_
            have hk : (kidsF es w).getD (i : Int).toNat 0 = (kidsF es w)[i] := by rw [Int.toNat_natCast]; exact getD_lt hlt
            rw [hk]
            have htk : (kidsF es w).take (i + 1) = (kidsF es w).take i ++ [(kidsF es w)[i]] := by rw [List.take_add_one, List.getElem?_eq_getElem hlt]; rfl
            have hnot : (kidsF es w)[i] ∉ (kidsF es w).take i := fun h => by
              have hnd : ((kidsF es w).take (i + 1)).Nodup := (rises_nodup (setS_lt _)).sublist (List.take_sublist _ _)
              rw [htk] at hnd
              exact (List.nodup_append.1 hnd).2.2 _ h _ (by simp) rfl
            have hcn : (mget m' (kidsF es w)[i]).getD (CK.int IntKind.i64).d = cnt m' (kidsF es w)[i] := rfl
            rw [hcn]
            have hmk := hm' (kidsF es w)[i]
            have hmem : (kidsF es w)[i] ∈ id :: (out ++ add) ↔ (kidsF es w)[i] ∈ id :: out := by
              rw [← List.cons_append, List.mem_append]
              refine ⟨fun h => h.elim (fun x => x) fun h2 => ?_, .inl⟩
              rw [← ha] at h2
              exact absurd (List.mem_filter.1 h2).1 hnot
            have yes : (kidsF es w)[i] ∉ id :: out → Safe P 16 X (Ends [tNs] (belowF es id, ())) (cBe6 ck nx ps is cs ws (mput m' (kidsF es w)[i] (cnt m' (kidsF es w)[i] + 1)) (w :: wr ++ add ++ [(kidsF es w)[i]]) (out ++ add ++ [(kidsF es w)[i]]) (kidsF es w) ((i : Int) + 1)) := fun h => by
              have := ihj (i + 1) (mput m' (kidsF es w)[i] (cnt m' (kidsF es w)[i] + 1)) (add ++ [(kidsF es w)[i]]) (by omega) (by
                rw [htk, List.filter_append, ha]
                simp only [List.filter_cons, List.filter_nil, List.contains_eq_mem, h, decide_false, Bool.not_false, if_true]) (by
                have := marks_put hm' (fun h2 => h (hmem.1 h2))
                simpa using this)
              rw [← List.append_assoc, ← List.append_assoc] at this
              exact this
            have no : (kidsF es w)[i] ∈ id :: out → Safe P 16 X (Ends [tNs] (belowF es id, ())) (cBe6 ck nx ps is cs ws m' (w :: wr ++ add) (out ++ add) (kidsF es w) ((i : Int) + 1)) := fun h => by
              have := ihj (i + 1) m' add (by omega) (by
                rw [htk, List.filter_append, ha]
                simp only [List.filter_cons, List.filter_nil, List.contains_eq_mem, h, decide_true, Bool.not_true, Bool.false_eq_true, if_false, List.append_nil]) hm'
              exact this
            have hkl : (kidsF es w).length ≤ is.length := by
              have h1 := setS_len (kidsL es w)
              have h2 : (kidsL es w).length ≤ es.length := by unfold kidsL; rw [List.length_map]; exact List.length_filter_le _ _
              unfold kidsF
              omega
            generalize (kidsF es w)[i] = k at *
            have hyes : cnt m' k = 0 → k ∉ id :: out := fun e h => by rw [e, if_pos (hmem.2 h)] at hmk; cases hmk
            have hno : cnt m' k ≠ 0 → k ∈ id :: out := fun e => Classical.byContradiction fun h => e (by rw [hmk, if_neg (fun h2 => h (hmem.1 h2))])
            repeat' (with_reducible (first | refine h_eq ?_ | refine h_need ?_ ?_ | refine h_dec (fun _ => ?_) (fun _ => ?_) | refine h_beq (fun _ => ?_) (fun _ => ?_) | refine h_bne (fun _ => ?_) (fun _ => ?_) | refine h_tt ?_ | refine h_ff ?_ | refine h_not ?_ | refine h_ite (fun _ => ?_) (fun _ => ?_) | refine h_both (fun _ => ?_) (fun _ => ?_) | refine h_ret ?_ | refine h_at ?_))
            all_goals first | omega | exact ⟨by omega, by omega⟩ | exact yes (hyes (by assumption)) | exact no (hno (by assumption)) | skip
        have hwl : (w :: wr).length ≤ is.length + 1 := by
          have := congrArg List.length hd
          have h3 := olen out hn hi
          simp only [List.length_append, List.length_cons] at this ⊢
          omega
        refine go hz hX tabBe_ok Tryd.func16 (loopBe ck nx ps is cs ws m (w :: wr) out) ⟨fun _ => ⟨by decide, by simp, by omega, ?_⟩, fun h => absurd (of_decide_eq_false h) (by simp)⟩
        rw [show (w :: wr).getD 0 0 = w from rfl, hes]
        have := inner (kidsF es w).length 0 m [] (by omega) (by simp) (by simpa using hm)
        simp only [List.append_nil] at this
        exact this
  refine go hz hX tabBe_ok Tryd.func16 (trBe ck nx ps is cs ws id) ?_
  refine vec_cut_safe (t := 6) (id := 2) (c' := .ints .i64 [id]) rfl rfl rfl ?_
  have hm : Marks (mput [] id 1) (id :: []) := by
    intro k
    unfold cnt
    rw [mget_put']
    by_cases h : k = id
    · rw [if_pos h, if_pos (by simp [h])]; rfl
    · rw [if_neg h, if_neg (by simp [h])]; rfl
  have ht := todo_le es [id]
  exact outer (es.length + 1) (mput [] id 1) [id] [] [] (by simp; omega) (by simp) (by simp) rfl hm rfl
end Ds

/-! What is deleted. -/
namespace Ds
def delF {α : Type} (p : α → Bool) (l : List α) : List α := l.filter fun x => !p x
structure DInv {α : Type} (p : α → Bool) (l r : List α) (i j : Nat) : Prop where
  len : r.length = l.length
  pre : r.take i = delF p (l.take j)
  tail : ∀ k, j ≤ k → r[k]? = l[k]?
  ij : i < j
  hj : j ≤ l.length
variable {α : Type} {p : α → Bool} {l r : List α} {i j : Nat}
theorem delF_take (h : j < l.length) : delF p (l.take (j + 1)) = delF p (l.take j) ++ (if p l[j] then [] else [l[j]]) := by
  unfold delF
  rw [List.take_add_one, List.getElem?_eq_getElem h, List.filter_append]
  congr 1
  cases hp : p l[j] <;> simp [hp]
theorem delF_all (h : ∀ x ∈ l, p x = false) : delF p l = l := by
  unfold delF
  rw [List.filter_eq_self]
  intro x hx
  rw [h x hx]; rfl
theorem DInv.start (h : i < l.length) (hp : p l[i] = true) (hb : ∀ k (hk : k < i), p (l[k]'(by omega)) = false) : DInv p l l i (i + 1) := by
  refine ⟨rfl, ?_, fun _ _ => rfl, by omega, by omega⟩
  rw [delF_take h, hp, if_pos rfl, List.append_nil, delF_all]
  intro x hx
  obtain ⟨k, hk, rfl⟩ := List.mem_iff_getElem.1 hx
  rw [List.length_take] at hk
  rw [List.getElem_take]
  exact hb k (by omega)
theorem DInv.at (h : DInv p l r i j) (hj : j < l.length) : r[j]'(by rw [h.len]; exact hj) = l[j] := by
  have := h.tail j (Nat.le_refl _)
  rw [List.getElem?_eq_getElem hj, List.getElem?_eq_getElem (by rw [h.len]; exact hj)] at this
  exact Option.some.inj this
theorem DInv.skip (h : DInv p l r i j) (hj : j < l.length) (hp : p l[j] = true) : DInv p l r i (j + 1) := by
  refine ⟨h.len, ?_, fun k hk => h.tail k (by omega), by have := h.ij; omega, by omega⟩
  rw [delF_take hj, hp, if_pos rfl, List.append_nil, h.pre]
theorem DInv.keep (h : DInv p l r i j) (hj : j < l.length) (hp : p l[j] = false) : DInv p l (r.set i l[j]) (i + 1) (j + 1) := by
  have h1 := h.ij
  have h2 := h.len
  refine ⟨by simpa using h.len, ?_, fun k hk => ?_, by omega, by omega⟩
  · rw [delF_take hj, hp, if_neg (by simp), ← h.pre, List.take_add_one, List.take_set_of_le (Nat.le_refl _), List.getElem?_set_self (by omega)]
    rfl
  · rw [List.getElem?_set_ne (by omega)]
    exact h.tail k (by omega)
theorem DInv.fin (h : DInv p l r i j) (hj : j = l.length) : r.take i = delF p l := by
  rw [h.pre, hj, List.take_length]
end Ds

namespace Ds
open Go Go.Sx Go.Proofs Lf
/-! Contains, Drop -/
/-! unwatched -/
end Ds

namespace Ds
open Go Go.Sx Go.Proofs Lf
end Ds

namespace Ds
open Go Go.Sx Go.Proofs Lf
/-! without -/
/-! Clear's deletion of a number -/
/-! Take, Clear, Break, Gone -/
def gI (is : Is) (id : Int) : Int := iI (getI is id)
def gU (is : Is) (id : Int) : Int := iU (getI is id)
def gS (is : Is) (id : Int) : Int := iS (getI is id)
def gP (is : Is) (id : Int) : ByteArray := iP (getI is id)
def gN (is : Is) (id : Int) : Int := iN (getI is id)
def gF (is : Is) (id : Int) : Int := iF (getI is id)
def gW (is : Is) (id : Int) : Int := iW (getI is id)
def gC (is : Is) (id : Int) : ByteArray := iC (getI is id)
abbrev getT (is : Is) (id : Int) : CL cI := (gI is id, gU is id, gS is id, gP is id, gN is id, gF is id, gW is id, gC is id, ())
abbrev sumFi := sumOf [tSt, tInt] [tIt, tBool] (fun _ => []) (fun ((_, _, _, is, _, _, ()), id, ()) => (getT is id, hasI is id, ()))
end Ds

namespace Ds
open Go Go.Sx Go.Proofs Lf
theorem frz_safe {X : Ctx} {K : List AObj → AV → Prop} {f : FuncId} {tmps : List AV} {L : List AObj} {todo : List Item} {stk : Stk} (id : Nat) {c : Cfg}
    (e : (⟨(frzSt ⟨tmps, L⟩ id).tmps, (frzSt ⟨tmps, L⟩ id).H, todo, stk⟩ : Cfg) = c) (h : Safe P f X K c) : Safe P f X K ⟨tmps, L, todo, stk⟩ := by
  subst e
  intro G E ρ a w hG1 hG2 hr b t fs hw
  exact h G E ρ a w hG1 hG2 (hr.frz1 id) b t fs hw
theorem below_le (es : Es) (id : Int) : (belowF es id).length ≤ es.length := by
  have h : (belowF es id).length ≤ (es.map (·.1)).length := nodup_len (rises_nodup (below_lt es id)) fun x hx => by
    obtain ⟨h1, h2⟩ := mem_below.1 hx
    have key : ∀ a b : Int, Reach es a b → b ∈ es.map (·.1) := fun a b h => by
      cases h with
      | kid h => exact List.mem_map.2 ⟨_, (mem_kids.1 h).1, rfl⟩
      | more _ h => exact List.mem_map.2 ⟨_, (mem_kids.1 h).1, rfl⟩
    exact key _ _ h2
  simpa using h
end Ds

namespace Ds
open Go Go.Sx Go.Proofs Lf
abbrev nN (x : CL cN) : ByteArray := x.1
abbrev nK (x : CL cN) : Int := x.2.1
abbrev nI (x : CL cN) : Int := x.2.2.1
abbrev nO (x : CL cN) : Int := x.2.2.2.1
abbrev nE (x : CL cN) : Int := x.2.2.2.2.1
abbrev nY (x : CL cN) : ByteArray := x.2.2.2.2.2.1
abbrev nT (x : CL cN) : ByteArray := x.2.2.2.2.2.2.1
abbrev nS (x : CL cN) : ByteArray := x.2.2.2.2.2.2.2.1
abbrev nB (x : CL cN) : Bool := x.2.2.2.2.2.2.2.2.1
abbrev nV (x : CL cN) : List (CL cV) := x.2.2.2.2.2.2.2.2.2.1
abbrev nZ (x : CL cN) : List ByteArray := x.2.2.2.2.2.2.2.2.2.2.1
abbrev fB (x : CL cF) : Int := x.2.1
abbrev pN (x : CL cP) : ByteArray := x.1
abbrev pV (x : CL cP) : List (CL cV) := x.2.1
abbrev pO (x : CL cP) : List (CL cN) := x.2.2.1
abbrev pF (x : CL cP) : List (CL cF) := x.2.2.2.1
abbrev eV : TypeId := 116
abbrev eN : TypeId := 45
abbrev eF : TypeId := 111
abbrev tPr : Ty := .st [.str, .row (.typ cV) eV, .row (.typ cN) eN, .row (.typ cF) eF]
abbrev avPr (a : ByteArray) (vs : List (CL cV)) (ns : List (CL cN)) (fs : List (CL cF)) : AV := .agg [.s (.str a), .s (.ro (.typ cV vs)), .s (.ro (.typ cN ns)), .s (.ro (.typ cF fs))]
abbrev obPr (a : ByteArray) (vs : List (CL cV)) (ns : List (CL cN)) (fs : List (CL cF)) : AObj := .own [.s (.str a), .s (.ro (.typ cV vs)), .s (.ro (.typ cN ns)), .s (.ro (.typ cF fs))] eP
def nsVs : List (Nat × Norm) := [(4, ⟨[], [0, 1, 5], 0, []⟩)]
end Ds

namespace Ds
open Go Go.Sx Go.Proofs Lf
end Ds

namespace Ds
open Go Go.Sx Go.Proofs Lf
/-! processes and nodes: what is found -/
abbrev tNoR : Ty := .st [.str, .int .u8, .int .i64, .int .i64, .int .u8, .str, .str, .str, .bool, .rrow (.typ cV) eV, .rrow .strs 9]
abbrev tPrr : Ty := .st [.str, .rrow (.typ cV) eV, .rrow (.typ cN) eN, .rrow (.typ cF) eF]
abbrev obNo (x : CL cN) : AObj := .own [.s (.str (nN x)), .s (.int .u8 (nK x)), avI (nI x), avI (nO x), .s (.int .u8 (nE x)), .s (.str (nY x)), .s (.str (nT x)), .s (.str (nS x)), .s (.bool (nB x)), .s (.ro (.typ cV (nV x))), .s (.ro (.strs (nZ x)))] eN
/-! Def -/
abbrev fIp : FuncId := 37
def nsDf : List (Nat × Norm) := [((fIp + 1) * 100000 + 2, ⟨[], [0, 1, 7, 8, 21, 23, 24], 2, []⟩)]
abbrev inDf : List FuncId := [fIp, 38]
theorem trDf (ck nx : Int) (ps : Ps) (is : Is) (cs : Cs) (ws : Ws) (id : ByteArray) : run P tab0.sum Tryd.f14 nsDf (start Tryd.f14 [avSt ck nx ps is cs ws, .s (.str id)] []) inDf =
  Tree.at (Cfg.mk (sl (38 : Nat) [((0 : Nat), AV.s (SV.ro (Con.typ cP ps))), ((1 : Nat), AV.fn (38 : Nat) [AV.ptr (1 : Nat) (0 : Nat)]), ((7 : Nat), AV.s (SV.int IntKind.i64 (↑(List.length ps) : Int))), ((8 : Nat), AV.s (SV.int IntKind.i64 (0 : Int))), ((21 : Nat), AV.ptr (0 : Nat) (0 : Nat)), ((23 : Nat), AV.ptr (2 : Nat) (0 : Nat)), ((24 : Nat), AV.s (SV.bool false))]) [AObj.own [AV.s (SV.int IntKind.i64 ck), AV.s (SV.int IntKind.i64 nx), AV.s (SV.ro (Con.typ cP ps)), AV.s (SV.ro (Con.typ cI is)), AV.s (SV.ro (Con.typ cC cs)), AV.s (SV.ro (Con.typ cW ws))] (27 : Nat), AObj.own [AV.s (SV.str id)] (9 : Nat), AObj.own [AV.s (SV.str ByteArray.empty), AV.emp, AV.emp, AV.emp] (40 : Nat)] (hd Tryd.f37 (2 : Nat)) (Stk.mk (some (37 : Nat)) false (0 : Nat) [inCall Tryd.f14 none (1 : Nat) (3 : Nat) false (0 : Nat)] (0 : Nat))) := by kernel_rfl
/-! Choose -/
abbrev fIn2 : FuncId := 74
abbrev inCh : List FuncId := [fIn2, 81]
def nsCh : List (Nat × Norm) := [(unrollKey + 2, ⟨[], [], 0, []⟩), ((fIn2 + 1) * 100000 + 2, ⟨[], [0, 1, 7, 8, 20, 23, 25, 30, 33, 34], 0, []⟩)]
theorem trCh (a : ByteArray) (vs : List (CL cV)) (ns : List (CL cN)) (fs : List (CL cF)) (l : List Int) (ev : Int) (key : ByteArray) : run P tab0.sum Tryd.f57 nsCh (start Tryd.f57 [avPr a vs ns fs, avL l, .s (.int .u8 ev), .s (.str key)] []) inCh =
  Tree.need ((0 : Int) ≤ (0 : Int)) (Tree.need ((0 : Int) < (↑(2 : Nat) : Int)) (Tree.at (Cfg.mk (sl (47 : Nat) [((0 : Nat), AV.s (SV.ro (Con.ints IntKind.i64 l))), ((1 : Nat), AV.fn (81 : Nat) [AV.ptr (0 : Nat) (0 : Nat), AV.ptr (1 : Nat) (0 : Nat), AV.ptr (2 : Nat) (0 : Nat)]), ((7 : Nat), AV.s (SV.int IntKind.i64 (↑l.length : Int))), ((8 : Nat), AV.s (SV.int IntKind.i64 (0 : Int))), ((20 : Nat), AV.s (SV.ro (Con.ints IntKind.i64 l))), ((23 : Nat), AV.ptr (0 : Nat) (0 : Nat)), ((25 : Nat), AV.ptr (1 : Nat) (0 : Nat)), ((30 : Nat), AV.ptr (2 : Nat) (0 : Nat)), ((33 : Nat), AV.agg [AV.s (SV.str key), AV.s (SV.str ByteArray.empty)]), ((34 : Nat), AV.s (SV.int IntKind.i64 (0 : Int)))]) [AObj.own [AV.s (SV.str a), AV.s (SV.ro (Con.typ cV vs)), AV.s (SV.ro (Con.typ cN ns)), AV.s (SV.ro (Con.typ cF fs))] (40 : Nat), AObj.own [AV.s (SV.int IntKind.u8 ev)] (5 : Nat), AObj.own [AV.s (SV.str key)] (9 : Nat)] (hd Tryd.f74 (2 : Nat)) (Stk.mk (some (74 : Nat)) false (0 : Nat) [inCall Tryd.f57 none (4 : Nat) (2 : Nat) false (0 : Nat)] (0 : Nat))))) := by kernel_rfl
/-! nodes -/
abbrev fNs : FuncId := 113
abbrev inBo : List FuncId := [fNs, 114]
def nsBo : List (Nat × Norm) := [((fNs + 1) * 100000 + 3, ⟨[(5, .ints .i64 [], 3)], [1, 5, 9, 10, 11], 0, []⟩)]
theorem trBo (a : ByteArray) (vs : List (CL cV)) (ns : List (CL cN)) (fs : List (CL cF)) (id : Int) : run P tab0.sum Tryd.f102 nsBo (start Tryd.f102 [avPr a vs ns fs, avI id] []) inBo =
  Tree.at (Cfg.mk (sl (33 : Nat) [((1 : Nat), AV.fn (114 : Nat) [AV.ptr (0 : Nat) (0 : Nat)]), ((5 : Nat), AV.vec (1 : Nat)), ((9 : Nat), AV.s (SV.ro (Con.typ cN ns))), ((10 : Nat), AV.s (SV.int IntKind.i64 (↑ns.length : Int))), ((11 : Nat), AV.s (SV.int IntKind.i64 (0 : Int)))]) [AObj.own [AV.s (SV.int IntKind.i64 id)] (3 : Nat), AObj.vec (Con.ints IntKind.i64 []) (3 : Nat)] (hd Tryd.f113 (3 : Nat)) (Stk.mk (some (113 : Nat)) false (0 : Nat) [inCall Tryd.f102 none (1 : Nat) (2 : Nat) false (0 : Nat)] (0 : Nat))) := by kernel_rfl
abbrev inAs : List FuncId := [fNs, 115]
theorem trAs (a : ByteArray) (vs : List (CL cV)) (ns : List (CL cN)) (fs : List (CL cF)) (id : Int) : run P tab0.sum Tryd.f103 nsBo (start Tryd.f103 [avPr a vs ns fs, avI id] []) inAs =
  Tree.at (Cfg.mk (sl (33 : Nat) [((1 : Nat), AV.fn (115 : Nat) [AV.ptr (0 : Nat) (0 : Nat)]), ((5 : Nat), AV.vec (1 : Nat)), ((9 : Nat), AV.s (SV.ro (Con.typ cN ns))), ((10 : Nat), AV.s (SV.int IntKind.i64 (↑ns.length : Int))), ((11 : Nat), AV.s (SV.int IntKind.i64 (0 : Int)))]) [AObj.own [AV.s (SV.int IntKind.i64 id)] (3 : Nat), AObj.vec (Con.ints IntKind.i64 []) (3 : Nat)] (hd Tryd.f113 (3 : Nat)) (Stk.mk (some (113 : Nat)) false (0 : Nat) [inCall Tryd.f103 none (1 : Nat) (2 : Nat) false (0 : Nat)] (0 : Nat))) := by kernel_rfl
abbrev inSo : List FuncId := [fNs, 118, 116, 117]
end Ds

namespace Ds
open Go Go.Sx Go.Proofs Lf
noncomputable def cDf (ck nx : Int) (ps : Ps) (is : Is) (cs : Cs) (ws : Ws) (id : ByteArray) (i : Int) : Cfg := ⟨sl 38 [(0, .s (.ro (.typ cP ps))), (1, .fn 38 [.ptr 1 0]), (7, avI (ps.length : Int)), (8, avI i), (21, .ptr 0 0), (23, .ptr 2 0), (24, .s (.bool false))], [obSt ck nx ps is cs ws, .own [.s (.str id)] 9, .own [.s (.str ByteArray.empty), .emp, .emp, .emp] eP], hd Tryd.f37 2, ⟨some fIp, false, 0, [inCall Tryd.f14 none 1 3 false 0], 0⟩⟩
theorem loopDf (ck nx : Int) (ps : Ps) (is : Is) (cs : Cs) (ws : Ws) (id : ByteArray) (i : Int) : run P tab0.sum Tryd.f14 nsDf (cDf ck nx ps is cs ws id i) inDf =
  Tree.ite (decide (i < (↑(List.length ps) : Int))) (Tree.need ((0 : Int) ≤ i) (Tree.need (i < (↑(List.length ps) : Int)) (Tree.ite (decide (pN (el ps i) = id)) (Tree.ite (decide (i < (0 : Int))) (Tree.ret [AObj.own [AV.s (SV.int IntKind.i64 ck), AV.s (SV.int IntKind.i64 nx), AV.s (SV.ro (Con.typ cP ps)), AV.s (SV.ro (Con.typ cI is)), AV.s (SV.ro (Con.typ cC cs)), AV.s (SV.ro (Con.typ cW ws))] (27 : Nat), AObj.own [AV.s (SV.str id)] (9 : Nat), AObj.own [AV.s (SV.str ByteArray.empty), AV.emp, AV.emp, AV.emp] (40 : Nat), AObj.own [AV.s (SV.str (pN (el ps i))), AV.s (SV.ro (Con.typ cV (pV (el ps i)))), AV.s (SV.ro (Con.typ cN (pO (el ps i)))), AV.s (SV.ro (Con.typ cF (pF (el ps i))))] (40 : Nat)] (AV.tup [AV.agg [AV.s (SV.str ByteArray.empty), AV.emp, AV.emp, AV.emp], AV.s (SV.blit false)])) (Tree.need ((0 : Int) ≤ i) (Tree.need (i < (↑(List.length ps) : Int)) (Tree.ret [AObj.own [AV.s (SV.int IntKind.i64 ck), AV.s (SV.int IntKind.i64 nx), AV.s (SV.ro (Con.typ cP ps)), AV.s (SV.ro (Con.typ cI is)), AV.s (SV.ro (Con.typ cC cs)), AV.s (SV.ro (Con.typ cW ws))] (27 : Nat), AObj.own [AV.s (SV.str id)] (9 : Nat), AObj.own [AV.s (SV.str (pN (el ps i))), AV.s (SV.ro (Con.typ cV (pV (el ps i)))), AV.s (SV.ro (Con.typ cN (pO (el ps i)))), AV.s (SV.ro (Con.typ cF (pF (el ps i))))] (40 : Nat), AObj.own [AV.s (SV.str (pN (el ps i))), AV.s (SV.ro (Con.typ cV (pV (el ps i)))), AV.s (SV.ro (Con.typ cN (pO (el ps i)))), AV.s (SV.ro (Con.typ cF (pF (el ps i))))] (40 : Nat)] (AV.tup [AV.agg [AV.s (SV.str (pN (el ps i))), AV.s (SV.ro (Con.typ cV (pV (el ps i)))), AV.s (SV.ro (Con.typ cN (pO (el ps i)))), AV.s (SV.ro (Con.typ cF (pF (el ps i))))], AV.s (SV.blit true)]))))) (Tree.need (inI64 (i + (1 : Int))) (Tree.at (Cfg.mk (sl (38 : Nat) [((0 : Nat), AV.s (SV.ro (Con.typ cP ps))), ((1 : Nat), AV.fn (38 : Nat) [AV.ptr (1 : Nat) (0 : Nat)]), ((7 : Nat), AV.s (SV.int IntKind.i64 (↑(List.length ps) : Int))), ((8 : Nat), AV.s (SV.int IntKind.i64 (i + (1 : Int)))), ((21 : Nat), AV.ptr (0 : Nat) (0 : Nat)), ((23 : Nat), AV.ptr (2 : Nat) (0 : Nat)), ((24 : Nat), AV.s (SV.bool false))]) [AObj.own [AV.s (SV.int IntKind.i64 ck), AV.s (SV.int IntKind.i64 nx), AV.s (SV.ro (Con.typ cP ps)), AV.s (SV.ro (Con.typ cI is)), AV.s (SV.ro (Con.typ cC cs)), AV.s (SV.ro (Con.typ cW ws))] (27 : Nat), AObj.own [AV.s (SV.str id)] (9 : Nat), AObj.own [AV.s (SV.str ByteArray.empty), AV.emp, AV.emp, AV.emp] (40 : Nat)] (hd Tryd.f37 (2 : Nat)) (Stk.mk (some (37 : Nat)) false (0 : Nat) [inCall Tryd.f14 none (1 : Nat) (3 : Nat) false (0 : Nat)] (0 : Nat)))))))) (Tree.ret [AObj.own [AV.s (SV.int IntKind.i64 ck), AV.s (SV.int IntKind.i64 nx), AV.s (SV.ro (Con.typ cP ps)), AV.s (SV.ro (Con.typ cI is)), AV.s (SV.ro (Con.typ cC cs)), AV.s (SV.ro (Con.typ cW ws))] (27 : Nat), AObj.own [AV.s (SV.str id)] (9 : Nat), AObj.own [AV.s (SV.str ByteArray.empty), AV.emp, AV.emp, AV.emp] (40 : Nat)] (AV.tup [AV.agg [AV.s (SV.str ByteArray.empty), AV.emp, AV.emp, AV.emp], AV.s (SV.blit false)])) := by kernel_rfl
noncomputable def cCh (a : ByteArray) (vs : List (CL cV)) (ns : List (CL cN)) (fs : List (CL cF)) (l : List Int) (ev : Int) (key k : ByteArray) (j i : Int) : Cfg := ⟨sl 47 [(0, avL l), (1, .fn 81 [.ptr 0 0, .ptr 1 0, .ptr 2 0]), (7, avI (l.length : Int)), (8, avI i), (20, avL l), (23, .ptr 0 0), (25, .ptr 1 0), (30, .ptr 2 0), (33, .agg [.s (.str key), .s (.str ByteArray.empty)]), (34, avI j)], [obPr a vs ns fs, .own [.s (.int .u8 ev)] 5, .own [.s (.str k)] 9], hd Tryd.f74 2, ⟨some fIn2, false, 0, [inCall Tryd.f57 none 4 2 false 0], 0⟩⟩
noncomputable def cNd (b : FuncId) (fn : Func) (r j : Nat) (id : Int) (ns : List (CL cN)) (l : List Int) (i : Int) : Cfg := ⟨sl 33 [(1, .fn b [.ptr 0 0]), (5, .vec 1), (9, .s (.ro (.typ cN ns))), (10, avI (ns.length : Int)), (11, avI i)], [.own [avI id] 3, .vec (.ints .i64 l) 3], hd Tryd.f113 3, ⟨some fNs, false, 0, [inCall fn none r j false 0], 0⟩⟩
theorem loopBo (id : Int) (ns : List (CL cN)) (l : List Int) (i : Int) : run P tab0.sum Tryd.f102 nsBo (cNd 114 Tryd.f102 1 2 id ns l i) inBo =
  Tree.ite (decide (i < (↑ns.length : Int))) (Tree.need ((0 : Int) ≤ i) (Tree.need (i < (↑ns.length : Int)) (Tree.ite (nK (el ns i) == (15 : Int)) (Tree.ite (nO (el ns i) == id) (Tree.need ((l.length + (1 : Nat)) * (8 : Nat) ≤ (140737488355328 : Nat)) (Tree.need (inI64 (i + (1 : Int))) (Tree.at (Cfg.mk (sl (33 : Nat) [((1 : Nat), AV.fn (114 : Nat) [AV.ptr (0 : Nat) (0 : Nat)]), ((5 : Nat), AV.vec (1 : Nat)), ((9 : Nat), AV.s (SV.ro (Con.typ cN ns))), ((10 : Nat), AV.s (SV.int IntKind.i64 (↑ns.length : Int))), ((11 : Nat), AV.s (SV.int IntKind.i64 (i + (1 : Int))))]) [AObj.own [AV.s (SV.int IntKind.i64 id)] (3 : Nat), AObj.vec (Con.ints IntKind.i64 (l ++ [i])) (3 : Nat)] (hd Tryd.f113 (3 : Nat)) (Stk.mk (some (113 : Nat)) false (0 : Nat) [inCall Tryd.f102 none (1 : Nat) (2 : Nat) false (0 : Nat)] (0 : Nat)))))) (Tree.need (inI64 (i + (1 : Int))) (Tree.at (Cfg.mk (sl (33 : Nat) [((1 : Nat), AV.fn (114 : Nat) [AV.ptr (0 : Nat) (0 : Nat)]), ((5 : Nat), AV.vec (1 : Nat)), ((9 : Nat), AV.s (SV.ro (Con.typ cN ns))), ((10 : Nat), AV.s (SV.int IntKind.i64 (↑ns.length : Int))), ((11 : Nat), AV.s (SV.int IntKind.i64 (i + (1 : Int))))]) [AObj.own [AV.s (SV.int IntKind.i64 id)] (3 : Nat), AObj.vec (Con.ints IntKind.i64 l) (3 : Nat)] (hd Tryd.f113 (3 : Nat)) (Stk.mk (some (113 : Nat)) false (0 : Nat) [inCall Tryd.f102 none (1 : Nat) (2 : Nat) false (0 : Nat)] (0 : Nat)))))) (Tree.need (inI64 (i + (1 : Int))) (Tree.at (Cfg.mk (sl (33 : Nat) [((1 : Nat), AV.fn (114 : Nat) [AV.ptr (0 : Nat) (0 : Nat)]), ((5 : Nat), AV.vec (1 : Nat)), ((9 : Nat), AV.s (SV.ro (Con.typ cN ns))), ((10 : Nat), AV.s (SV.int IntKind.i64 (↑ns.length : Int))), ((11 : Nat), AV.s (SV.int IntKind.i64 (i + (1 : Int))))]) [AObj.own [AV.s (SV.int IntKind.i64 id)] (3 : Nat), AObj.vec (Con.ints IntKind.i64 l) (3 : Nat)] (hd Tryd.f113 (3 : Nat)) (Stk.mk (some (113 : Nat)) false (0 : Nat) [inCall Tryd.f102 none (1 : Nat) (2 : Nat) false (0 : Nat)] (0 : Nat)))))))) (Tree.ret [AObj.own [AV.s (SV.int IntKind.i64 id)] (3 : Nat), AObj.vec (Con.ints IntKind.i64 l) (3 : Nat)] (AV.vec (1 : Nat))) := by kernel_rfl
theorem loopAs (id : Int) (ns : List (CL cN)) (l : List Int) (i : Int) : run P tab0.sum Tryd.f103 nsBo (cNd 115 Tryd.f103 1 2 id ns l i) inAs =
  Tree.ite (decide (i < (↑ns.length : Int))) (Tree.need ((0 : Int) ≤ i) (Tree.need (i < (↑ns.length : Int)) (Tree.ite (nK (el ns i) == (13 : Int)) (Tree.ite (nI (el ns i) == id) (Tree.need ((l.length + (1 : Nat)) * (8 : Nat) ≤ (140737488355328 : Nat)) (Tree.need (inI64 (i + (1 : Int))) (Tree.at (Cfg.mk (sl (33 : Nat) [((1 : Nat), AV.fn (115 : Nat) [AV.ptr (0 : Nat) (0 : Nat)]), ((5 : Nat), AV.vec (1 : Nat)), ((9 : Nat), AV.s (SV.ro (Con.typ cN ns))), ((10 : Nat), AV.s (SV.int IntKind.i64 (↑ns.length : Int))), ((11 : Nat), AV.s (SV.int IntKind.i64 (i + (1 : Int))))]) [AObj.own [AV.s (SV.int IntKind.i64 id)] (3 : Nat), AObj.vec (Con.ints IntKind.i64 (l ++ [i])) (3 : Nat)] (hd Tryd.f113 (3 : Nat)) (Stk.mk (some (113 : Nat)) false (0 : Nat) [inCall Tryd.f103 none (1 : Nat) (2 : Nat) false (0 : Nat)] (0 : Nat)))))) (Tree.need (inI64 (i + (1 : Int))) (Tree.at (Cfg.mk (sl (33 : Nat) [((1 : Nat), AV.fn (115 : Nat) [AV.ptr (0 : Nat) (0 : Nat)]), ((5 : Nat), AV.vec (1 : Nat)), ((9 : Nat), AV.s (SV.ro (Con.typ cN ns))), ((10 : Nat), AV.s (SV.int IntKind.i64 (↑ns.length : Int))), ((11 : Nat), AV.s (SV.int IntKind.i64 (i + (1 : Int))))]) [AObj.own [AV.s (SV.int IntKind.i64 id)] (3 : Nat), AObj.vec (Con.ints IntKind.i64 l) (3 : Nat)] (hd Tryd.f113 (3 : Nat)) (Stk.mk (some (113 : Nat)) false (0 : Nat) [inCall Tryd.f103 none (1 : Nat) (2 : Nat) false (0 : Nat)] (0 : Nat)))))) (Tree.need (inI64 (i + (1 : Int))) (Tree.at (Cfg.mk (sl (33 : Nat) [((1 : Nat), AV.fn (115 : Nat) [AV.ptr (0 : Nat) (0 : Nat)]), ((5 : Nat), AV.vec (1 : Nat)), ((9 : Nat), AV.s (SV.ro (Con.typ cN ns))), ((10 : Nat), AV.s (SV.int IntKind.i64 (↑ns.length : Int))), ((11 : Nat), AV.s (SV.int IntKind.i64 (i + (1 : Int))))]) [AObj.own [AV.s (SV.int IntKind.i64 id)] (3 : Nat), AObj.vec (Con.ints IntKind.i64 l) (3 : Nat)] (hd Tryd.f113 (3 : Nat)) (Stk.mk (some (113 : Nat)) false (0 : Nat) [inCall Tryd.f103 none (1 : Nat) (2 : Nat) false (0 : Nat)] (0 : Nat)))))))) (Tree.ret [AObj.own [AV.s (SV.int IntKind.i64 id)] (3 : Nat), AObj.vec (Con.ints IntKind.i64 l) (3 : Nat)] (AV.vec (1 : Nat))) := by kernel_rfl
def nsSo : List (Nat × Norm) := [((fNs + 1) * 100000 + 3, ⟨[(5, .ints .i64 [], 3)], [1, 5, 9, 10, 11], 0, [(1, 9, true, .typ cV [], eV), (1, 10, true, .strs [], 9)]⟩)]
theorem trSo2 (a : ByteArray) (vs : List (CL cV)) (ns : List (CL cN)) (fs : List (CL cF)) (id : Int) : run P tab0.sum Tryd.f104 nsSo (start Tryd.f104 [avPr a vs ns fs, avI id] []) inSo =
  Tree.ite (decide (id < (0 : Int))) (Tree.at (Cfg.mk (sl (45 : Nat) [((1 : Nat), AV.fn (118 : Nat) [AV.ptr (0 : Nat) (0 : Nat), AV.ptr (1 : Nat) (0 : Nat)]), ((5 : Nat), AV.vec (2 : Nat)), ((9 : Nat), AV.s (SV.ro (Con.typ cN ns))), ((10 : Nat), AV.s (SV.int IntKind.i64 (↑ns.length : Int))), ((11 : Nat), AV.s (SV.int IntKind.i64 (0 : Int)))]) [AObj.own [AV.s (SV.int IntKind.i64 id)] (3 : Nat), AObj.own [AV.s (SV.str ByteArray.empty), AV.s (SV.int IntKind.u8 (0 : Int)), AV.s (SV.int IntKind.i64 (0 : Int)), AV.s (SV.int IntKind.i64 (0 : Int)), AV.s (SV.int IntKind.u8 (0 : Int)), AV.s (SV.str ByteArray.empty), AV.s (SV.str ByteArray.empty), AV.s (SV.str ByteArray.empty), AV.s (SV.bool false), AV.s (SV.ro (Con.typ cV [])), AV.s (SV.ro (Con.strs []))] (45 : Nat), AObj.vec (Con.ints IntKind.i64 []) (3 : Nat)] (hd Tryd.f113 (3 : Nat)) (Stk.mk (some (113 : Nat)) false (0 : Nat) [inCall Tryd.f104 none (2 : Nat) (2 : Nat) false (0 : Nat)] (0 : Nat)))) (Tree.ite (decide (id ≥ (↑ns.length : Int))) (Tree.at (Cfg.mk (sl (45 : Nat) [((1 : Nat), AV.fn (118 : Nat) [AV.ptr (0 : Nat) (0 : Nat), AV.ptr (1 : Nat) (0 : Nat)]), ((5 : Nat), AV.vec (2 : Nat)), ((9 : Nat), AV.s (SV.ro (Con.typ cN ns))), ((10 : Nat), AV.s (SV.int IntKind.i64 (↑ns.length : Int))), ((11 : Nat), AV.s (SV.int IntKind.i64 (0 : Int)))]) [AObj.own [AV.s (SV.int IntKind.i64 id)] (3 : Nat), AObj.own [AV.s (SV.str ByteArray.empty), AV.s (SV.int IntKind.u8 (0 : Int)), AV.s (SV.int IntKind.i64 (0 : Int)), AV.s (SV.int IntKind.i64 (0 : Int)), AV.s (SV.int IntKind.u8 (0 : Int)), AV.s (SV.str ByteArray.empty), AV.s (SV.str ByteArray.empty), AV.s (SV.str ByteArray.empty), AV.s (SV.bool false), AV.s (SV.ro (Con.typ cV [])), AV.s (SV.ro (Con.strs []))] (45 : Nat), AObj.vec (Con.ints IntKind.i64 []) (3 : Nat)] (hd Tryd.f113 (3 : Nat)) (Stk.mk (some (113 : Nat)) false (0 : Nat) [inCall Tryd.f104 none (2 : Nat) (2 : Nat) false (0 : Nat)] (0 : Nat)))) (Tree.need ((0 : Int) ≤ id) (Tree.need (id < (↑ns.length : Int)) (Tree.at (Cfg.mk (sl (45 : Nat) [((1 : Nat), AV.fn (118 : Nat) [AV.ptr (0 : Nat) (0 : Nat), AV.ptr (1 : Nat) (0 : Nat)]), ((5 : Nat), AV.vec (2 : Nat)), ((9 : Nat), AV.s (SV.ro (Con.typ cN ns))), ((10 : Nat), AV.s (SV.int IntKind.i64 (↑ns.length : Int))), ((11 : Nat), AV.s (SV.int IntKind.i64 (0 : Int)))]) [AObj.own [AV.s (SV.int IntKind.i64 id)] (3 : Nat), AObj.own [AV.s (SV.str (nN (el ns id))), AV.s (SV.int IntKind.u8 (nK (el ns id))), AV.s (SV.int IntKind.i64 (nI (el ns id))), AV.s (SV.int IntKind.i64 (nO (el ns id))), AV.s (SV.int IntKind.u8 (nE (el ns id))), AV.s (SV.str (nY (el ns id))), AV.s (SV.str (nT (el ns id))), AV.s (SV.str (nS (el ns id))), AV.s (SV.bool (nB (el ns id))), AV.s (SV.ro (Con.typ cV (nV (el ns id)))), AV.s (SV.ro (Con.strs (nZ (el ns id))))] (45 : Nat), AObj.vec (Con.ints IntKind.i64 []) (3 : Nat)] (hd Tryd.f113 (3 : Nat)) (Stk.mk (some (113 : Nat)) false (0 : Nat) [inCall Tryd.f104 none (2 : Nat) (2 : Nat) false (0 : Nat)] (0 : Nat))))))) := by kernel_rfl
noncomputable def cSo (id : Int) (x : CL cN) (ns : List (CL cN)) (l : List Int) (i : Int) : Cfg := ⟨sl 45 [(1, .fn 118 [.ptr 0 0, .ptr 1 0]), (5, .vec 2), (9, .s (.ro (.typ cN ns))), (10, avI (ns.length : Int)), (11, avI i)], [.own [avI id] 3, obNo x, .vec (.ints .i64 l) 3], hd Tryd.f113 3, ⟨some fNs, false, 0, [inCall Tryd.f104 none 2 2 false 0], 0⟩⟩
theorem loopSo (id : Int) (x : CL cN) (ns : List (CL cN)) (l : List Int) (i : Int) : run P tab0.sum Tryd.f104 nsSo (cSo id x ns l i) inSo =
  Tree.ite (decide (i < (↑ns.length : Int)))
  (Tree.need ((0 : Int) ≤ i)
    (Tree.need (i < (↑ns.length : Int))
      (Tree.ite (nK (el ns i) == (1 : Int)) (Tree.ite (nI (el ns i) == id) (Tree.ite (nE (el ns i) == (0 : Int)) (Tree.need ((l.length + (1 : Nat)) * (8 : Nat) ≤ (140737488355328 : Nat)) (Tree.need (inI64 (i + (1 : Int))) (Tree.at (Cfg.mk (sl (45 : Nat) [((1 : Nat), AV.fn (118 : Nat) [AV.ptr (0 : Nat) (0 : Nat), AV.ptr (1 : Nat) (0 : Nat)]), ((5 : Nat), AV.vec (2 : Nat)), ((9 : Nat), AV.s (SV.ro (Con.typ cN ns))), ((10 : Nat), AV.s (SV.int IntKind.i64 (↑ns.length : Int))), ((11 : Nat), AV.s (SV.int IntKind.i64 (i + (1 : Int))))]) [AObj.own [AV.s (SV.int IntKind.i64 id)] (3 : Nat), AObj.own [AV.s (SV.str (nN x)), AV.s (SV.int IntKind.u8 (nK x)), AV.s (SV.int IntKind.i64 (nI x)), AV.s (SV.int IntKind.i64 (nO x)), AV.s (SV.int IntKind.u8 (nE x)), AV.s (SV.str (nY x)), AV.s (SV.str (nT x)), AV.s (SV.str (nS x)), AV.s (SV.bool (nB x)), AV.s (SV.ro (Con.typ cV (nV x))), AV.s (SV.ro (Con.strs (nZ x)))] (45 : Nat), AObj.vec (Con.ints IntKind.i64 (l ++ [i])) (3 : Nat)] (hd Tryd.f113 (3 : Nat)) (Stk.mk (some (113 : Nat)) false (0 : Nat) [inCall Tryd.f104 none (2 : Nat) (2 : Nat) false (0 : Nat)] (0 : Nat)))))) (Tree.ite (nK x == (13 : Int)) (Tree.need ((l.length + (1 : Nat)) * (8 : Nat) ≤ (140737488355328 : Nat)) (Tree.need (inI64 (i + (1 : Int))) (Tree.at (Cfg.mk (sl (45 : Nat) [((1 : Nat), AV.fn (118 : Nat) [AV.ptr (0 : Nat) (0 : Nat), AV.ptr (1 : Nat) (0 : Nat)]), ((5 : Nat), AV.vec (2 : Nat)), ((9 : Nat), AV.s (SV.ro (Con.typ cN ns))), ((10 : Nat), AV.s (SV.int IntKind.i64 (↑ns.length : Int))), ((11 : Nat), AV.s (SV.int IntKind.i64 (i + (1 : Int))))]) [AObj.own [AV.s (SV.int IntKind.i64 id)] (3 : Nat), AObj.own [AV.s (SV.str (nN x)), AV.s (SV.int IntKind.u8 (nK x)), AV.s (SV.int IntKind.i64 (nI x)), AV.s (SV.int IntKind.i64 (nO x)), AV.s (SV.int IntKind.u8 (nE x)), AV.s (SV.str (nY x)), AV.s (SV.str (nT x)), AV.s (SV.str (nS x)), AV.s (SV.bool (nB x)), AV.s (SV.ro (Con.typ cV (nV x))), AV.s (SV.ro (Con.strs (nZ x)))] (45 : Nat), AObj.vec (Con.ints IntKind.i64 (l ++ [i])) (3 : Nat)] (hd Tryd.f113 (3 : Nat)) (Stk.mk (some (113 : Nat)) false (0 : Nat) [inCall Tryd.f104 none (2 : Nat) (2 : Nat) false (0 : Nat)] (0 : Nat)))))) (Tree.need (inI64 (i + (1 : Int))) (Tree.at (Cfg.mk (sl (45 : Nat) [((1 : Nat), AV.fn (118 : Nat) [AV.ptr (0 : Nat) (0 : Nat), AV.ptr (1 : Nat) (0 : Nat)]), ((5 : Nat), AV.vec (2 : Nat)), ((9 : Nat), AV.s (SV.ro (Con.typ cN ns))), ((10 : Nat), AV.s (SV.int IntKind.i64 (↑ns.length : Int))), ((11 : Nat), AV.s (SV.int IntKind.i64 (i + (1 : Int))))]) [AObj.own [AV.s (SV.int IntKind.i64 id)] (3 : Nat), AObj.own [AV.s (SV.str (nN x)), AV.s (SV.int IntKind.u8 (nK x)), AV.s (SV.int IntKind.i64 (nI x)), AV.s (SV.int IntKind.i64 (nO x)), AV.s (SV.int IntKind.u8 (nE x)), AV.s (SV.str (nY x)), AV.s (SV.str (nT x)), AV.s (SV.str (nS x)), AV.s (SV.bool (nB x)), AV.s (SV.ro (Con.typ cV (nV x))), AV.s (SV.ro (Con.strs (nZ x)))] (45 : Nat), AObj.vec (Con.ints IntKind.i64 l) (3 : Nat)] (hd Tryd.f113 (3 : Nat)) (Stk.mk (some (113 : Nat)) false (0 : Nat) [inCall Tryd.f104 none (2 : Nat) (2 : Nat) false (0 : Nat)] (0 : Nat))))))) (Tree.need (inI64 (i + (1 : Int))) (Tree.at (Cfg.mk (sl (45 : Nat) [((1 : Nat), AV.fn (118 : Nat) [AV.ptr (0 : Nat) (0 : Nat), AV.ptr (1 : Nat) (0 : Nat)]), ((5 : Nat), AV.vec (2 : Nat)), ((9 : Nat), AV.s (SV.ro (Con.typ cN ns))), ((10 : Nat), AV.s (SV.int IntKind.i64 (↑ns.length : Int))), ((11 : Nat), AV.s (SV.int IntKind.i64 (i + (1 : Int))))]) [AObj.own [AV.s (SV.int IntKind.i64 id)] (3 : Nat), AObj.own [AV.s (SV.str (nN x)), AV.s (SV.int IntKind.u8 (nK x)), AV.s (SV.int IntKind.i64 (nI x)), AV.s (SV.int IntKind.i64 (nO x)), AV.s (SV.int IntKind.u8 (nE x)), AV.s (SV.str (nY x)), AV.s (SV.str (nT x)), AV.s (SV.str (nS x)), AV.s (SV.bool (nB x)), AV.s (SV.ro (Con.typ cV (nV x))), AV.s (SV.ro (Con.strs (nZ x)))] (45 : Nat), AObj.vec (Con.ints IntKind.i64 l) (3 : Nat)] (hd Tryd.f113 (3 : Nat)) (Stk.mk (some (113 : Nat)) false (0 : Nat) [inCall Tryd.f104 none (2 : Nat) (2 : Nat) false (0 : Nat)] (0 : Nat))))))
        (Tree.need (inI64 (i + (1 : Int))) (Tree.at (Cfg.mk (sl (45 : Nat) [((1 : Nat), AV.fn (118 : Nat) [AV.ptr (0 : Nat) (0 : Nat), AV.ptr (1 : Nat) (0 : Nat)]), ((5 : Nat), AV.vec (2 : Nat)), ((9 : Nat), AV.s (SV.ro (Con.typ cN ns))), ((10 : Nat), AV.s (SV.int IntKind.i64 (↑ns.length : Int))), ((11 : Nat), AV.s (SV.int IntKind.i64 (i + (1 : Int))))]) [AObj.own [AV.s (SV.int IntKind.i64 id)] (3 : Nat), AObj.own [AV.s (SV.str (nN x)), AV.s (SV.int IntKind.u8 (nK x)), AV.s (SV.int IntKind.i64 (nI x)), AV.s (SV.int IntKind.i64 (nO x)), AV.s (SV.int IntKind.u8 (nE x)), AV.s (SV.str (nY x)), AV.s (SV.str (nT x)), AV.s (SV.str (nS x)), AV.s (SV.bool (nB x)), AV.s (SV.ro (Con.typ cV (nV x))), AV.s (SV.ro (Con.strs (nZ x)))] (45 : Nat), AObj.vec (Con.ints IntKind.i64 l) (3 : Nat)] (hd Tryd.f113 (3 : Nat)) (Stk.mk (some (113 : Nat)) false (0 : Nat) [inCall Tryd.f104 none (2 : Nat) (2 : Nat) false (0 : Nat)] (0 : Nat))))))))
  (Tree.ite ((↑l.length : Int) == (0 : Int)) (Tree.ret [AObj.own [AV.s (SV.int IntKind.i64 id)] (3 : Nat), AObj.own [AV.s (SV.str (nN x)), AV.s (SV.int IntKind.u8 (nK x)), AV.s (SV.int IntKind.i64 (nI x)), AV.s (SV.int IntKind.i64 (nO x)), AV.s (SV.int IntKind.u8 (nE x)), AV.s (SV.str (nY x)), AV.s (SV.str (nT x)), AV.s (SV.str (nS x)), AV.s (SV.bool (nB x)), AV.s (SV.ro (Con.typ cV (nV x))), AV.s (SV.ro (Con.strs (nZ x)))] (45 : Nat), AObj.vec (Con.ints IntKind.i64 l) (3 : Nat)] (AV.tup [AV.s (SV.ilit IntKind.i64 (0 : Int)), AV.s (SV.blit false)])) (Tree.need ((0 : Int) ≤ (0 : Int)) (Tree.need ((0 : Int) < (↑l.length : Int)) (Tree.ret [AObj.own [AV.s (SV.int IntKind.i64 id)] (3 : Nat), AObj.own [AV.s (SV.str (nN x)), AV.s (SV.int IntKind.u8 (nK x)), AV.s (SV.int IntKind.i64 (nI x)), AV.s (SV.int IntKind.i64 (nO x)), AV.s (SV.int IntKind.u8 (nE x)), AV.s (SV.str (nY x)), AV.s (SV.str (nT x)), AV.s (SV.str (nS x)), AV.s (SV.bool (nB x)), AV.s (SV.ro (Con.typ cV (nV x))), AV.s (SV.ro (Con.strs (nZ x)))] (45 : Nat), AObj.vec (Con.ints IntKind.i64 l) (3 : Nat)] (AV.tup [AV.s (SV.int IntKind.i64 (l.getD (0 : Nat) (0 : Int))), AV.s (SV.blit true)]))))) := by kernel_rfl
end Ds

namespace Ds
open Go Go.Sx Go.Proofs Lf
abbrev tU8 : Ty := .b (.int .u8)

def pDf (name : ByteArray) (p : CL cP) : Bool := decide (pN p = name)
def defP (ps : Ps) (name : ByteArray) : Int := idxF (pDf name) ps
def hasP (ps : Ps) (name : ByteArray) : Bool := decide (0 ≤ defP ps name)
def whereP (ps : Ps) (name : ByteArray) : Int := if 0 ≤ defP ps name then defP ps name else ps.length
def getP (ps : Ps) (name : ByteArray) : CL cP := el ps (whereP ps name)
def pCh (ns : List (CL cN)) (ev : Int) (k : ByteArray) (n : Int) : Bool := decide (0 ≤ n) && decide (n < (ns.length : Int)) && (nE (el ns n) == ev) && decide (nY (el ns n) = k)
def chooseF (ns : List (CL cN)) (l : List Int) (ev : Int) (key : ByteArray) : Int × Bool :=
  if 0 ≤ idxF (pCh ns ev key) l then (l.getD (idxF (pCh ns ev key) l).toNat 0, true)
  else if 0 ≤ idxF (pCh ns ev ByteArray.empty) l then (l.getD (idxF (pCh ns ev ByteArray.empty) l).toNat 0, true)
  else (0, false)
noncomputable def cChL (a : ByteArray) (vs : List (CL cV)) (ns : List (CL cN)) (fs : List (CL cF)) (l : List Int) (ev : Int) (key k : ByteArray) (j i : Int) : Cfg := ⟨sl 47 [(0, avL l), (1, .fn 81 [.ptr 0 0, .ptr 1 0, .ptr 2 0]), (7, avI (l.length : Int)), (8, avI i), (20, avL l), (23, .ptr 0 0), (25, .ptr 1 0), (30, .ptr 2 0), (33, .agg [.s (.str key), .s (.str ByteArray.empty)]), (34, .s (.ilit .i64 j))], [obPr a vs ns fs, .own [.s (.int .u8 ev)] 5, .own [.s (.str k)] 9], hd Tryd.f74 2, ⟨some fIn2, false, 0, [inCall Tryd.f57 none 4 2 false 0], 0⟩⟩
theorem lopCh (a : ByteArray) (vs : List (CL cV)) (ns : List (CL cN)) (fs : List (CL cF)) (l : List Int) (ev : Int) (key k : ByteArray) (i : Int) : run P tab0.sum Tryd.f57 nsCh (cChL a vs ns fs l ev key k 0 i) inCh =
  Tree.ite (decide (i < (↑l.length : Int)))
  (Tree.need ((0 : Int) ≤ i)
    (Tree.need (i < (↑l.length : Int))
      (Tree.ite (decide (l.getD i.toNat (0 : Int) ≥ (0 : Int)))
        (Tree.ite (decide (l.getD i.toNat (0 : Int) < (↑ns.length : Int))) (Tree.need ((0 : Int) ≤ l.getD i.toNat (0 : Int)) (Tree.need (l.getD i.toNat (0 : Int) < (↑ns.length : Int)) (Tree.ite (nE (el ns (l.getD i.toNat (0 : Int))) == ev) (Tree.need ((0 : Int) ≤ l.getD i.toNat (0 : Int)) (Tree.need (l.getD i.toNat (0 : Int) < (↑ns.length : Int)) (Tree.ite (decide (nY (el ns (l.getD i.toNat (0 : Int))) = k)) (Tree.ite (decide (i ≥ (0 : Int))) (Tree.need ((0 : Int) ≤ i) (Tree.need (i < (↑l.length : Int)) (Tree.ret [AObj.own [AV.s (SV.str a), AV.s (SV.ro (Con.typ cV vs)), AV.s (SV.ro (Con.typ cN ns)), AV.s (SV.ro (Con.typ cF fs))] (40 : Nat), AObj.own [AV.s (SV.int IntKind.u8 ev)] (5 : Nat), AObj.own [AV.s (SV.str k)] (9 : Nat)] (AV.tup [AV.s (SV.int IntKind.i64 (l.getD i.toNat (0 : Int))), AV.s (SV.blit true)])))) (Tree.need ((0 : Int) ≤ (1 : Int)) (Tree.need ((1 : Int) < (↑(2 : Nat) : Int)) (Tree.at (Cfg.mk (sl (47 : Nat) [((0 : Nat), AV.s (SV.ro (Con.ints IntKind.i64 l))), ((1 : Nat), AV.fn (81 : Nat) [AV.ptr (0 : Nat) (0 : Nat), AV.ptr (1 : Nat) (0 : Nat), AV.ptr (2 : Nat) (0 : Nat)]), ((7 : Nat), AV.s (SV.int IntKind.i64 (↑l.length : Int))), ((8 : Nat), AV.s (SV.int IntKind.i64 (0 : Int))), ((20 : Nat), AV.s (SV.ro (Con.ints IntKind.i64 l))), ((23 : Nat), AV.ptr (0 : Nat) (0 : Nat)), ((25 : Nat), AV.ptr (1 : Nat) (0 : Nat)), ((30 : Nat), AV.ptr (2 : Nat) (0 : Nat)), ((33 : Nat), AV.agg [AV.s (SV.str key), AV.s (SV.str ByteArray.empty)]), ((34 : Nat), AV.s (SV.int IntKind.i64 (1 : Int)))]) [AObj.own [AV.s (SV.str a), AV.s (SV.ro (Con.typ cV vs)), AV.s (SV.ro (Con.typ cN ns)), AV.s (SV.ro (Con.typ cF fs))] (40 : Nat), AObj.own [AV.s (SV.int IntKind.u8 ev)] (5 : Nat), AObj.own [AV.s (SV.str ByteArray.empty)] (9 : Nat)] (hd Tryd.f74 (2 : Nat)) (Stk.mk (some (74 : Nat)) false (0 : Nat) [inCall Tryd.f57 none (4 : Nat) (2 : Nat) false (0 : Nat)] (0 : Nat))))))) (Tree.need (inI64 (i + (1 : Int))) (Tree.at (Cfg.mk (sl (47 : Nat) [((0 : Nat), AV.s (SV.ro (Con.ints IntKind.i64 l))), ((1 : Nat), AV.fn (81 : Nat) [AV.ptr (0 : Nat) (0 : Nat), AV.ptr (1 : Nat) (0 : Nat), AV.ptr (2 : Nat) (0 : Nat)]), ((7 : Nat), AV.s (SV.int IntKind.i64 (↑l.length : Int))), ((8 : Nat), AV.s (SV.int IntKind.i64 (i + (1 : Int)))), ((20 : Nat), AV.s (SV.ro (Con.ints IntKind.i64 l))), ((23 : Nat), AV.ptr (0 : Nat) (0 : Nat)), ((25 : Nat), AV.ptr (1 : Nat) (0 : Nat)), ((30 : Nat), AV.ptr (2 : Nat) (0 : Nat)), ((33 : Nat), AV.agg [AV.s (SV.str key), AV.s (SV.str ByteArray.empty)]), ((34 : Nat), AV.s (SV.int IntKind.i64 (0 : Int)))]) [AObj.own [AV.s (SV.str a), AV.s (SV.ro (Con.typ cV vs)), AV.s (SV.ro (Con.typ cN ns)), AV.s (SV.ro (Con.typ cF fs))] (40 : Nat), AObj.own [AV.s (SV.int IntKind.u8 ev)] (5 : Nat), AObj.own [AV.s (SV.str k)] (9 : Nat)] (hd Tryd.f74 (2 : Nat)) (Stk.mk (some (74 : Nat)) false (0 : Nat) [inCall Tryd.f57 none (4 : Nat) (2 : Nat) false (0 : Nat)] (0 : Nat)))))))) (Tree.need (inI64 (i + (1 : Int))) (Tree.at (Cfg.mk (sl (47 : Nat) [((0 : Nat), AV.s (SV.ro (Con.ints IntKind.i64 l))), ((1 : Nat), AV.fn (81 : Nat) [AV.ptr (0 : Nat) (0 : Nat), AV.ptr (1 : Nat) (0 : Nat), AV.ptr (2 : Nat) (0 : Nat)]), ((7 : Nat), AV.s (SV.int IntKind.i64 (↑l.length : Int))), ((8 : Nat), AV.s (SV.int IntKind.i64 (i + (1 : Int)))), ((20 : Nat), AV.s (SV.ro (Con.ints IntKind.i64 l))), ((23 : Nat), AV.ptr (0 : Nat) (0 : Nat)), ((25 : Nat), AV.ptr (1 : Nat) (0 : Nat)), ((30 : Nat), AV.ptr (2 : Nat) (0 : Nat)), ((33 : Nat), AV.agg [AV.s (SV.str key), AV.s (SV.str ByteArray.empty)]), ((34 : Nat), AV.s (SV.int IntKind.i64 (0 : Int)))]) [AObj.own [AV.s (SV.str a), AV.s (SV.ro (Con.typ cV vs)), AV.s (SV.ro (Con.typ cN ns)), AV.s (SV.ro (Con.typ cF fs))] (40 : Nat), AObj.own [AV.s (SV.int IntKind.u8 ev)] (5 : Nat), AObj.own [AV.s (SV.str k)] (9 : Nat)] (hd Tryd.f74 (2 : Nat)) (Stk.mk (some (74 : Nat)) false (0 : Nat) [inCall Tryd.f57 none (4 : Nat) (2 : Nat) false (0 : Nat)] (0 : Nat))))))))
          (Tree.need (inI64 (i + (1 : Int))) (Tree.at (Cfg.mk (sl (47 : Nat) [((0 : Nat), AV.s (SV.ro (Con.ints IntKind.i64 l))), ((1 : Nat), AV.fn (81 : Nat) [AV.ptr (0 : Nat) (0 : Nat), AV.ptr (1 : Nat) (0 : Nat), AV.ptr (2 : Nat) (0 : Nat)]), ((7 : Nat), AV.s (SV.int IntKind.i64 (↑l.length : Int))), ((8 : Nat), AV.s (SV.int IntKind.i64 (i + (1 : Int)))), ((20 : Nat), AV.s (SV.ro (Con.ints IntKind.i64 l))), ((23 : Nat), AV.ptr (0 : Nat) (0 : Nat)), ((25 : Nat), AV.ptr (1 : Nat) (0 : Nat)), ((30 : Nat), AV.ptr (2 : Nat) (0 : Nat)), ((33 : Nat), AV.agg [AV.s (SV.str key), AV.s (SV.str ByteArray.empty)]), ((34 : Nat), AV.s (SV.int IntKind.i64 (0 : Int)))]) [AObj.own [AV.s (SV.str a), AV.s (SV.ro (Con.typ cV vs)), AV.s (SV.ro (Con.typ cN ns)), AV.s (SV.ro (Con.typ cF fs))] (40 : Nat), AObj.own [AV.s (SV.int IntKind.u8 ev)] (5 : Nat), AObj.own [AV.s (SV.str k)] (9 : Nat)] (hd Tryd.f74 (2 : Nat)) (Stk.mk (some (74 : Nat)) false (0 : Nat) [inCall Tryd.f57 none (4 : Nat) (2 : Nat) false (0 : Nat)] (0 : Nat))))))
        (Tree.need (inI64 (i + (1 : Int))) (Tree.at (Cfg.mk (sl (47 : Nat) [((0 : Nat), AV.s (SV.ro (Con.ints IntKind.i64 l))), ((1 : Nat), AV.fn (81 : Nat) [AV.ptr (0 : Nat) (0 : Nat), AV.ptr (1 : Nat) (0 : Nat), AV.ptr (2 : Nat) (0 : Nat)]), ((7 : Nat), AV.s (SV.int IntKind.i64 (↑l.length : Int))), ((8 : Nat), AV.s (SV.int IntKind.i64 (i + (1 : Int)))), ((20 : Nat), AV.s (SV.ro (Con.ints IntKind.i64 l))), ((23 : Nat), AV.ptr (0 : Nat) (0 : Nat)), ((25 : Nat), AV.ptr (1 : Nat) (0 : Nat)), ((30 : Nat), AV.ptr (2 : Nat) (0 : Nat)), ((33 : Nat), AV.agg [AV.s (SV.str key), AV.s (SV.str ByteArray.empty)]), ((34 : Nat), AV.s (SV.int IntKind.i64 (0 : Int)))]) [AObj.own [AV.s (SV.str a), AV.s (SV.ro (Con.typ cV vs)), AV.s (SV.ro (Con.typ cN ns)), AV.s (SV.ro (Con.typ cF fs))] (40 : Nat), AObj.own [AV.s (SV.int IntKind.u8 ev)] (5 : Nat), AObj.own [AV.s (SV.str k)] (9 : Nat)] (hd Tryd.f74 (2 : Nat)) (Stk.mk (some (74 : Nat)) false (0 : Nat) [inCall Tryd.f57 none (4 : Nat) (2 : Nat) false (0 : Nat)] (0 : Nat))))))))
  (Tree.need ((0 : Int) ≤ (1 : Int)) (Tree.need ((1 : Int) < (↑(2 : Nat) : Int)) (Tree.at (Cfg.mk (sl (47 : Nat) [((0 : Nat), AV.s (SV.ro (Con.ints IntKind.i64 l))), ((1 : Nat), AV.fn (81 : Nat) [AV.ptr (0 : Nat) (0 : Nat), AV.ptr (1 : Nat) (0 : Nat), AV.ptr (2 : Nat) (0 : Nat)]), ((7 : Nat), AV.s (SV.int IntKind.i64 (↑l.length : Int))), ((8 : Nat), AV.s (SV.int IntKind.i64 (0 : Int))), ((20 : Nat), AV.s (SV.ro (Con.ints IntKind.i64 l))), ((23 : Nat), AV.ptr (0 : Nat) (0 : Nat)), ((25 : Nat), AV.ptr (1 : Nat) (0 : Nat)), ((30 : Nat), AV.ptr (2 : Nat) (0 : Nat)), ((33 : Nat), AV.agg [AV.s (SV.str key), AV.s (SV.str ByteArray.empty)]), ((34 : Nat), AV.s (SV.int IntKind.i64 (1 : Int)))]) [AObj.own [AV.s (SV.str a), AV.s (SV.ro (Con.typ cV vs)), AV.s (SV.ro (Con.typ cN ns)), AV.s (SV.ro (Con.typ cF fs))] (40 : Nat), AObj.own [AV.s (SV.int IntKind.u8 ev)] (5 : Nat), AObj.own [AV.s (SV.str ByteArray.empty)] (9 : Nat)] (hd Tryd.f74 (2 : Nat)) (Stk.mk (some (74 : Nat)) false (0 : Nat) [inCall Tryd.f57 none (4 : Nat) (2 : Nat) false (0 : Nat)] (0 : Nat)))))) := by kernel_rfl
theorem lopCh1 (a : ByteArray) (vs : List (CL cV)) (ns : List (CL cN)) (fs : List (CL cF)) (l : List Int) (ev : Int) (key k : ByteArray) (i : Int) : run P tab0.sum Tryd.f57 nsCh (cChL a vs ns fs l ev key k 1 i) inCh =
  Tree.ite (decide (i < (↑l.length : Int)))
  (Tree.need ((0 : Int) ≤ i)
    (Tree.need (i < (↑l.length : Int))
      (Tree.ite (decide (l.getD i.toNat (0 : Int) ≥ (0 : Int)))
        (Tree.ite (decide (l.getD i.toNat (0 : Int) < (↑ns.length : Int))) (Tree.need ((0 : Int) ≤ l.getD i.toNat (0 : Int)) (Tree.need (l.getD i.toNat (0 : Int) < (↑ns.length : Int)) (Tree.ite (nE (el ns (l.getD i.toNat (0 : Int))) == ev) (Tree.need ((0 : Int) ≤ l.getD i.toNat (0 : Int)) (Tree.need (l.getD i.toNat (0 : Int) < (↑ns.length : Int)) (Tree.ite (decide (nY (el ns (l.getD i.toNat (0 : Int))) = k)) (Tree.ite (decide (i ≥ (0 : Int))) (Tree.need ((0 : Int) ≤ i) (Tree.need (i < (↑l.length : Int)) (Tree.ret [AObj.own [AV.s (SV.str a), AV.s (SV.ro (Con.typ cV vs)), AV.s (SV.ro (Con.typ cN ns)), AV.s (SV.ro (Con.typ cF fs))] (40 : Nat), AObj.own [AV.s (SV.int IntKind.u8 ev)] (5 : Nat), AObj.own [AV.s (SV.str k)] (9 : Nat)] (AV.tup [AV.s (SV.int IntKind.i64 (l.getD i.toNat (0 : Int))), AV.s (SV.blit true)])))) (Tree.ret [AObj.own [AV.s (SV.str a), AV.s (SV.ro (Con.typ cV vs)), AV.s (SV.ro (Con.typ cN ns)), AV.s (SV.ro (Con.typ cF fs))] (40 : Nat), AObj.own [AV.s (SV.int IntKind.u8 ev)] (5 : Nat), AObj.own [AV.s (SV.str k)] (9 : Nat)] (AV.tup [AV.s (SV.ilit IntKind.i64 (0 : Int)), AV.s (SV.blit false)]))) (Tree.need (inI64 (i + (1 : Int))) (Tree.at (Cfg.mk (sl (47 : Nat) [((0 : Nat), AV.s (SV.ro (Con.ints IntKind.i64 l))), ((1 : Nat), AV.fn (81 : Nat) [AV.ptr (0 : Nat) (0 : Nat), AV.ptr (1 : Nat) (0 : Nat), AV.ptr (2 : Nat) (0 : Nat)]), ((7 : Nat), AV.s (SV.int IntKind.i64 (↑l.length : Int))), ((8 : Nat), AV.s (SV.int IntKind.i64 (i + (1 : Int)))), ((20 : Nat), AV.s (SV.ro (Con.ints IntKind.i64 l))), ((23 : Nat), AV.ptr (0 : Nat) (0 : Nat)), ((25 : Nat), AV.ptr (1 : Nat) (0 : Nat)), ((30 : Nat), AV.ptr (2 : Nat) (0 : Nat)), ((33 : Nat), AV.agg [AV.s (SV.str key), AV.s (SV.str ByteArray.empty)]), ((34 : Nat), AV.s (SV.int IntKind.i64 (1 : Int)))]) [AObj.own [AV.s (SV.str a), AV.s (SV.ro (Con.typ cV vs)), AV.s (SV.ro (Con.typ cN ns)), AV.s (SV.ro (Con.typ cF fs))] (40 : Nat), AObj.own [AV.s (SV.int IntKind.u8 ev)] (5 : Nat), AObj.own [AV.s (SV.str k)] (9 : Nat)] (hd Tryd.f74 (2 : Nat)) (Stk.mk (some (74 : Nat)) false (0 : Nat) [inCall Tryd.f57 none (4 : Nat) (2 : Nat) false (0 : Nat)] (0 : Nat)))))))) (Tree.need (inI64 (i + (1 : Int))) (Tree.at (Cfg.mk (sl (47 : Nat) [((0 : Nat), AV.s (SV.ro (Con.ints IntKind.i64 l))), ((1 : Nat), AV.fn (81 : Nat) [AV.ptr (0 : Nat) (0 : Nat), AV.ptr (1 : Nat) (0 : Nat), AV.ptr (2 : Nat) (0 : Nat)]), ((7 : Nat), AV.s (SV.int IntKind.i64 (↑l.length : Int))), ((8 : Nat), AV.s (SV.int IntKind.i64 (i + (1 : Int)))), ((20 : Nat), AV.s (SV.ro (Con.ints IntKind.i64 l))), ((23 : Nat), AV.ptr (0 : Nat) (0 : Nat)), ((25 : Nat), AV.ptr (1 : Nat) (0 : Nat)), ((30 : Nat), AV.ptr (2 : Nat) (0 : Nat)), ((33 : Nat), AV.agg [AV.s (SV.str key), AV.s (SV.str ByteArray.empty)]), ((34 : Nat), AV.s (SV.int IntKind.i64 (1 : Int)))]) [AObj.own [AV.s (SV.str a), AV.s (SV.ro (Con.typ cV vs)), AV.s (SV.ro (Con.typ cN ns)), AV.s (SV.ro (Con.typ cF fs))] (40 : Nat), AObj.own [AV.s (SV.int IntKind.u8 ev)] (5 : Nat), AObj.own [AV.s (SV.str k)] (9 : Nat)] (hd Tryd.f74 (2 : Nat)) (Stk.mk (some (74 : Nat)) false (0 : Nat) [inCall Tryd.f57 none (4 : Nat) (2 : Nat) false (0 : Nat)] (0 : Nat))))))))
          (Tree.need (inI64 (i + (1 : Int))) (Tree.at (Cfg.mk (sl (47 : Nat) [((0 : Nat), AV.s (SV.ro (Con.ints IntKind.i64 l))), ((1 : Nat), AV.fn (81 : Nat) [AV.ptr (0 : Nat) (0 : Nat), AV.ptr (1 : Nat) (0 : Nat), AV.ptr (2 : Nat) (0 : Nat)]), ((7 : Nat), AV.s (SV.int IntKind.i64 (↑l.length : Int))), ((8 : Nat), AV.s (SV.int IntKind.i64 (i + (1 : Int)))), ((20 : Nat), AV.s (SV.ro (Con.ints IntKind.i64 l))), ((23 : Nat), AV.ptr (0 : Nat) (0 : Nat)), ((25 : Nat), AV.ptr (1 : Nat) (0 : Nat)), ((30 : Nat), AV.ptr (2 : Nat) (0 : Nat)), ((33 : Nat), AV.agg [AV.s (SV.str key), AV.s (SV.str ByteArray.empty)]), ((34 : Nat), AV.s (SV.int IntKind.i64 (1 : Int)))]) [AObj.own [AV.s (SV.str a), AV.s (SV.ro (Con.typ cV vs)), AV.s (SV.ro (Con.typ cN ns)), AV.s (SV.ro (Con.typ cF fs))] (40 : Nat), AObj.own [AV.s (SV.int IntKind.u8 ev)] (5 : Nat), AObj.own [AV.s (SV.str k)] (9 : Nat)] (hd Tryd.f74 (2 : Nat)) (Stk.mk (some (74 : Nat)) false (0 : Nat) [inCall Tryd.f57 none (4 : Nat) (2 : Nat) false (0 : Nat)] (0 : Nat))))))
        (Tree.need (inI64 (i + (1 : Int))) (Tree.at (Cfg.mk (sl (47 : Nat) [((0 : Nat), AV.s (SV.ro (Con.ints IntKind.i64 l))), ((1 : Nat), AV.fn (81 : Nat) [AV.ptr (0 : Nat) (0 : Nat), AV.ptr (1 : Nat) (0 : Nat), AV.ptr (2 : Nat) (0 : Nat)]), ((7 : Nat), AV.s (SV.int IntKind.i64 (↑l.length : Int))), ((8 : Nat), AV.s (SV.int IntKind.i64 (i + (1 : Int)))), ((20 : Nat), AV.s (SV.ro (Con.ints IntKind.i64 l))), ((23 : Nat), AV.ptr (0 : Nat) (0 : Nat)), ((25 : Nat), AV.ptr (1 : Nat) (0 : Nat)), ((30 : Nat), AV.ptr (2 : Nat) (0 : Nat)), ((33 : Nat), AV.agg [AV.s (SV.str key), AV.s (SV.str ByteArray.empty)]), ((34 : Nat), AV.s (SV.int IntKind.i64 (1 : Int)))]) [AObj.own [AV.s (SV.str a), AV.s (SV.ro (Con.typ cV vs)), AV.s (SV.ro (Con.typ cN ns)), AV.s (SV.ro (Con.typ cF fs))] (40 : Nat), AObj.own [AV.s (SV.int IntKind.u8 ev)] (5 : Nat), AObj.own [AV.s (SV.str k)] (9 : Nat)] (hd Tryd.f74 (2 : Nat)) (Stk.mk (some (74 : Nat)) false (0 : Nat) [inCall Tryd.f57 none (4 : Nat) (2 : Nat) false (0 : Nat)] (0 : Nat))))))))
  (Tree.ret [AObj.own [AV.s (SV.str a), AV.s (SV.ro (Con.typ cV vs)), AV.s (SV.ro (Con.typ cN ns)), AV.s (SV.ro (Con.typ cF fs))] (40 : Nat), AObj.own [AV.s (SV.int IntKind.u8 ev)] (5 : Nat), AObj.own [AV.s (SV.str k)] (9 : Nat)] (AV.tup [AV.s (SV.ilit IntKind.i64 (0 : Int)), AV.s (SV.blit false)])) := by kernel_rfl
theorem df_end {ps : Ps} {name : ByteArray} (h : defP ps name = -1) : getP ps name = CL.d cP ∧ hasP ps name = false := by
  refine ⟨?_, by unfold hasP; rw [h]; rfl⟩
  show el ps (whereP ps name) = _
  unfold whereP
  rw [if_neg (by omega)]
  show ps.getD (ps.length : Int).toNat (CL.d cP) = _
  simp [List.getD]
theorem def_ok {Z : Glob} : FnOk P Z 14 [tSt, tStr] [tPrr, tBool] (fun _ => []) (fun ((_, _, ps, _, _, _, ()), name, ()) => ((pN (getP ps name), pV (getP ps name), pO (getP ps name), pF (getP ps name), ()), hasP ps name, ())) := by
  refine fnOk_of_safe Tryd.func14 (by kernel_rfl) (by kernel_rfl) ?_
  rintro ⟨⟨(ck : Int), (nx : Int), (ps : Ps), (is : Is), (cs : Cs), (ws : Ws), ⟨⟩⟩, (name : ByteArray), ⟨⟩⟩ ⟨⟨_, _, (hl : ps.length ≤ maxLen), _⟩, _⟩ _ X hX hz
  have hl2 : ps.length ≤ 9223372036854775807 := by unfold maxLen at hl; omega
  show Safe P 14 X (Ends [tPrr, tBool] ((pN (getP ps name), pV (getP ps name), pO (getP ps name), pF (getP ps name), ()), hasP ps name, ())) _
  have loop : ∀ (j k : Nat), k + j = ps.length → (∀ i (hi : i < k) (h2 : i < ps.length), pDf name ps[i] = false) → Safe P 14 X (Ends [tPrr, tBool] ((pN (getP ps name), pV (getP ps name), pO (getP ps name), pF (getP ps name), ()), hasP ps name, ())) (cDf ck nx ps is cs ws name (k : Int)) := by
    intro j
    induction j with
    | zero =>
      intro k hk hi
      have e : defP ps name = -1 := idxF_none fun j hj => hi j (by omega) hj
      obtain ⟨e1, e2⟩ := df_end e
      refine go hz hX Tab.Ok.nil Tryd.func14 (loopDf ck nx ps is cs ws name k) ⟨fun h => absurd (of_decide_eq_true h) (by omega), fun _ => ?_⟩
      rw [e1, e2]; exact ends_eq _ rfl (by kernel_rfl)
    | succ j ih =>
      intro k hk hi
      have hlt : k < ps.length := by omega
      refine go hz hX Tab.Ok.nil Tryd.func14 (loopDf ck nx ps is cs ws name k) (yes_and (decide_eq_true (by omega)) ⟨by omega, by omega, ?_⟩)
      have next := fun h : pDf name ps[k] = false => ih (k + 1) (by omega) fun i h1 h2 => by
        by_cases e : i = k
        · subst e; exact h
        · exact hi i (by omega) h2
      have fin := fun h : pDf name ps[k] = true => idxF_at (p := pDf name) hlt h fun j hj => hi j hj (by omega)
      cases hp : pDf name ps[k] with
      | true =>
        have e : defP ps name = (k : Int) := fin hp
        have e1 : getP ps name = el ps (k : Int) := by
          show el ps (whereP ps name) = _
          unfold whereP
          rw [if_pos (by omega), e]
        have e2 : hasP ps name = true := by unfold hasP; rw [decide_eq_true (by omega)]
        have hp' : pN (el ps (k : Int)) = name := by rw [el_lt hlt]; exact of_decide_eq_true hp
        refine yes_and (decide_eq_true hp') (no_and (decide_eq_false (by omega)) ⟨by omega, by omega, ?_⟩)
        rw [e1, e2]
        generalize el ps (k : Int) = x
        exact ends_eq _ rfl (by kernel_rfl)
      | false =>
        have hp' : ¬ pN (el ps (k : Int)) = name := by rw [el_lt hlt]; exact of_decide_eq_false hp
        exact no_and (decide_eq_false hp') ⟨⟨by omega, by omega⟩, next hp⟩
  exact go hz hX Tab.Ok.nil Tryd.func14 (trDf ck nx ps is cs ws name) (loop ps.length 0 (by omega) fun i hi => absurd hi (Nat.not_lt_zero _))
theorem pCh_iff {ns : List (CL cN)} {ev : Int} {k : ByteArray} {n : Int} : pCh ns ev k n = true ↔ 0 ≤ n ∧ n < (ns.length : Int) ∧ nE (el ns n) = ev ∧ nY (el ns n) = k := by
  unfold pCh
  rw [Bool.and_eq_true, Bool.and_eq_true, Bool.and_eq_true, decide_eq_true_iff, decide_eq_true_iff, decide_eq_true_iff, beq_iff_eq, and_assoc, and_assoc]
theorem pCh_no {ns : List (CL cN)} {ev : Int} {k : ByteArray} {n : Int} (h : ¬ (0 ≤ n ∧ n < (ns.length : Int) ∧ nE (el ns n) = ev ∧ nY (el ns n) = k)) : pCh ns ev k n = false := by
  cases hb : pCh ns ev k n with
  | false => rfl
  | true => exact absurd (pCh_iff.1 hb) h
theorem choose_ok {Z : Glob} : FnOk P Z 57 [tPr, tNs, tU8, tStr] [tInt, tBool] (fun _ => []) (fun ((_, _, ns, _, ()), l, ev, key, ()) => ((chooseF ns l ev key).1, (chooseF ns l ev key).2, ())) := by
  refine fnOk_of_safe Tryd.func57 (by kernel_rfl) (by kernel_rfl) ?_
  rintro ⟨⟨(a : ByteArray), (vs : List (CL cV)), (ns : List (CL cN)), (fs : List (CL cF)), ⟨⟩⟩, (l : List Int), (ev : Int), (key : ByteArray), ⟨⟩⟩ ⟨_, (hl : l.length ≤ maxLen), _⟩ _ X hX hz
  have hl2 : l.length ≤ 9223372036854775807 := by unfold maxLen at hl; omega
  show Safe P 57 X (Ends [tInt, tBool] ((chooseF ns l ev key).1, (chooseF ns l ev key).2, ())) _
  have loop1 : idxF (pCh ns ev key) l = -1 → ∀ (j i : Nat), i + j = l.length → (∀ k (hk : k < i) (h2 : k < l.length), pCh ns ev ByteArray.empty l[k] = false) → Safe P 57 X (Ends [tInt, tBool] ((chooseF ns l ev key).1, (chooseF ns l ev key).2, ())) (cCh a vs ns fs l ev key ByteArray.empty 1 (i : Int)) := by
    intro hno j
    induction j with
    | zero =>
      intro i hi hn
      have e : idxF (pCh ns ev ByteArray.empty) l = -1 := idxF_none fun j hj => hn j (by omega) hj
      have e2 : chooseF ns l ev key = (0, false) := by unfold chooseF; rw [if_neg (by omega), if_neg (by omega)]
      refine slot_lit_safe (t := 34) (k := .i64) (n := 1) rfl ?_
      refine go hz hX Tab.Ok.nil Tryd.func57 (lopCh1 a vs ns fs l ev key _ i) (no_and (decide_eq_false (by omega)) ?_)
      rw [e2]; exact ends_eq _ rfl (by kernel_rfl)
    | succ j ih =>
      intro i hi hn
      have hlt : i < l.length := by omega
      refine slot_lit_safe (t := 34) (k := .i64) (n := 1) rfl ?_
      refine go hz hX Tab.Ok.nil Tryd.func57 (lopCh1 a vs ns fs l ev key _ i) (yes_and (decide_eq_true (by omega)) ⟨by omega, by omega, ?_⟩)
      have next := fun h : pCh ns ev ByteArray.empty l[i] = false => ih (i + 1) (by omega) fun k h1 h2 => by
        by_cases e : k = i
        · subst e; exact h
        · exact hn k (by omega) h2
      have fin := fun h : pCh ns ev ByteArray.empty l[i] = true => idxF_at (p := pCh ns ev ByteArray.empty) hlt h fun j hj => hn j hj (by omega)
      rw [Int.toNat_natCast, getD_lt hlt]
      generalize hx : l[i] = x at *
      repeat' (with_reducible (first | refine h_eq ?_ | refine h_need ?_ ?_ | refine h_dec (fun _ => ?_) (fun _ => ?_) | refine h_beq (fun _ => ?_) (fun _ => ?_) | refine h_bne (fun _ => ?_) (fun _ => ?_) | refine h_tt ?_ | refine h_ff ?_ | refine h_not ?_ | refine h_ite (fun _ => ?_) (fun _ => ?_) | refine h_both (fun _ => ?_) (fun _ => ?_) | refine h_ret ?_ | refine h_at ?_))
      all_goals first | omega | exact ⟨by omega, by omega⟩ | exact next (pCh_no fun h => by obtain ⟨h1, h2, h3, h4⟩ := h; first | omega | contradiction) | skip
      all_goals
        have e : idxF (pCh ns ev ByteArray.empty) l = (i : Int) := fin (pCh_iff.2 ⟨by omega, by omega, by assumption, by assumption⟩)
        have e2 : chooseF ns l ev key = (x, true) := by unfold chooseF; rw [if_neg (by omega), if_pos (by omega), e, Int.toNat_natCast, getD_lt hlt, hx]
        rw [e2]; exact ends_eq _ rfl (by kernel_rfl)
  have loop0 : ∀ (j i : Nat), i + j = l.length → (∀ k (hk : k < i) (h2 : k < l.length), pCh ns ev key l[k] = false) → Safe P 57 X (Ends [tInt, tBool] ((chooseF ns l ev key).1, (chooseF ns l ev key).2, ())) (cCh a vs ns fs l ev key key 0 (i : Int)) := by
    intro j
    induction j with
    | zero =>
      intro i hi hn
      have e : idxF (pCh ns ev key) l = -1 := idxF_none fun j hj => hn j (by omega) hj
      refine slot_lit_safe (t := 34) (k := .i64) (n := 0) rfl ?_
      exact go hz hX Tab.Ok.nil Tryd.func57 (lopCh a vs ns fs l ev key _ i) (no_and (decide_eq_false (by omega)) ⟨by omega, by omega, loop1 e l.length 0 (by omega) (fun k hk => absurd hk (Nat.not_lt_zero _))⟩)
    | succ j ih =>
      intro i hi hn
      have hlt : i < l.length := by omega
      refine slot_lit_safe (t := 34) (k := .i64) (n := 0) rfl ?_
      refine go hz hX Tab.Ok.nil Tryd.func57 (lopCh a vs ns fs l ev key _ i) (yes_and (decide_eq_true (by omega)) ⟨by omega, by omega, ?_⟩)
      have next := fun h : pCh ns ev key l[i] = false => ih (i + 1) (by omega) fun k h1 h2 => by
        by_cases e : k = i
        · subst e; exact h
        · exact hn k (by omega) h2
      have fin := fun h : pCh ns ev key l[i] = true => idxF_at (p := pCh ns ev key) hlt h fun j hj => hn j hj (by omega)
      rw [Int.toNat_natCast, getD_lt hlt]
      generalize hx : l[i] = x at *
      repeat' (with_reducible (first | refine h_eq ?_ | refine h_need ?_ ?_ | refine h_dec (fun _ => ?_) (fun _ => ?_) | refine h_beq (fun _ => ?_) (fun _ => ?_) | refine h_bne (fun _ => ?_) (fun _ => ?_) | refine h_tt ?_ | refine h_ff ?_ | refine h_not ?_ | refine h_ite (fun _ => ?_) (fun _ => ?_) | refine h_both (fun _ => ?_) (fun _ => ?_) | refine h_ret ?_ | refine h_at ?_))
      all_goals first | omega | exact ⟨by omega, by omega⟩ | exact next (pCh_no fun h => by obtain ⟨h1, h2, h3, h4⟩ := h; first | omega | contradiction) | skip
      all_goals
        have e : idxF (pCh ns ev key) l = (i : Int) := fin (pCh_iff.2 ⟨by omega, by omega, by assumption, by assumption⟩)
        have e2 : chooseF ns l ev key = (x, true) := by unfold chooseF; rw [if_pos (by omega), e, Int.toNat_natCast, getD_lt hlt, hx]
        rw [e2]; exact ends_eq _ rfl (by kernel_rfl)
  refine go hz hX Tab.Ok.nil Tryd.func57 (trCh a vs ns fs l ev key) ⟨by omega, by omega, ?_⟩
  exact loop0 l.length 0 (by omega) (fun k hk => absurd hk (Nat.not_lt_zero _))
end Ds

namespace Ds
open Go Go.Sx Go.Proofs Lf
/-! Activity: does a row have a byte -/
abbrev tBs : Ty := .b (.row (.ints .u8) 5)
abbrev avU (n : Int) : AV := .s (.int .u8 n)
abbrev avLu (l : List Int) : AV := .s (.ro (.ints .u8 l))
abbrev fIj8 : FuncId := 82
abbrev inH8 : List FuncId := [fIj8]
def nsH8 : List (Nat × Norm) := [((fIj8 + 1) * 100000 + 2, ⟨[], [0, 1, 7, 8], 0, []⟩)]
theorem trH8 (l : List Int) (x : Int) : run P tab0.sum Tryd.f58 nsH8 (start Tryd.f58 [avLu l, avU x] []) inH8 =
  Tree.at (Cfg.mk (sl (28 : Nat) [((0 : Nat), AV.s (SV.ro (Con.ints IntKind.u8 l))), ((1 : Nat), AV.s (SV.int IntKind.u8 x)), ((7 : Nat), AV.s (SV.int IntKind.i64 (↑l.length : Int))), ((8 : Nat), AV.s (SV.int IntKind.i64 (0 : Int)))]) [] (hd Tryd.f82 (2 : Nat)) (Stk.mk (some (82 : Nat)) false (0 : Nat) [inCall Tryd.f58 none (1 : Nat) (2 : Nat) false (0 : Nat)] (0 : Nat))) := by kernel_rfl
noncomputable def cH8 (l : List Int) (x i : Int) : Cfg := ⟨sl 28 [(0, avLu l), (1, avU x), (7, avI (l.length : Int)), (8, avI i)], [], hd Tryd.f82 2, ⟨some fIj8, false, 0, [inCall Tryd.f58 none 1 2 false 0], 0⟩⟩
theorem loopH8 (l : List Int) (x i : Int) : run P tab0.sum Tryd.f58 nsH8 (cH8 l x i) inH8 =
  Tree.ite (decide (i < (↑l.length : Int))) (Tree.need ((0 : Int) ≤ i) (Tree.need (i < (↑l.length : Int)) (Tree.ite (x == l.getD i.toNat (0 : Int)) (Tree.ret [] (AV.s (SV.bool (decide (i ≥ (0 : Int)))))) (Tree.need (inI64 (i + (1 : Int))) (Tree.at (Cfg.mk (sl (28 : Nat) [((0 : Nat), AV.s (SV.ro (Con.ints IntKind.u8 l))), ((1 : Nat), AV.s (SV.int IntKind.u8 x)), ((7 : Nat), AV.s (SV.int IntKind.i64 (↑l.length : Int))), ((8 : Nat), AV.s (SV.int IntKind.i64 (i + (1 : Int))))]) [] (hd Tryd.f82 (2 : Nat)) (Stk.mk (some (82 : Nat)) false (0 : Nat) [inCall Tryd.f58 none (1 : Nat) (2 : Nat) false (0 : Nat)] (0 : Nat)))))))) (Tree.ret [] (AV.s (SV.blit false))) := by kernel_rfl
abbrev sumH8 := sumOf [tBs, tU8] [tBool] (fun _ => []) (fun (l, x, ()) => ((l : List Int).contains x, ()))
def tabAc : Tab := [(58, sumH8)]
theorem trAc (x : Int) : run P tabAc.sum Tryd.f28 [] (start Tryd.f28 [avU x] []) =
  Tree.ret [AObj.vec (Con.ints IntKind.u8 [(3 : Int), (11 : Int), (12 : Int), (14 : Int)]) (5 : Nat)] (AV.s (SV.bool ([(3 : Int), (11 : Int), (12 : Int), (14 : Int)].contains x))) := by kernel_rfl
def actF (k : Int) : Bool := [(3 : Int), 11, 12, 14].contains k
/-! NodeOf, bounds, asides -/
abbrev sumDf := sumR [tSt, tStr] [tPrr, tBool] (fun _ => []) (fun ((_, _, ps, _, _, _, ()), name, ()) => ((pN (getP ps name), pV (getP ps name), pO (getP ps name), pF (getP ps name), ()), hasP ps name, ()))
def tabNo : Tab := [(14, sumDf)]
theorem trNo (ck nx : Int) (ps : Ps) (is : Is) (cs : Cs) (ws : Ws) (x : CL cI) : run P tabNo.sum Tryd.f61 [] (start Tryd.f61 [avSt ck nx ps is cs ws, avIt x] []) =
  Tree.ite (!hasP ps (iP x)) (Tree.ret [AObj.own [AV.s (SV.int IntKind.i64 ck), AV.s (SV.int IntKind.i64 nx), AV.s (SV.ro (Con.typ cP ps)), AV.s (SV.ro (Con.typ cI is)), AV.s (SV.ro (Con.typ cC cs)), AV.s (SV.ro (Con.typ cW ws))] (27 : Nat), AObj.own [AV.s (SV.int IntKind.i64 (iI x)), AV.s (SV.int IntKind.i64 (iU x)), AV.s (SV.int IntKind.u8 (iS x)), AV.s (SV.str (iP x)), AV.s (SV.int IntKind.i64 (iN x)), AV.s (SV.int IntKind.i64 (iF x)), AV.s (SV.int IntKind.u8 (iW x)), AV.s (SV.str (iC x))] (31 : Nat), AObj.own [AV.s (SV.str ByteArray.empty), AV.s (SV.ilit IntKind.u8 (0 : Int)), AV.s (SV.ilit IntKind.i64 (0 : Int)), AV.s (SV.ilit IntKind.i64 (0 : Int)), AV.s (SV.ilit IntKind.u8 (0 : Int)), AV.s (SV.str ByteArray.empty), AV.s (SV.str ByteArray.empty), AV.s (SV.str ByteArray.empty), AV.s (SV.blit false), AV.emp, AV.emp] (45 : Nat), AObj.own [AV.s (SV.str (pN (getP ps (iP x)))), AV.s (SV.ro (Con.typ cV (pV (getP ps (iP x))))), AV.s (SV.ro (Con.typ cN (pO (getP ps (iP x))))), AV.s (SV.ro (Con.typ cF (pF (getP ps (iP x)))))] (40 : Nat)] (AV.tup [AV.agg [AV.s (SV.str ByteArray.empty), AV.s (SV.ilit IntKind.u8 (0 : Int)), AV.s (SV.ilit IntKind.i64 (0 : Int)), AV.s (SV.ilit IntKind.i64 (0 : Int)), AV.s (SV.ilit IntKind.u8 (0 : Int)), AV.s (SV.str ByteArray.empty), AV.s (SV.str ByteArray.empty), AV.s (SV.str ByteArray.empty), AV.s (SV.blit false), AV.emp, AV.emp], AV.s (SV.blit false)]))
  (Tree.ite (decide (iN x < (0 : Int))) (Tree.ret [AObj.own [AV.s (SV.int IntKind.i64 ck), AV.s (SV.int IntKind.i64 nx), AV.s (SV.ro (Con.typ cP ps)), AV.s (SV.ro (Con.typ cI is)), AV.s (SV.ro (Con.typ cC cs)), AV.s (SV.ro (Con.typ cW ws))] (27 : Nat), AObj.own [AV.s (SV.int IntKind.i64 (iI x)), AV.s (SV.int IntKind.i64 (iU x)), AV.s (SV.int IntKind.u8 (iS x)), AV.s (SV.str (iP x)), AV.s (SV.int IntKind.i64 (iN x)), AV.s (SV.int IntKind.i64 (iF x)), AV.s (SV.int IntKind.u8 (iW x)), AV.s (SV.str (iC x))] (31 : Nat), AObj.own [AV.s (SV.str ByteArray.empty), AV.s (SV.ilit IntKind.u8 (0 : Int)), AV.s (SV.ilit IntKind.i64 (0 : Int)), AV.s (SV.ilit IntKind.i64 (0 : Int)), AV.s (SV.ilit IntKind.u8 (0 : Int)), AV.s (SV.str ByteArray.empty), AV.s (SV.str ByteArray.empty), AV.s (SV.str ByteArray.empty), AV.s (SV.blit false), AV.emp, AV.emp] (45 : Nat), AObj.own [AV.s (SV.str (pN (getP ps (iP x)))), AV.s (SV.ro (Con.typ cV (pV (getP ps (iP x))))), AV.s (SV.ro (Con.typ cN (pO (getP ps (iP x))))), AV.s (SV.ro (Con.typ cF (pF (getP ps (iP x)))))] (40 : Nat)] (AV.tup [AV.agg [AV.s (SV.str ByteArray.empty), AV.s (SV.ilit IntKind.u8 (0 : Int)), AV.s (SV.ilit IntKind.i64 (0 : Int)), AV.s (SV.ilit IntKind.i64 (0 : Int)), AV.s (SV.ilit IntKind.u8 (0 : Int)), AV.s (SV.str ByteArray.empty), AV.s (SV.str ByteArray.empty), AV.s (SV.str ByteArray.empty), AV.s (SV.blit false), AV.emp, AV.emp], AV.s (SV.blit false)]))
    (Tree.ite (decide (iN x ≥ (↑(pO (getP ps (iP x))).length : Int))) (Tree.ret [AObj.own [AV.s (SV.int IntKind.i64 ck), AV.s (SV.int IntKind.i64 nx), AV.s (SV.ro (Con.typ cP ps)), AV.s (SV.ro (Con.typ cI is)), AV.s (SV.ro (Con.typ cC cs)), AV.s (SV.ro (Con.typ cW ws))] (27 : Nat), AObj.own [AV.s (SV.int IntKind.i64 (iI x)), AV.s (SV.int IntKind.i64 (iU x)), AV.s (SV.int IntKind.u8 (iS x)), AV.s (SV.str (iP x)), AV.s (SV.int IntKind.i64 (iN x)), AV.s (SV.int IntKind.i64 (iF x)), AV.s (SV.int IntKind.u8 (iW x)), AV.s (SV.str (iC x))] (31 : Nat), AObj.own [AV.s (SV.str ByteArray.empty), AV.s (SV.ilit IntKind.u8 (0 : Int)), AV.s (SV.ilit IntKind.i64 (0 : Int)), AV.s (SV.ilit IntKind.i64 (0 : Int)), AV.s (SV.ilit IntKind.u8 (0 : Int)), AV.s (SV.str ByteArray.empty), AV.s (SV.str ByteArray.empty), AV.s (SV.str ByteArray.empty), AV.s (SV.blit false), AV.emp, AV.emp] (45 : Nat), AObj.own [AV.s (SV.str (pN (getP ps (iP x)))), AV.s (SV.ro (Con.typ cV (pV (getP ps (iP x))))), AV.s (SV.ro (Con.typ cN (pO (getP ps (iP x))))), AV.s (SV.ro (Con.typ cF (pF (getP ps (iP x)))))] (40 : Nat)] (AV.tup [AV.agg [AV.s (SV.str ByteArray.empty), AV.s (SV.ilit IntKind.u8 (0 : Int)), AV.s (SV.ilit IntKind.i64 (0 : Int)), AV.s (SV.ilit IntKind.i64 (0 : Int)), AV.s (SV.ilit IntKind.u8 (0 : Int)), AV.s (SV.str ByteArray.empty), AV.s (SV.str ByteArray.empty), AV.s (SV.str ByteArray.empty), AV.s (SV.blit false), AV.emp, AV.emp], AV.s (SV.blit false)])) (Tree.need ((0 : Int) ≤ iN x) (Tree.need (iN x < (↑(pO (getP ps (iP x))).length : Int)) (Tree.ret [AObj.own [AV.s (SV.int IntKind.i64 ck), AV.s (SV.int IntKind.i64 nx), AV.s (SV.ro (Con.typ cP ps)), AV.s (SV.ro (Con.typ cI is)), AV.s (SV.ro (Con.typ cC cs)), AV.s (SV.ro (Con.typ cW ws))] (27 : Nat), AObj.own [AV.s (SV.int IntKind.i64 (iI x)), AV.s (SV.int IntKind.i64 (iU x)), AV.s (SV.int IntKind.u8 (iS x)), AV.s (SV.str (iP x)), AV.s (SV.int IntKind.i64 (iN x)), AV.s (SV.int IntKind.i64 (iF x)), AV.s (SV.int IntKind.u8 (iW x)), AV.s (SV.str (iC x))] (31 : Nat), AObj.own [AV.s (SV.str (nN (el (pO (getP ps (iP x))) (iN x)))), AV.s (SV.int IntKind.u8 (nK (el (pO (getP ps (iP x))) (iN x)))), AV.s (SV.int IntKind.i64 (nI (el (pO (getP ps (iP x))) (iN x)))), AV.s (SV.int IntKind.i64 (nO (el (pO (getP ps (iP x))) (iN x)))), AV.s (SV.int IntKind.u8 (nE (el (pO (getP ps (iP x))) (iN x)))), AV.s (SV.str (nY (el (pO (getP ps (iP x))) (iN x)))), AV.s (SV.str (nT (el (pO (getP ps (iP x))) (iN x)))), AV.s (SV.str (nS (el (pO (getP ps (iP x))) (iN x)))), AV.s (SV.bool (nB (el (pO (getP ps (iP x))) (iN x)))), AV.s (SV.ro (Con.typ cV (nV (el (pO (getP ps (iP x))) (iN x))))), AV.s (SV.ro (Con.strs (nZ (el (pO (getP ps (iP x))) (iN x)))))] (45 : Nat), AObj.own [AV.s (SV.str (pN (getP ps (iP x)))), AV.s (SV.ro (Con.typ cV (pV (getP ps (iP x))))), AV.s (SV.ro (Con.typ cN (pO (getP ps (iP x))))), AV.s (SV.ro (Con.typ cF (pF (getP ps (iP x)))))] (40 : Nat)] (AV.tup [AV.agg [AV.s (SV.str (nN (el (pO (getP ps (iP x))) (iN x)))), AV.s (SV.int IntKind.u8 (nK (el (pO (getP ps (iP x))) (iN x)))), AV.s (SV.int IntKind.i64 (nI (el (pO (getP ps (iP x))) (iN x)))), AV.s (SV.int IntKind.i64 (nO (el (pO (getP ps (iP x))) (iN x)))), AV.s (SV.int IntKind.u8 (nE (el (pO (getP ps (iP x))) (iN x)))), AV.s (SV.str (nY (el (pO (getP ps (iP x))) (iN x)))), AV.s (SV.str (nT (el (pO (getP ps (iP x))) (iN x)))), AV.s (SV.str (nS (el (pO (getP ps (iP x))) (iN x)))), AV.s (SV.bool (nB (el (pO (getP ps (iP x))) (iN x)))), AV.s (SV.ro (Con.typ cV (nV (el (pO (getP ps (iP x))) (iN x))))), AV.s (SV.ro (Con.strs (nZ (el (pO (getP ps (iP x))) (iN x)))))], AV.s (SV.blit true)])))))) := by kernel_rfl
def idxsF {α : Type} (p : α → Bool) : List α → Int → List Int
  | [], _ => []
  | x :: l, i => (if p x then [i] else []) ++ idxsF p l (i + 1)
def nodeAt (ns : List (CL cN)) (n : Int) : CL cN := if 0 ≤ n ∧ n < (ns.length : Int) then el ns n else CL.d cN
def pBo (n : Int) (x : CL cN) : Bool := (nK x == 15) && (nO x == n)
def pAs (n : Int) (x : CL cN) : Bool := (nK x == 13) && (nI x == n)
def pSo (n : Int) (sc : CL cN) (x : CL cN) : Bool := (nK x == 1) && (nI x == n) && ((nE x == 0) || (nK sc == 13))
def boundsF (ns : List (CL cN)) (n : Int) : List Int := idxsF (pBo n) ns 0
def asidesF (ns : List (CL cN)) (n : Int) : List Int := idxsF (pAs n) ns 0
def startsF (ns : List (CL cN)) (n : Int) : List Int := idxsF (pSo n (nodeAt ns n)) ns 0
def startF (ns : List (CL cN)) (n : Int) : Int := (startsF ns n).getD 0 0
def hasSt (ns : List (CL cN)) (n : Int) : Bool := decide (0 < (startsF ns n).length)
theorem h8_ok {Z : Glob} : FnOk P Z 58 [tBs, tU8] [tBool] (fun _ => []) (fun (l, x, ()) => ((l : List Int).contains x, ())) := by
  refine fnOk_of_safe Tryd.func58 (by kernel_rfl) (by kernel_rfl) ?_
  rintro ⟨(l : List Int), (x : Int), ⟨⟩⟩ ⟨(hl : l.length ≤ maxLen), _⟩ _ X hX hz
  have hl2 : l.length ≤ 9223372036854775807 := by unfold maxLen at hl; omega
  show Safe P 58 X (Ends [tBool] (l.contains x, ())) _
  have loop : ∀ (j k : Nat), k + j = l.length → (∀ i (hi : i < k) (h2 : i < l.length), l[i] ≠ x) → Safe P 58 X (Ends [tBool] (l.contains x, ())) (cH8 l x (k : Int)) := by
    intro j
    induction j with
    | zero =>
      intro k hk hi
      have e : l.contains x = false := by
        rw [List.contains_eq_mem, decide_eq_false_iff_not]
        intro h
        obtain ⟨i, h1, h2⟩ := List.mem_iff_getElem.1 h
        exact hi i (by omega) h1 h2
      refine go hz hX Tab.Ok.nil Tryd.func58 (loopH8 l x k) ⟨fun h => absurd (of_decide_eq_true h) (by omega), fun _ => ?_⟩
      rw [e]; exact ends_eq _ rfl (by kernel_rfl)
    | succ j ih =>
      intro k hk hi
      have hlt : k < l.length := by omega
      refine go hz hX Tab.Ok.nil Tryd.func58 (loopH8 l x k) ?_
      rw [Int.toNat_natCast, getD_lt hlt]
      have next := fun h : l[k] ≠ x => ih (k + 1) (by omega) fun i h1 h2 => by
        by_cases e : i = k
        · subst e; exact h
        · exact hi i (by omega) h2
      have hit : x = l[k] → l.contains x = true := fun h => by rw [List.contains_eq_mem, decide_eq_true_iff, h]; exact List.getElem_mem hlt
      repeat' (with_reducible (first | refine h_eq ?_ | refine h_need ?_ ?_ | refine h_dec (fun _ => ?_) (fun _ => ?_) | refine h_beq (fun _ => ?_) (fun _ => ?_) | refine h_bne (fun _ => ?_) (fun _ => ?_) | refine h_tt ?_ | refine h_ff ?_ | refine h_not ?_ | refine h_ite (fun _ => ?_) (fun _ => ?_) | refine h_both (fun _ => ?_) (fun _ => ?_) | refine h_ret ?_ | refine h_at ?_))
      all_goals first | omega | exact ⟨by omega, by omega⟩ | skip
      · rename_i h
        have e1 : decide ((k : Int) ≥ 0) = true := decide_eq_true (by omega)
        rw [hit (by simpa using h), e1]; exact ends_eq _ rfl (by kernel_rfl)
      · rename_i h; exact next (fun e => by simp [e] at h)
  refine go hz hX Tab.Ok.nil Tryd.func58 (trH8 l x) ?_
  exact loop l.length 0 (by omega) fun i hi => absurd hi (Nat.not_lt_zero _)
theorem tabAc_ok {Z : Glob} : tabAc.Ok P Z := Tab.Ok.cons h8_ok.sum Tab.Ok.nil
theorem act_ok {Z : Glob} : FnOk P Z 28 [tU8] [tBool] (fun _ => []) (fun (k, ()) => (actF k, ())) := by
  refine fnOk_of_safe Tryd.func28 (by kernel_rfl) (by kernel_rfl) ?_
  rintro ⟨(k : Int), ⟨⟩⟩ _ _ X hX hz
  show Safe P 28 X (Ends [tBool] (actF k, ())) _
  refine go hz hX tabAc_ok Tryd.func28 (trAc k) ?_
  exact ends_eq _ rfl (by kernel_rfl)
theorem idxs_snoc {α : Type} {p : α → Bool} : ∀ (l : List α) (x : α) (i : Int), idxsF p (l ++ [x]) i = idxsF p l i ++ (if p x then [i + l.length] else [])
  | [], x, i => by simp [idxsF]
  | y :: l, x, i => by
    simp only [List.cons_append, idxsF, idxs_snoc l x (i + 1), List.append_assoc, List.length_cons]
    congr 2
    split
    · congr 1; push_cast; omega
    · rfl
theorem idxs_len {α : Type} {p : α → Bool} : ∀ (l : List α) (i : Int), (idxsF p l i).length ≤ l.length
  | [], i => Nat.le_refl _
  | y :: l, i => by
    have := idxs_len (p := p) l (i + 1)
    simp only [idxsF, List.length_append, List.length_cons]
    split <;> simp <;> omega
theorem idxs_take {cs : List CK} {p : CL cs → Bool} {l : List (CL cs)} {k : Nat} (h : k < l.length) : idxsF p (l.take (k + 1)) 0 = idxsF p (l.take k) 0 ++ (if p l[k] then [(k : Int)] else []) := by
  rw [List.take_add_one, List.getElem?_eq_getElem h, Option.toList_some, idxs_snoc, List.length_take, Nat.min_eq_left (by omega), Int.zero_add]
theorem idxs_tlen {cs : List CK} {p : CL cs → Bool} {l : List (CL cs)} {k : Nat} : (idxsF p (l.take k) 0).length ≤ k := Nat.le_trans (idxs_len _ _) (by rw [List.length_take]; omega)
theorem bo_ok {Z : Glob} : FnOk P Z 102 [tPr, tInt] [tNs] (fun ((_, _, ns, _, ()), _, ()) => [(ns : List (CL cN)).length ≤ 1000000]) (fun ((_, _, ns, _, ()), n, ()) => (boundsF ns n, ())) := by
  refine fnOk_of_safe Tryd.func102 (by kernel_rfl) (by kernel_rfl) ?_
  rintro ⟨⟨(a : ByteArray), (vs : List (CL cV)), (ns : List (CL cN)), (fs : List (CL cF)), ⟨⟩⟩, (n : Int), ⟨⟩⟩ _ ⟨(hl : ns.length ≤ 1000000), _⟩ X hX hz
  show Safe P 102 X (Ends [tNs] (boundsF ns n, ())) _
  have loop : ∀ (j k : Nat), k + j = ns.length → Safe P 102 X (Ends [tNs] (boundsF ns n, ())) (cNd 114 Tryd.f102 1 2 n ns (idxsF (pBo n) (ns.take k) 0) (k : Int)) := by
    intro j
    induction j with
    | zero =>
      intro k hk
      rw [List.take_of_length_le (by omega)]
      exact go hz hX Tab.Ok.nil Tryd.func102 (loopBo n ns _ k) (no_and (decide_eq_false (by omega)) (ends_eq _ rfl (by kernel_rfl)))
    | succ j ih =>
      intro k hk
      have hlt : k < ns.length := by omega
      have next := ih (k + 1) (by omega)
      rw [idxs_take hlt] at next
      have htl := idxs_tlen (p := pBo n) (l := ns) (k := k)
      refine go hz hX Tab.Ok.nil Tryd.func102 (loopBo n ns _ k) (yes_and (decide_eq_true (by omega)) ⟨by omega, by omega, ?_⟩)
      rw [el_lt hlt]
      generalize idxsF (pBo n) (ns.take k) 0 = acc at *
      cases h1 : nK ns[k] == 15 with
      | false =>
        have e : pBo n ns[k] = false := by unfold pBo; rw [h1]; rfl
        rw [e, if_neg (by simp), List.append_nil] at next
        exact no_and rfl ⟨⟨by omega, by omega⟩, next⟩
      | true =>
        refine yes_and rfl ?_
        cases h2 : nO ns[k] == n with
        | false =>
          have e : pBo n ns[k] = false := by unfold pBo; rw [h1, h2]; rfl
          rw [e, if_neg (by simp), List.append_nil] at next
          exact no_and rfl ⟨⟨by omega, by omega⟩, next⟩
        | true =>
          have e : pBo n ns[k] = true := by unfold pBo; rw [h1, h2]; rfl
          rw [e, if_pos rfl] at next
          exact yes_and rfl ⟨by omega, ⟨by omega, by omega⟩, next⟩
  exact go hz hX Tab.Ok.nil Tryd.func102 (trBo a vs ns fs n) (loop ns.length 0 (by omega))
theorem as_ok {Z : Glob} : FnOk P Z 103 [tPr, tInt] [tNs] (fun ((_, _, ns, _, ()), _, ()) => [(ns : List (CL cN)).length ≤ 1000000]) (fun ((_, _, ns, _, ()), n, ()) => (asidesF ns n, ())) := by
  refine fnOk_of_safe Tryd.func103 (by kernel_rfl) (by kernel_rfl) ?_
  rintro ⟨⟨(a : ByteArray), (vs : List (CL cV)), (ns : List (CL cN)), (fs : List (CL cF)), ⟨⟩⟩, (n : Int), ⟨⟩⟩ _ ⟨(hl : ns.length ≤ 1000000), _⟩ X hX hz
  show Safe P 103 X (Ends [tNs] (asidesF ns n, ())) _
  have loop : ∀ (j k : Nat), k + j = ns.length → Safe P 103 X (Ends [tNs] (asidesF ns n, ())) (cNd 115 Tryd.f103 1 2 n ns (idxsF (pAs n) (ns.take k) 0) (k : Int)) := by
    intro j
    induction j with
    | zero =>
      intro k hk
      rw [List.take_of_length_le (by omega)]
      exact go hz hX Tab.Ok.nil Tryd.func103 (loopAs n ns _ k) (no_and (decide_eq_false (by omega)) (ends_eq _ rfl (by kernel_rfl)))
    | succ j ih =>
      intro k hk
      have hlt : k < ns.length := by omega
      have next := ih (k + 1) (by omega)
      rw [idxs_take hlt] at next
      have htl := idxs_tlen (p := pAs n) (l := ns) (k := k)
      refine go hz hX Tab.Ok.nil Tryd.func103 (loopAs n ns _ k) (yes_and (decide_eq_true (by omega)) ⟨by omega, by omega, ?_⟩)
      rw [el_lt hlt]
      generalize idxsF (pAs n) (ns.take k) 0 = acc at *
      cases h1 : nK ns[k] == 13 with
      | false =>
        have e : pAs n ns[k] = false := by unfold pAs; rw [h1]; rfl
        rw [e, if_neg (by simp), List.append_nil] at next
        exact no_and rfl ⟨⟨by omega, by omega⟩, next⟩
      | true =>
        refine yes_and rfl ?_
        cases h2 : nI ns[k] == n with
        | false =>
          have e : pAs n ns[k] = false := by unfold pAs; rw [h1, h2]; rfl
          rw [e, if_neg (by simp), List.append_nil] at next
          exact no_and rfl ⟨⟨by omega, by omega⟩, next⟩
        | true =>
          have e : pAs n ns[k] = true := by unfold pAs; rw [h1, h2]; rfl
          rw [e, if_pos rfl] at next
          exact yes_and rfl ⟨by omega, ⟨by omega, by omega⟩, next⟩
  exact go hz hX Tab.Ok.nil Tryd.func103 (trAs a vs ns fs n) (loop ns.length 0 (by omega))
theorem so_ok {Z : Glob} : FnOk P Z 104 [tPr, tInt] [tInt, tBool] (fun ((_, _, ns, _, ()), _, ()) => [(ns : List (CL cN)).length ≤ 1000000]) (fun ((_, _, ns, _, ()), n, ()) => (startF ns n, hasSt ns n, ())) := by
  refine fnOk_of_safe Tryd.func104 (by kernel_rfl) (by kernel_rfl) ?_
  rintro ⟨⟨(a : ByteArray), (vs : List (CL cV)), (ns : List (CL cN)), (fs : List (CL cF)), ⟨⟩⟩, (n : Int), ⟨⟩⟩ _ ⟨(hl : ns.length ≤ 1000000), _⟩ X hX hz
  show Safe P 104 X (Ends [tInt, tBool] (startF ns n, hasSt ns n, ())) _
  have loop : ∀ (j k : Nat), k + j = ns.length → Safe P 104 X (Ends [tInt, tBool] (startF ns n, hasSt ns n, ())) (cSo n (nodeAt ns n) ns (idxsF (pSo n (nodeAt ns n)) (ns.take k) 0) (k : Int)) := by
    intro j
    induction j with
    | zero =>
      intro k hk
      rw [List.take_of_length_le (by omega)]
      refine go hz hX Tab.Ok.nil Tryd.func104 (loopSo n (nodeAt ns n) ns _ k) (no_and (decide_eq_false (by omega)) ?_)
      show Tree.Holds (Ends [tInt, tBool] ((startsF ns n).getD 0 0, decide (0 < (startsF ns n).length), ())) _ _
      rw [show idxsF (pSo n (nodeAt ns n)) ns 0 = startsF ns n from rfl]
      generalize startsF ns n = l
      generalize nodeAt ns n = x
      cases l with
      | nil => exact yes_and rfl (ends_eq _ rfl (by kernel_rfl))
      | cons y l =>
        refine no_and ?_ ⟨by omega, by simp only [List.length_cons]; omega, ?_⟩
        · rw [beq_eq_false_iff_ne, List.length_cons]; omega
        · rw [decide_eq_true (show 0 < (y :: l).length by simp)]
          exact ends_eq _ rfl (by kernel_rfl)
    | succ j ih =>
      intro k hk
      have hlt : k < ns.length := by omega
      have next := ih (k + 1) (by omega)
      rw [idxs_take hlt] at next
      have htl := idxs_tlen (p := pSo n (nodeAt ns n)) (l := ns) (k := k)
      refine go hz hX Tab.Ok.nil Tryd.func104 (loopSo n (nodeAt ns n) ns _ k) (yes_and (decide_eq_true (by omega)) ⟨by omega, by omega, ?_⟩)
      rw [el_lt hlt]
      generalize idxsF (pSo n (nodeAt ns n)) (ns.take k) 0 = acc at *
      have no : pSo n (nodeAt ns n) ns[k] = false → Safe P 104 X (Ends [tInt, tBool] (startF ns n, hasSt ns n, ())) (cSo n (nodeAt ns n) ns acc ((k + 1 : Nat) : Int)) := fun e => by
        rw [e, if_neg (by simp), List.append_nil] at next; exact next
      have yes : pSo n (nodeAt ns n) ns[k] = true → Safe P 104 X (Ends [tInt, tBool] (startF ns n, hasSt ns n, ())) (cSo n (nodeAt ns n) ns (acc ++ [(k : Int)]) ((k + 1 : Nat) : Int)) := fun e => by
        rw [e, if_pos rfl] at next; exact next
      clear next
      generalize nodeAt ns n = sc at *
      cases h1 : nK ns[k] == 1 with
      | false => exact no_and rfl ⟨⟨by omega, by omega⟩, no (by unfold pSo; rw [h1]; rfl)⟩
      | true =>
        refine yes_and rfl ?_
        cases h2 : nI ns[k] == n with
        | false => exact no_and rfl ⟨⟨by omega, by omega⟩, no (by unfold pSo; rw [h1, h2]; rfl)⟩
        | true =>
          refine yes_and rfl ?_
          cases h3 : nE ns[k] == 0 with
          | true => exact yes_and rfl ⟨by omega, ⟨by omega, by omega⟩, yes (by unfold pSo; rw [h1, h2, h3]; rfl)⟩
          | false =>
            refine no_and rfl ?_
            cases h4 : nK sc == 13 with
            | true => exact yes_and rfl ⟨by omega, ⟨by omega, by omega⟩, yes (by unfold pSo; rw [h1, h2, h3, h4]; rfl)⟩
            | false => exact no_and rfl ⟨⟨by omega, by omega⟩, no (by unfold pSo; rw [h1, h2, h3, h4]; rfl)⟩
  have first := loop ns.length 0 (by omega)
  refine go hz hX Tab.Ok.nil Tryd.func104 (trSo2 a vs ns fs n) ⟨fun h => ?_, fun h => ⟨fun h2 => ?_, fun h2 => ⟨by have := of_decide_eq_false h; omega, by have := of_decide_eq_false h2; omega, ?_⟩⟩⟩
  · have e : nodeAt ns n = CL.d cN := by unfold nodeAt; rw [if_neg (by have := of_decide_eq_true h; omega)]
    rw [e] at first
    exact first
  · have e : nodeAt ns n = CL.d cN := by unfold nodeAt; rw [if_neg (by have := of_decide_eq_true h2; omega)]
    rw [e] at first
    exact first
  · have e : nodeAt ns n = el ns n := by unfold nodeAt; rw [if_pos (by have := of_decide_eq_false h; have := of_decide_eq_false h2; omega)]
    rw [e] at first
    exact first
end Ds
