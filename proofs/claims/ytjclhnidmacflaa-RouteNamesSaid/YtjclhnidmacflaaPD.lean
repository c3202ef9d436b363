/- Lemmas: SxFnR, SxLoop, SxWrap, SxDen, SxCut, Hd, SxSpec, SxAuto, Lb, SxRange, D0, SxFrz, A0, B0, D3, SxRoom, SxLit, A1, A2, A3, B1, A4, A5, A6, A7, A8, A9, Q1, Q2, Q3, Q4, Q5, Q6, Q7, Q8, Q9, Q10. -/
import Derived.ProofKit
import Derived.Carry
import Derived.OpenShut
import Derived.Deep.DeepHandedRow
import Derived.JoinedOf
import Derived.Test.YtjclhnidmacflaaRows
import Derived.LaidMore
import Derived.Stop.Joined
import Derived.Lib.Bytealg
import Derived.Maps.RangeRun
import Derived.Test.YtjclhnidmacflaaProg
import Derived.Lib.Walk
import Derived.WalkKit
import Derived.Laws.Externs
import Derived.Test.YtjclhnidmacflaaPC

/-! Functions that may hand out rows they were handed: what they are handed stands still from then on. -/
namespace Go.Sx
open Go

def frzP1 (a : AV) (ids : List Nat) (k : AV → List Nat → RM Res) : RM Res :=
  match a with
  | .vec id => .look id fun
    | some (.vec c _) => k (.s (.ro c)) (id :: ids)
    | _ => .fail "frz"
  | a => k a ids

def frzPL : List AV → List Nat → (List AV → List Nat → RM Res) → RM Res
  | [], ids, k => k [] ids
  | a :: azs, ids, k => frzP1 a ids fun a' ids => frzPL azs ids fun azs' ids => k (a' :: azs') ids

def frzPV (a : AV) (ids : List Nat) (k : AV → List Nat → RM Res) : RM Res :=
  match a with
  | .agg segs => frzPL segs ids fun s ids => k (.agg s) ids
  | a => frzP1 a ids k

def frzPA : List AV → List Nat → (List AV → List Nat → RM Res) → RM Res
  | [], ids, k => k [] ids
  | a :: azs, ids, k => frzPV a ids fun a' ids => frzPA azs ids fun azs' ids => k (a' :: azs') ids

/-- The summary of a contract whose answers may share memory with what it was handed. -/
def sumR (ts rs : List Ty) (pre : AL ts → List Prop) (F : AL ts → AL rs) : Nat → List AV → RM Res := fun _ args =>
  frzPA args [] fun args ids => match allM (rn (fun _ => none) 20) args with
    | some args => (match AL.rd ts args with
      | some x => bif rs.all Ty.flatR then .ret ⟨pre x, ids.map fun i => (i, .dead), (AL.res rs (F x)).1, fun base => oneOf (AL.out base rs (F x)).1⟩ else .fail "sum: not flat"
      | none => .fail "sum: arguments")
    | none => .fail "sum: names"

section
variable {ρ ρ' : Nat → Value} {H H' : AHeap} {G O O' : Nat → Prop} {w w' : World} {P : Program} {Z : Glob}

/-- What is frozen on the way. -/
structure Frzn (ρ : Nat → Value) (H : AHeap) (G : Nat → Prop) (ids ids' : List Nat) : Prop where
  sub : ∀ i ∈ ids, i ∈ ids'
  vec : ∀ i ∈ ids', i ∈ ids ∨ ∃ c e, H i = some (.vec c e)

abbrev Colder (ρ : Nat → Value) (H : AHeap) (G : Nat → Prop) (ids : List Nat) (O : Nat → Prop) : Prop := (∀ b, O b → Hot ρ H G b) ∧ ∀ i ∈ ids, ∀ b, blk (ρ i) = some b → ¬ O b

theorem Frzn.trans {a b c : List Nat} (h : Frzn ρ H G a b) (k : Frzn ρ H G b c) : Frzn ρ H G a c :=
  ⟨fun i hi => k.sub i (h.sub i hi), fun i hi => (k.vec i hi).elim (fun h1 => h.vec i h1) .inr⟩

theorem frzP1_ok {a : AV} {ids : List Nat} {k : AV → List Nat → RM Res} {q : Res} (h : (frzP1 a ids k).eval H = some q) (hs : Sat ρ H G w) :
    ∃ a' ids', (k a' ids').eval H = some q ∧ Frzn ρ H G ids ids' ∧ ∀ O, Colder ρ H G ids' O → (∀ v, DenV ρ H (Hot ρ H G) w a v → DenV ρ H O w a' v) ∧ (∀ cs, DenC ρ H (Hot ρ H G) w a cs → DenC ρ H O w a' cs) := by
  have stp : ∀ O, Colder ρ H G ids O → Step ρ H (Hot ρ H G) w ρ H O w := fun O hO => ⟨fun _ _ _ => rfl, fun _ o h => ⟨o, h, fun c' e' e => ⟨c', e', e, rfl, rfl⟩⟩, fun b hb => .inl (hO.1 b hb), fun _ _ _ => rfl, Nat.le_refl _⟩
  unfold frzP1 at h
  split at h
  · rename_i id
    simp only [RM.eval] at h
    split at h
    · rename_i c e hc
      obtain ⟨r, cap, h0, h1, h2, h3⟩ := hs.obj id _ hc
      refine ⟨_, _, h, ⟨fun i hi => by simp [hi], fun i hi => ?_⟩, fun O hO => ?_⟩
      · rcases List.mem_cons.1 hi with rfl | hi
        · exact .inr ⟨c, e, hc⟩
        · exact .inl hi
      · have key : ∀ v, Den1 ρ H (Hot ρ H G) w (.vec id) v → DenS O w (.ro c) v := by
          intro v hv
          unfold Den1 at hv
          obtain ⟨_, o, ho, h4⟩ := hv
          rw [hc] at ho
          cases ho
          rw [h4 c e rfl]
          have hcold := hO.2 id (by simp)
          rw [h0] at hcold ⊢
          rcases h3 with h3 | ⟨b, f, cells, fr, us, rfl, h5, h6, h7, h8⟩
          · exact .ro c r cap (fun _ _ => undef) 0 0 h1 h2 (fun h => by omega) (fun i j hi hj => by omega) (fun i j hi hj => by omega)
          · by_cases hcap : cap = 0
            · exact .ro c _ cap (fun _ _ => undef) 0 0 h1 h2 (fun h => by omega) (fun i j hi hj => by omega) (fun i j hi hj => by omega)
            · refine .ro c _ cap us b f h1 h2 (fun _ => ⟨rfl, hcold b (by simp [blk, hcap]), (Array.getElem?_eq_some_iff.1 h5).1⟩) (fun i j hi hj => ?_) (fun i j hi hj => (h8 i j hi hj).2.less hO.1)
              have := (h8 i j hi hj).1
              simp only [World.cell?, h5]
              simpa using this
        exact ⟨fun v hv => DenV_s (key v (by unfold DenV at hv; exact hv)), fun cs hv => by unfold DenC at *; obtain ⟨u, rfl, h9⟩ := hv; exact ⟨u, rfl, key u h9⟩⟩
    · simp [RM.eval] at h
  · exact ⟨_, _, h, ⟨fun i hi => hi, fun i hi => .inl hi⟩, fun O hO => ⟨fun v hv => DenV.step (stp O hO) _ v hv, fun cs hv => DenC.step (stp O hO) _ cs hv⟩⟩

theorem Colder.sub {a b : List Nat} (h : ∀ i ∈ a, i ∈ b) (k : Colder ρ H G b O) : Colder ρ H G a O := ⟨k.1, fun i hi => k.2 i (h i hi)⟩

theorem frzPL_ok : ∀ {azs : List AV} {ids : List Nat} {k : List AV → List Nat → RM Res} {q : Res}, (frzPL azs ids k).eval H = some q → Sat ρ H G w →
    ∃ azs' ids', (k azs' ids').eval H = some q ∧ Frzn ρ H G ids ids' ∧ ∀ O, Colder ρ H G ids' O → ∀ cs, DenSegs ρ H (Hot ρ H G) w azs cs → DenSegs ρ H O w azs' cs
  | [], ids, k, q, h, hs => ⟨[], ids, h, ⟨fun _ h => h, fun _ h => .inl h⟩, fun O _ cs hd => by rw [DenSegs_nil.1 hd]; exact DenSegs_nil.2 rfl⟩
  | a :: azs, ids, k, q, h, hs => by
    obtain ⟨a', i1, h1, f1, h2⟩ := frzP1_ok h hs
    obtain ⟨azs', i2, h3, f2, h4⟩ := frzPL_ok h1 hs
    refine ⟨a' :: azs', i2, h3, f1.trans f2, fun O hO cs hd => ?_⟩
    obtain ⟨c1, c2, rfl, h6, h7⟩ := DenSegs_cons.1 hd
    exact DenSegs_cons.2 ⟨c1, c2, rfl, (h2 O (Colder.sub f2.sub hO)).2 c1 h6, h4 O hO c2 h7⟩

theorem frzPV_ok {a : AV} {ids : List Nat} {k : AV → List Nat → RM Res} {q : Res} (h : (frzPV a ids k).eval H = some q) (hs : Sat ρ H G w) :
    ∃ a' ids', (k a' ids').eval H = some q ∧ Frzn ρ H G ids ids' ∧ ∀ O, Colder ρ H G ids' O → ∀ v, DenV ρ H (Hot ρ H G) w a v → DenV ρ H O w a' v := by
  unfold frzPV at h
  split at h
  · obtain ⟨azs', i1, h1, f1, h2⟩ := frzPL_ok h hs
    refine ⟨_, i1, h1, f1, fun O hO v hd => ?_⟩
    unfold DenV at *
    obtain ⟨cs, h3, h4⟩ := hd
    exact ⟨cs, h3, h2 O hO cs h4⟩
  · obtain ⟨a', i1, h1, f1, h2⟩ := frzP1_ok h hs
    exact ⟨a', i1, h1, f1, fun O hO => (h2 O hO).1⟩

theorem frzPA_ok : ∀ {azs : List AV} {ids : List Nat} {k : List AV → List Nat → RM Res} {q : Res}, (frzPA azs ids k).eval H = some q → Sat ρ H G w →
    ∃ azs' ids', (k azs' ids').eval H = some q ∧ Frzn ρ H G ids ids' ∧ ∀ O, Colder ρ H G ids' O → ∀ cs, DenL ρ H (Hot ρ H G) w azs cs → DenL ρ H O w azs' cs
  | [], ids, k, q, h, hs => ⟨[], ids, h, ⟨fun _ h => h, fun _ h => .inl h⟩, fun O _ cs hd => by rw [DenL_nil.1 hd]; exact DenL_nil.2 rfl⟩
  | a :: azs, ids, k, q, h, hs => by
    obtain ⟨a', i1, h1, f1, h2⟩ := frzPV_ok h hs
    obtain ⟨azs', i2, h3, f2, h4⟩ := frzPA_ok h1 hs
    refine ⟨a' :: azs', i2, h3, f1.trans f2, fun O hO cs hd => ?_⟩
    obtain ⟨c1, c2, rfl, h6, h7⟩ := DenL_cons.1 hd
    exact DenL_cons.2 ⟨c1, c2, rfl, h2 O (Colder.sub f2.sub hO) c1 h6, h4 O hO c2 h7⟩

theorem findUp_dead : ∀ (ids : List Nat) (j : Nat), findUp (ids.map fun i => (i, AObj.dead)) j = if j ∈ ids then some .dead else none
  | [], j => rfl
  | i :: ids, j => by
    simp only [List.map_cons, findUp, findUp_dead ids j]
    by_cases h : j ∈ ids
    · simp [h]
    · by_cases h2 : j = i
      · subst h2; simp [h]
      · simp [h, h2]

theorem FnOk.sumR {f : FuncId} {ts rs : List Ty} {pre : AL ts → List Prop} {F : AL ts → AL rs} (h : FnOk P Z f ts rs pre F) : SOk1 P Z f (sumR ts rs pre F) := by
  intro base args H q hq hn ρ G w vs hfresh hz hs hd
  unfold Sx.sumR at hq
  obtain ⟨args1, ids, hq, hf, h1⟩ := frzPA_ok hq hs
  split at hq
  · rename_i args2 h2
    split at hq
    · rename_i x h3
      rw [Bool.cond_eq_ite] at hq
      split at hq
      · rename_i hflat
        simp only [RM.eval, Option.some.injEq] at hq
        subst hq
        have hvec : ∀ i ∈ ids, ∃ c e, H i = some (.vec c e) := fun i hi => (hf.vec i hi).elim (fun h => by simp at h) (fun h => h)
        let Gc : Nat → Prop := fun b => Hot ρ H G b ∧ ∀ i ∈ ids, blk (ρ i) ≠ some b
        have hot0 : ∀ b, Hot (fun _ => undef) (fun _ => none) Gc b → Gc b := by
          rintro b (⟨id, o, ho, _⟩ | hb)
          · cases ho
          · exact hb
        have hcold : Colder ρ H G ids (Hot (fun _ => undef) (fun _ => none) Gc) := ⟨fun b hb => (hot0 b hb).1, fun i hi b hb hO => (hot0 b hO).2 i hi hb⟩
        have E : Emb (fun _ => none) ρ H (Hot (fun _ => undef) (fun _ => none) Gc) (fun _ => undef) (fun _ => none) (Hot (fun _ => undef) (fun _ => none) Gc) := ⟨fun i j hij => (by cases hij), fun b hb => hb⟩
        have hd2 := rnL_den E h2 (h1 _ hcold vs hd)
        have hd3 : DenL (fun _ => undef) (fun _ => none) (Hot (fun _ => undef) (fun _ => none) Gc) w (AL.av ts x) vs := AL.rd_ok h3 hd2
        refine (h x (AL.okL hd3) hn Gc w vs (fun b hb => hot_lt hs hb.1) hz.1 hd3).mono ?_
        rintro e w' ⟨v, he, ρ1, g1, g2, g3, g4⟩
        refine ⟨v, he, ?_⟩
        simp only []
        have hpl := AL.out_plain hflat (x := F x) (base := 0)
        have hobjs : (AL.res rs (F x)).1 = (AL.out 0 rs (F x)).2 := rfl
        rw [← hobjs] at hpl
        generalize hL : (AL.res rs (F x)).1 = L at *
        have hnew : ∀ b, Own ρ1 (lk L) b → w.heap.size ≤ b := fun b hb => by
          rcases g3.hot b (.inl hb) with h5 | h5
          · exact (g1.apart b hb (hot0 b h5)).elim
          · exact h5
        let ρ2 : Nat → Value := fun id => if base ≤ id ∧ id < base + L.length then ρ1 (id - base) else ρ id
        let H2 := resH H (ids.map fun i => (i, AObj.dead)) base L
        have hold : ∀ {id : Nat} {o : AObj}, H id = some o → ¬ (base ≤ id ∧ id < base + L.length) := fun {id o} ho hc => by
          have := hfresh (id - base) (by simp only []; omega)
          rw [show base + (id - base) = id from by omega, ho] at this
          cases this
        have hH2 : ∀ id, H2 id = if id ∈ ids then some .dead else if base ≤ id ∧ id < base + L.length then L[id - base]? else H id := fun id => by
          simp only [H2, resH, findUp_dead]
          split
          · rename_i hx
            split at hx
            · rename_i hi; cases hx; rw [if_pos hi]
            · cases hx
          · rename_i hx
            split at hx
            · cases hx
            · rename_i hi; rw [if_neg hi]
        have hidn : ∀ id, id ∈ ids → ¬ (base ≤ id ∧ id < base + L.length) := fun id hi => by
          obtain ⟨c, e, hce⟩ := hvec id hi
          exact hold hce
        have sh : Shift base L.length ρ1 (lk L) ρ2 H2 := ⟨fun i hi => by simp only [ρ2]; rw [if_pos (by omega)]; congr 1; omega, fun i hi => by
          rw [hH2, if_neg (fun hm => hidn _ hm ⟨by omega, by omega⟩), if_pos (by omega)]; simp [lk]⟩
        have cases2 : ∀ {id : Nat} {o : AObj}, H2 id = some o → o.alive = true → (base ≤ id ∧ id < base + L.length ∧ L[id - base]? = some o ∧ ρ2 id = ρ1 (id - base)) ∨ (id ∉ ids ∧ H id = some o ∧ ρ2 id = ρ id) := by
          intro id o ho ha
          rw [hH2] at ho
          split at ho
          · cases ho; cases ha
          · rename_i hi
            split at ho
            · rename_i hc
              exact .inl ⟨hc.1, hc.2, ho, by simp only [ρ2]; rw [if_pos hc]⟩
            · rename_i hc
              exact .inr ⟨hi, ho, by simp only [ρ2]; rw [if_neg hc]⟩
        have notf : ∀ {id : Nat} {o : AObj} {b : Nat}, id ∉ ids → H id = some o → o.alive = true → blk (ρ id) = some b → ∀ i ∈ ids, blk (ρ i) ≠ some b := by
          intro id o b hid ho ha hb i hi hb2
          obtain ⟨c, e, hce⟩ := hvec i hi
          have := hs.inj id i o _ b ho hce ha rfl hb hb2
          exact hid (this ▸ hi)
        have hown2 : ∀ b, Own ρ2 H2 b → Own ρ1 (lk L) b ∨ (Own ρ H b ∧ ∀ i ∈ ids, blk (ρ i) ≠ some b) := by
          rintro b ⟨id, o, ho, ha, hb⟩
          rcases cases2 ho ha with ⟨_, _, h5, h6⟩ | ⟨h5, h6, h7⟩
          · rw [h6] at hb
            exact .inl ⟨id - base, o, h5, ha, hb⟩
          · rw [h7] at hb
            exact .inr ⟨⟨id, o, h6, ha, hb⟩, notf h5 h6 ha hb⟩
        have hhot2 : ∀ b, Hot ρ2 H2 G b → Hot ρ1 (lk L) Gc b := by
          rintro b (hb | hb)
          · rcases hown2 b hb with h5 | h5
            · exact .inl h5
            · exact .inr ⟨.inl h5.1, h5.2⟩
          · refine .inr ⟨.inr hb, fun i hi hbk => ?_⟩
            obtain ⟨c, e, hce⟩ := hvec i hi
            exact hs.apart b ⟨i, _, hce, rfl, hbk⟩ hb
        have heap : ∀ b, b < w.heap.size → w'.heap[b]? = w.heap[b]? := fun b hb => g4.heap b hb (fun ⟨id, o, ho, _⟩ => by cases ho)
        have hsize : w.heap.size ≤ w'.heap.size := g3.size
        have st : Step ρ H (Hot ρ H G) w ρ2 H2 (Hot ρ2 H2 G) w' := by
          refine ⟨fun id o ho => ?_, fun id o ho => ?_, fun b hb => ?_, fun b hb _ => heap b hb, hsize⟩
          · simp only [ρ2]; rw [if_neg (hold ho)]
          · by_cases hi : id ∈ ids
            · exact ⟨.dead, by rw [hH2, if_pos hi], fun c' e' hc => by cases hc⟩
            · exact ⟨o, by rw [hH2, if_neg hi, if_neg (hold ho)]; exact ho, fun c' e' hc => ⟨c', e', hc, rfl, rfl⟩⟩
          · rcases hb with hb | hb
            · rcases hown2 b hb with h5 | h5
              · exact .inr (hnew b h5)
              · exact .inl (.inl h5.1)
            · exact .inl (.inr hb)
        refine ⟨ρ2, ⟨fun id o ho => ?_, fun i j oi oj b hi hj ai aj bi bj => ?_, fun b hb hG => ?_, fun b hb => Nat.lt_of_lt_of_le (hs.low b hb) hsize⟩, res_shift (.inr hhot2) (O := Hot ρ1 (lk L) Gc) (hL ▸ sh) (by rw [hL]; exact g2), st, ⟨g4.os, g4.tape, g4.output, fun b hb _ => heap b hb⟩⟩
        · cases hal : o.alive
          · cases o with
            | dead => trivial
            | own _ _ => cases hal
            | vec _ _ => cases hal
            | map _ _ => cases hal
            | mapb _ _ _ => cases hal
            | iter _ _ _ _ _ => cases hal
          · rcases cases2 ho hal with ⟨_, _, h5, h6⟩ | ⟨h5, h6, h7⟩
            · rw [h6]
              have hobj := g1.obj (id - base) o h5
              obtain ⟨r, y, e', hr, rfl⟩ := hpl o (List.mem_of_getElem? h5)
              obtain ⟨a0, cap, k0, k1, k2, k3⟩ := hobj
              refine ⟨a0, cap, k0, k1, k2, k3.imp (fun h => h) ?_⟩
              rintro ⟨b, f0, cells, fr, us, k4, k5, k6, k7, k8⟩
              exact ⟨b, f0, cells, fr, us, k4, k5, k6, k7, fun i j hi hj => ⟨(k8 i j hi hj).1, RK.flat_den hr hj (k8 i j hi hj).2⟩⟩
            · rw [h7]
              exact (hs.obj id o h6).step st (fun b ha hb => heap b (own_lt hs ⟨id, o, h6, ha, hb⟩))
        · rcases cases2 hi ai with ⟨i1, i2, i3, i4⟩ | ⟨i1, i2, i3⟩
          · rw [i4] at bi
            rcases cases2 hj aj with ⟨j1, j2, j3, j4⟩ | ⟨j1, j2, j3⟩
            · rw [j4] at bj
              have := g1.inj (i - base) (j - base) oi oj b i3 j3 ai aj bi bj
              omega
            · rw [j3] at bj
              have := own_lt hs ⟨j, oj, j2, aj, bj⟩
              have := hnew b ⟨_, oi, i3, ai, bi⟩
              omega
          · rw [i3] at bi
            rcases cases2 hj aj with ⟨j1, j2, j3, j4⟩ | ⟨j1, j2, j3⟩
            · rw [j4] at bj
              have := own_lt hs ⟨i, oi, i2, ai, bi⟩
              have := hnew b ⟨_, oj, j3, aj, bj⟩
              omega
            · rw [j3] at bj
              exact hs.inj i j oi oj b i2 j2 ai aj bi bj
        · rcases hown2 b hb with h5 | h5
          · have := hnew b h5
            have := hs.low b hG
            omega
          · exact hs.apart b h5.1 hG
      · simp [RM.eval] at hq
    · simp [RM.eval] at hq
  · simp [RM.eval] at hq
end
end Go.Sx

/-! Loops, and the whole of a function. -/
namespace Go.Sx
open Go

/-- Slots, those that are not told being of no matter. -/
def slF : Nat → Nat → List (Nat × AV) → List AV
  | 0, _, _ => []
  | n + 1, i, [] => .s .junk :: slF n (i + 1) []
  | n + 1, i, (j, a) :: l => bif j.beq i then a :: slF n (i + 1) l else .s .junk :: slF n (i + 1) ((j, a) :: l)
def sl (n : Nat) (l : List (Nat × AV)) : List AV := slF n 0 l

def firstRegion : Code → Option Nat
  | .region id _ _ => some id
  | .seq a b => match firstRegion a with
    | some i => some i
    | none => firstRegion b
  | .cond _ a b => match firstRegion a with
    | some i => some i
    | none => firstRegion b
  | .block _ c | .loop c | .scope c => firstRegion c
  | _ => none

/-- A loop's head, by its first region. -/
def headOf (key : Nat) : Code → List Item → Option (List Item)
  | .seq a b, k => match headOf key a (.code b :: k) with
    | some r => some r
    | none => headOf key b k
  | .cond _ a b, k => match headOf key a k with
    | some r => some r
    | none => headOf key b k
  | .block id c, k => headOf key c (.inBlock id :: k)
  | .scope c, k => headOf key c (.inScope c :: k)
  | .loop c, k => match firstRegion c with
    | some i => bif i.beq key then some (.code c :: .inLoop c :: k) else headOf key c (.inLoop c :: k)
    | none => headOf key c (.inLoop c :: k)
  | _, _ => none

def hd (fn : Func) (key : Nat) : List Item := (headOf key (fn.body.getD .skip) []).getD []

/-- A region, and what stands behind it. -/
def regionAt (key : Nat) : Code → List Item → Option (List Item)
  | .region id ops d, k => bif id.beq key then some (.code (.region id ops d) :: k) else none
  | .seq a b, k => match regionAt key a (.code b :: k) with
    | some r => some r
    | none => regionAt key b k
  | .cond _ a b, k => match regionAt key a k with
    | some r => some r
    | none => regionAt key b k
  | .block id c, k => regionAt key c (.inBlock id :: k)
  | .scope c, k => regionAt key c (.inScope c :: k)
  | .loop c, k => regionAt key c (.inLoop c :: k)
  | _, _ => none

def hr (fn : Func) (key : Nat) : List Item := (regionAt key (fn.body.getD .skip) []).getD []

def keyOf (c : Cfg) : Nat := match c.todo with
  | .code x :: _ => keyIn c.stk ((firstRegion x).getD 0)
  | .inRegion ops todo :: _ => midAt c.stk c.stk.rid (ops.size - todo.length)
  | _ => 0

def nsOf : List (Nat × Norm) → Nat → Option Norm
  | [], _ => none
  | (i, n) :: l, k => bif i.beq k then some n else nsOf l k

def inReg : List Item → Bool
  | .inRegion _ _ :: _ => true
  | _ => false

def Tree.norm (ns : List (Nat × Norm)) : Tree → Tree
  | .need p t => .need p (t.norm ns)
  | .ite b t e => .ite b (t.norm ns) (e.norm ns)
  | .both p q t e => .both p q (t.norm ns) (e.norm ns)
  | .ret H v => .ret H v
  | .stuck w => .stuck w
  | .at c => bif inReg c.todo && (nsOf ns (keyOf c)).isNone then .at c else match nsOf ns (keyOf c) with
    | some N => (match N.run c with
      | some c' => .at c'
      | none => .stuck "norm")
    | none => .stuck "no norm"

def stopOf : List (Nat × Norm) → Nat → Bool
  | [], _ => false
  | (i, _) :: l, k => i.beq k || stopOf l k

def inlOf : List FuncId → FuncId → Bool
  | [], _ => false
  | f :: l, g => f.beq g || inlOf l g

def run (P : Program) (S : SummB) (fn : Func) (ns : List (Nat × Norm)) (c : Cfg) (inl : List FuncId := []) : Tree := (exec P S fn (stopOf ns) (inlOf inl) 1000 true c).norm ns

/-! ### frames that wait -/
/-- A region's place, from an operation on. -/
def cal (fn : Func) (key i : Nat) : List Item :=
  match hr fn key with
  | .code (.region _ ops _) :: k => .inRegion ops (List.range' i (ops.size - i)) :: k
  | _ => []

/-- A frame that waits in a call. -/
def inCall (fn : Func) (f : Option FuncId) (key i : Nat) (round : Bool) (marks : Nat) : FrD := ⟨f, fn.ntmps, round, marks, none, cal fn key i, (key, i)⟩

/-- A range over a function, by its body's first region. -/
def rangeAt (key : Nat) : Code → List Item → Option (Lp × List Item)
  | .rangeFunc _ ps asg body, k => match firstReg body with
    | some i => bif i.beq key then some (⟨ps.toList, asg, body⟩, k) else none
    | none => bif key.beq 0 then some (⟨ps.toList, asg, body⟩, k) else none
  | .seq a b, k => match rangeAt key a (.code b :: k) with
    | some r => some r
    | none => rangeAt key b k
  | .cond _ a b, k => match rangeAt key a k with
    | some r => some r
    | none => rangeAt key b k
  | .block id c, k => rangeAt key c (.inBlock id :: k)
  | .scope c, k => rangeAt key c (.inScope c :: k)
  | .loop c, k => rangeAt key c (.inLoop c :: k)
  | _, _ => none

/-- A frame that ranges over a function. -/
def inRange (fn : Func) (f : Option FuncId) (key : Nat) (marks : Nat) : FrD :=
  match rangeAt key (fn.body.getD .skip) [] with
  | some p => ⟨f, fn.ntmps, false, marks, some (p.1, .ready), p.2, (key, 0)⟩
  | none => ⟨f, fn.ntmps, false, marks, none, [], (key, 0)⟩

section
variable {P : Program} {S : SummB} {Z : Glob} {X : Ctx} {K : List AObj → AV → Prop} {C C' : Cfg → Prop}

theorem nsOf_mem : ∀ {l : List (Nat × Norm)} {k : Nat} {N : Norm}, nsOf l k = some N → ∃ i, (i, N) ∈ l
  | [], k, N, h => by simp [nsOf] at h
  | (i, n) :: l, k, N, h => by
    simp only [nsOf, Bool.cond_eq_ite] at h
    split at h
    · cases h; exact ⟨i, by simp⟩
    · obtain ⟨j, hj⟩ := nsOf_mem h
      exact ⟨j, by simp [hj]⟩

theorem norm_holds {ns : List (Nat × Norm)} {f : FuncId} (h0 : ∀ x ∈ ns, ∀ id, x.2.m ≤ id → X.H id = none) : ∀ (t : Tree), (t.norm ns).Holds K (Safe P f X K) → t.Holds K (Safe P f X K)
  | .need p t, h => ⟨h.1, norm_holds h0 t h.2⟩
  | .ite b t e, h => ⟨fun hb => norm_holds h0 t (h.1 hb), fun hb => norm_holds h0 e (h.2 hb)⟩
  | .both _ _ t e, h => ⟨fun hp => norm_holds h0 t (h.1 hp), fun hq => norm_holds h0 e (h.2 hq)⟩
  | .ret H v, h => h
  | .stuck w, h => h
  | .at c, h => by
    unfold Tree.norm at h
    rw [Bool.cond_eq_ite] at h
    split at h
    · exact h
    split at h
    · rename_i N hN
      split at h
      · rename_i c' hc
        obtain ⟨i, hi⟩ := nsOf_mem hN
        exact Norm.safe (h0 _ hi) hc h
      · exact h.elim
    · exact h.elim

theorem Tree.mono {t : Tree} (h : t.Holds K C) (hC : ∀ c, C c → C' c) : t.Holds K C' := by
  induction t with
  | need p t ih => exact ⟨h.1, ih h.2⟩
  | ite b t e ih1 ih2 => exact ⟨fun hb => ih1 (h.1 hb), fun hb => ih2 (h.2 hb)⟩
  | both p q t e ih1 ih2 => exact ⟨fun hp => ih1 (h.1 hp), fun hq => ih2 (h.2 hq)⟩
  | ret H v => exact h
  | stuck w => exact h
  | _ c => exact hC c h

theorem ends_eq {rs : List Ty} {y : AL rs} (y' : AL rs) {L : List AObj} {r : AV} (h : y = y') (hc : canR (rs.flatMap Ty.ces) L r = some (AL.res rs y')) : Ends rs y L r := by
  subst h; exact hc

/-- From a state on, till the end or a loop's head. -/
theorem safe_of_run {f : FuncId} {fn : Func} {ns : List (Nat × Norm)} {c : Cfg} {t : Tree} (hS : SOk P S Z) (hzc : ZCtx Z X) (hm : P.follows .mixedOrders = true) (hf : P.funcs[f]? = some fn) (h0 : ∀ x ∈ ns, ∀ id, x.2.m ≤ id → X.H id = none)
    {inl : List FuncId} (ht : run P S fn ns c inl = t) (h : t.Holds K (Safe P f X K)) : Safe P f X K c := by
  subst ht
  exact exec_ok hS hzc hm hf 1000 true c (norm_holds h0 _ h)

end
end Go.Sx

/-! A contract that says 'true', carried to what a row asks. -/
namespace Go.Sx
open Go Go.RowKit Go.ChangeShapes Go.WideShapes Go.ChangeAt

section
variable {H : Type} {enc : TypeId × Value → H} {P : Program} {W W' : World} {Z : Glob} {base : Nat} {ρ : Nat → Value} {Hh : AHeap} {O : Nat → Prop}

/-- Nothing that was there has turned. -/
structure Same (W W' : World) : Prop where
  os : W'.os = W.os
  output : W'.output = W.output
  heap : ∀ b, b < W.heap.size → W'.heap[b]? = W.heap[b]?

theorem Same.at (h : Same W W') {p : MemPlace} (hp : p.block < W.heap.size) : W.sameAt W' p := by
  have e := h.heap p.block hp
  cases p with
  | cell b o => exact (cell?_same (o := o) e)
  | map b => exact e

theorem trodAll_same {ts : List TypeId} (hl : laidOutB P = true) (hp : ts.all (fun t => P.readableRec t && decide (t < P.types.size)) = true) {sp' : Nat → Bool} (hs : Same W W') : ∀ {vs : List Value} {ds : List (DataW H)} {ps : List MemPlace},
    DataW.TrodAll enc P W 0 (fun _ => true) true ts vs ds ps → (∀ p ∈ ps, p.block < W.heap.size) → (∀ p ∈ ps, sp' p.block = true) → DataW.TrodAll enc P W' 0 sp' true ts vs ds ps := by
  induction ts with
  | nil => intro vs ds ps h _ _; cases vs <;> cases ds <;> simp [DataW.TrodAll] at h ⊢; exact h
  | cons t ts ih =>
    intro vs ds ps h hlt hsp
    simp only [List.all_cons, Bool.and_eq_true, decide_eq_true_eq] at hp
    obtain ⟨v, vs', d, ds', p, q, rfl, rfl, rfl, h1, h2⟩ := trodAll_cons h
    refine ⟨p, q, ?_, ih hp.2 h2 (fun x hx => hlt x (by simp [hx])) (fun x hx => hsp x (by simp [hx])), rfl⟩
    exact WideElems.Trod_stays hl hp.1.1 hp.1.2 h1 (fun x hx => hs.at (hlt x (by simp [hx]))) (fun x hx => hsp x (by simp [hx]))

theorem kept_same (hs : Same W W') (may : MemPlace → Prop) : W.keptBut W' may := by
  refine ⟨hs.os, hs.output, fun i hi => ?_⟩
  rw [hs.heap i hi, Array.getElem?_eq_getElem hi]
  cases h : W.heap[i] with
  | cells c t fr => exact ⟨rfl, rfl, rfl, fun _ _ => rfl⟩
  | map es clock => exact .inr ⟨rfl, rfl⟩
  | _ => rfl

/-- What a law's row owes behind the call. -/
theorem post_true {fn : Func} {s : ChangeSpec} {apart fresh handsOn : Bool} {args : Array Value} {ds gs : List (DataW H)} {before : List MemPlace} {tb : TypeId}
    (hl : laidOutB P = true) (hp : fn.params.toList.all (fun t => P.readableRec t && decide (t < P.types.size)) = true)
    (hr : fn.resultTypes = #[tb]) (hb : P.underlying tb = some .bool) (hv : s.vars = [])
    (hs : s.fn H ds = { results := [.lit (.bool true)], args := ds })
    (hW : DataW.Whole enc P fn.params.toList s.vars apart W args.toList ds gs before) (hsame : Same W W') :
    s.post enc P fn apart fresh handsOn false W args (.bool true) W' := by
  have hW' := hW
  obtain ⟨p, q, h1, h2, rfl, _, _⟩ := hW
  rw [hv] at h2
  obtain ⟨rfl, rfl⟩ := trodVars_none h2
  have hlt : ∀ x ∈ p, x.block < W.heap.size := fun x hx => hW'.lt x (by simp [hx])
  refine ⟨ds, [], p ++ [], [], p, [], hW', ?_, ?_, ?_, kept_same hsame _, fun h => by cases h⟩
  · rw [List.append_nil, hs, hr]
    exact trodAll_mk1 (shut_bool hb true)
  · rw [List.append_nil, hs]
    exact trodAll_same hl hp hsame h1 hlt (fun x hx => by simpa using hlt x hx)
  · rw [hv, List.append_nil, hs]
    rfl

end
end Go.Sx

/-! What a row's reading of an argument says: a value of plain data. -/
namespace Go.Sx
open Go Go.RowKit Go.ChangeShapes Go.WideShapes Go.ChangeAt


section
variable {H : Type} {enc : TypeId × Value → H} {P : Program} {W : World} {base : Nat} {ρ : Nat → Value} {Hh : AHeap}

/-! ### values of an argument's type -/
def RK.ck : RK → CK
  | .ints k => .ints k
  | .strs => .strs
  | .bools => .bools
  | .typ cs => .rows cs
def B.ck : B → CK
  | .int k => .int k
  | .bool => .bool
  | .str => .str
  | .row r _ => r.ck
  | .rrow r _ => r.ck
  | .arr k n => .arr k n
  | .fn => .bool
def RK.of : (r : RK) → r.ck.V → r.V
  | .ints _, y => y
  | .strs, y => y
  | .bools, y => y
  | .typ _, y => y
def B.of : (b : B) → b.ck.V → b.V
  | .int _, y => y
  | .bool, y => y
  | .str, y => y
  | .row r _, y => r.of y
  | .rrow r _, y => r.of y
  | .arr _ _, y => y
  | .fn, _ => (0 : Nat)
def BL.of : (bs : List B) → CL (bs.map B.ck) → BL bs
  | [], _ => ()
  | b :: bs, y => (b.of y.1, BL.of bs y.2)

/-- A contract that says 'true', under what the reading gives: the call's end. -/
theorem calls_true_pre {Z : Glob} {f : FuncId} {ts : List Ty} {pre : AL ts → List Prop} (h : FnOk P Z f ts [.b .bool] pre (fun _ => (true, ()))) (hz : Z.ok W) {x : AL ts} {vs : List Value} (hp : Needs (pre x))
    (hd : DenL (fun _ => undef) (fun _ => none) (fun _ => False) W (AL.av ts x) vs) : Calls P f vs.toArray W fun e W' => e = .returned (.bool true) ∧ Same W W' := by
  have e0 : Hot (fun _ => undef) (fun _ => none) (fun _ => False) = fun _ => False := by
    funext b
    refine propext ⟨fun h => ?_, False.elim⟩
    rcases h with ⟨id, o, ho, _⟩ | h
    · cases ho
    · exact h
  refine (h x (AL.okL hd) hp (fun _ => False) W vs (fun _ h => h.elim) hz (by rw [e0]; exact hd)).mono ?_
  rintro e W' ⟨v, rfl, ρ', _, h2, _, h4⟩
  have h5 : DenV ρ' (lk []) (Hot ρ' (lk []) fun _ => False) W' (.s (.bool true)) v := h2
  have h6 := DenS_of_V (by simp) h5
  cases h6
  exact ⟨rfl, h4.os, h4.output, fun b hb => h4.heap b hb (fun ⟨id, o, ho, _⟩ => by cases ho)⟩
end
end Go.Sx

/-! The last facts of a row whose program is a cut: its head word is read once. -/
namespace Go.Sx
open Go

theorem make_cut (P : Program) (r : List (List Char)) (h : behindMainWord (wordsSigns P.initOrder.toList) = [(Char.ofNat 99), (Char.ofNat 117), (Char.ofNat 116)] :: r) : P.make = some .cut := by
  unfold Program.make; rw [h]; kernel_rfl
theorem lifts_cut (P : Program) (r : List (List Char)) (h : behindMainWord (wordsSigns P.initOrder.toList) = [(Char.ofNat 99), (Char.ofNat 117), (Char.ofNat 116)] :: r) (hs : stripLifts liftWords ([(Char.ofNat 99), (Char.ofNat 117), (Char.ofNat 116)] :: r) = ([], [(Char.ofNat 99), (Char.ofNat 117), (Char.ofNat 116)] :: r)) : P.liftsFinal = false := by
  unfold Program.liftsFinal Program.headLifts; rw [h]; dsimp only; rw [hs]; kernel_rfl
theorem enter_cut (P : Program) (r : List (List Char)) (h : behindMainWord (wordsSigns P.initOrder.toList) = [(Char.ofNat 99), (Char.ofNat 117), (Char.ofNat 116)] :: r) (hs : stripLifts liftWords ([(Char.ofNat 99), (Char.ofNat 117), (Char.ofNat 116)] :: r) = ([], [(Char.ofNat 99), (Char.ofNat 117), (Char.ofNat 116)] :: r))
    (h1 : P.laysLater = false) (h2 : P.bearsReflect = false) (h3 : P.doorFits [] = true) : P.mayEnter = true := by
  unfold Program.mayEnter; rw [h]; dsimp only; rw [hs, h1, h2]; dsimp only; rw [h3]; kernel_rfl

def joinedRest (P : Program) (f : FuncId) (fn : Func) (s : ChangeSpec) (c : OpenClaim) : {b : Bool // P.mayEnter = true → P.liftsFinal = false → P.make = some .cut → joinedFacts P f fn s c = b} := by
  refine ⟨?b, fun h1 h2 h3 => ?h⟩
  case h =>
    unfold joinedFacts
    rw [h1, h2, h3]

theorem joined_cut {P : Program} {f : FuncId} {fn : Func} {s : ChangeSpec} {c : OpenClaim} (r : List (List Char)) (h : behindMainWord (wordsSigns P.initOrder.toList) = [(Char.ofNat 99), (Char.ofNat 117), (Char.ofNat 116)] :: r) (hs : stripLifts liftWords ([(Char.ofNat 99), (Char.ofNat 117), (Char.ofNat 116)] :: r) = ([], [(Char.ofNat 99), (Char.ofNat 117), (Char.ofNat 116)] :: r))
    (h1 : P.laysLater = false) (h2 : P.bearsReflect = false) (h3 : P.doorFits [] = true) (hr : (joinedRest P f fn s c).1 = true) : joinedFacts P f fn s c = true :=
  ((joinedRest P f fn s c).2 (enter_cut P r h hs h1 h2 h3) (lifts_cut P r h hs) (make_cut P r h)).trans hr
end Go.Sx

/- The head of the program's text, read once. -/
/-! The head. -/
namespace Go.Proofs.Ytjclhnidmacflaa.Hd
set_option maxRecDepth 100000 in
def ioL : List Char := [104, 97, 114, 110, 101, 115, 115, 32, 99, 48, 53, 102, 55, 97, 102, 99, 57, 100, 56, 52, 54, 56, 55, 97, 56, 53, 102, 48, 98, 50, 100, 50, 49, 51, 53, 101, 53, 97, 50, 51, 98, 57, 100, 97, 56, 56, 54, 55, 52, 52, 102, 51, 51, 99, 50, 98, 97, 52, 51, 53, 100, 49, 55, 100, 102, 49, 101, 101, 100, 52, 97, 101, 32, 99, 117, 116, 32, 97, 116, 32, 99, 97, 108, 108, 98, 111, 97, 114, 100, 47, 99, 97, 108, 108, 98, 111, 97, 114, 100, 108, 97, 119, 50, 50, 46, 82, 111, 117, 116, 101, 78, 97, 109, 101, 115].map Char.ofNat
set_option maxRecDepth 100000 in
theorem ioE : Try.prog.initOrder = String.ofList ioL := by kernel_rfl
theorem ioT : Try.prog.initOrder.toList = ioL := by rw [ioE]; exact String.toList_ofList
def restL : List (List Char) := (wordsSigns ioL).drop 3
theorem hb : behindMainWord (wordsSigns Try.prog.initOrder.toList) = [Char.ofNat 99, Char.ofNat 117, Char.ofNat 116] :: restL := by rw [ioT]; kernel_rfl
theorem a1 : Try.prog.laysLater = false := by kernel_rfl
theorem a2 : Try.prog.bearsReflect = false := by kernel_rfl
theorem a3 : stripLifts liftWords ([Char.ofNat 99, Char.ofNat 117, Char.ofNat 116] :: restL) = ([], [Char.ofNat 99, Char.ofNat 117, Char.ofNat 116] :: restL) := by kernel_rfl
theorem a5 : Try.prog.doorFits [] = true := by kernel_rfl
theorem own : ownKnob Try.prog.godebug = none := by kernel_rfl
theorem laidOut : laidOutB Try.prog = true := by kernel_rfl
end Go.Proofs.Ytjclhnidmacflaa.Hd

/-! Contracts of functions that are handed own objects: what they find in them, and what they leave. -/
namespace Go.Sx
open Go

/-- By plain data: the arguments over objects 0, 1, .., what these bear, what is owed, what they bear behind the call (new ones behind them), and the answer. -/
structure Spec (X : Type) where
  args : X → List AV
  heap : X → List AObj
  pre : X → List Prop
  outH : X → List AObj
  out : X → AV

def FnS (P : Program) (Z : Glob) (f : FuncId) {X : Type} (S : Spec X) : Prop :=
  ∀ x, Needs (S.pre x) → ∀ (ρ : Nat → Value) (G : Nat → Prop) (w : World) (vs : List Value), ZAt Z ρ (lk (S.heap x)) w → Sat ρ (lk (S.heap x)) G w →
    DenL ρ (lk (S.heap x)) (Hot ρ (lk (S.heap x)) G) w (S.args x) vs →
    Calls P f vs.toArray w fun e w' => ∃ v, e = .returned v ∧ Good ρ (lk (S.heap x)) G w (lk (S.outH x)) (S.out x) v w'

def RM.bind {α β : Type} : RM α → (α → RM β) → RM β
  | .ret a, k => k a
  | .look id f, k => .look id fun o => (f o).bind k
  | .fail w, _ => .fail w

def lookAll : List Nat → (List AObj → RM Res) → RM Res
  | [], k => k []
  | i :: is, k => .look i fun o => match o with
    | some o => lookAll is fun os => k (o :: os)
    | none => .fail "no object"

/-- The callee's numbers, seen by the caller. -/
def back (σ : List Nat) (base n : Nat) (j : Nat) : Option Nat := bif j.blt σ.length then σ[j]? else bif j.blt n then some (base + (j - σ.length)) else none

/-- The summary: M tells the data and the objects; that it is right is owed. -/
def sumS {X : Type} (S : Spec X) (M : List AV → RM (X × List Nat)) : Nat → List AV → RM Res := fun base args =>
  (M args).bind fun (x, σ) => bif nodupB σ then lookAll σ fun os =>
    (match allM (rnO (back σ base (S.outH x).length)) (S.outH x), rn (back σ base (S.outH x).length) 20 (S.out x) with
     | some L', some r => bif σ.length.ble L'.length then
        .ret ⟨(allM (rn (idx σ) 20) args = some (S.args x)) :: (allM (rnO (idx σ)) os = some (S.heap x)) :: S.pre x, σ.zip L', L'.drop σ.length, fun _ => r⟩ else .fail "sum: objects are gone"
     | _, _ => .fail "sum: names")
   else .fail "sum: one object twice"

section
variable {ρ ρ' : Nat → Value} {H H' : AHeap} {G O O' : Nat → Prop} {w w' : World} {P : Program} {Z : Glob} {X : Type} {S : Spec X}

theorem RM.bind_eval {α β : Type} : ∀ {m : RM α} {k : α → RM β} {q : β}, (m.bind k).eval H = some q → ∃ a, m.eval H = some a ∧ (k a).eval H = some q
  | .ret a, k, q, h => ⟨a, rfl, h⟩
  | .look id f, k, q, h => by
    simp only [RM.bind, RM.eval] at h ⊢
    exact RM.bind_eval h
  | .fail w, k, q, h => by simp [RM.bind, RM.eval] at h

theorem lookAll_eval : ∀ {is : List Nat} {k : List AObj → RM Res} {q : Res}, (lookAll is k).eval H = some q → ∃ os : List AObj, (k os).eval H = some q ∧ os.length = is.length ∧ ∀ (j id : Nat), is[j]? = some id → H id = os[j]? ∧ os[j]?.isSome = true
  | [], k, q, h => ⟨[], h, rfl, fun j id hj => by simp at hj⟩
  | i :: is, k, q, h => by
    simp only [lookAll, RM.eval] at h
    split at h
    · rename_i o ho
      obtain ⟨os, h1, h2, h3⟩ := lookAll_eval h
      refine ⟨o :: os, h1, by simp [h2], fun j id hj => ?_⟩
      cases j with
      | zero => simp only [List.getElem?_cons_zero, Option.some.injEq] at hj; subst hj; exact ⟨by simpa using ho, rfl⟩
      | succ j => simpa using h3 j id (by simpa using hj)
    · simp [RM.eval] at h

theorem find_zip : ∀ {σ : List Nat} {L : List AObj} {j : Nat}, σ.Nodup → σ.length ≤ L.length →
    (∀ (i : Nat), σ[i]? = some j → findUp (σ.zip L) j = L[i]?) ∧ (j ∉ σ → findUp (σ.zip L) j = none)
  | [], L, j, hn, hl => ⟨fun i h => by simp at h, fun _ => rfl⟩
  | x :: xs, [], j, hn, hl => by simp at hl
  | x :: xs, l :: ls, j, hn, hl => by
    obtain ⟨h1, h2⟩ := find_zip (σ := xs) (L := ls) (j := j) (List.nodup_cons.1 hn).2 (by simpa using hl)
    constructor
    · intro i hi
      simp only [List.zip_cons_cons, findUp]
      cases i with
      | zero =>
        simp only [List.getElem?_cons_zero, Option.some.injEq] at hi
        subst hi
        rw [h2 (List.nodup_cons.1 hn).1]
        simp
      | succ i =>
        simp only [List.getElem?_cons_succ] at hi ⊢
        rw [h1 i hi]
        have hlt : i < xs.length := (List.getElem?_eq_some_iff.1 hi).1
        simp only [List.length_cons] at hl
        rw [List.getElem?_eq_getElem (show i < ls.length by omega)]
    · intro hj
      simp only [List.mem_cons, not_or] at hj
      simp only [List.zip_cons_cons, findUp]
      rw [h2 hj.2]
      simp [hj.1]

theorem FnS.sum {f : FuncId} (h : FnS P Z f S) (M : List AV → RM (X × List Nat)) : SOk1 P Z f (sumS S M) := by
  intro base args H q hq hn ρ G w vs hfresh hz hs hd
  unfold sumS at hq
  obtain ⟨⟨x, σ⟩, _, hq⟩ := RM.bind_eval hq
  simp only [Bool.cond_eq_ite] at hq
  split at hq
  · rename_i hnd
    have hnd := nodupB_spec hnd
    obtain ⟨os, hq, hlen, hos⟩ := lookAll_eval hq
    split at hq
    · rename_i L' r hL' hr
      split at hq
      · rename_i hle
        have hle := Nat.le_of_ble_eq_true hle
        simp only [RM.eval, Option.some.injEq] at hq
        subst hq
        obtain ⟨hargs, hheap, hpre⟩ := hn
        simp only [] at hfresh ⊢
        -- the view
        have hin : ∀ {j : Nat} {o' : AObj}, (S.heap x)[j]? = some o' → ∃ (id : Nat) (o : AObj), σ[j]? = some id ∧ H id = some o ∧ rnO (idx σ) o = some o' := by
          intro j o' ho'
          have hl := allM_length hheap
          have hj : j < os.length := by rw [← hl]; exact (List.getElem?_eq_some_iff.1 ho').1
          obtain ⟨b, g1, g2⟩ := allM_get hheap j os[j] (List.getElem?_eq_getElem hj)
          rw [ho'] at g2
          cases g2
          have hj2 : j < σ.length := by omega
          have := (hos j σ[j] (List.getElem?_eq_getElem hj2)).1
          exact ⟨σ[j], os[j], List.getElem?_eq_getElem hj2, by rw [this, List.getElem?_eq_getElem hj], g1⟩
        have hout : ∀ {j id : Nat}, σ[j]? = some id → ∃ o o', H id = some o ∧ rnO (idx σ) o = some o' ∧ (S.heap x)[j]? = some o' := by
          intro j id hj
          obtain ⟨g1, g2⟩ := hos j id hj
          obtain ⟨o, ho⟩ := Option.isSome_iff_exists.1 g2
          obtain ⟨b, g3, g4⟩ := allM_get hheap j o ho
          exact ⟨o, b, g1.trans ho, g3, g4⟩
        have hpull : ∀ {j id : Nat}, σ[j]? = some id → pull σ ρ j = ρ id := fun h1 => by simp [pull, List.getD, h1]
        have hown : ∀ {b : Nat}, Own (pull σ ρ) (lk (S.heap x)) b → ∃ (j id : Nat) (o : AObj), σ[j]? = some id ∧ H id = some o ∧ o.alive = true ∧ blk (ρ id) = some b := by
          rintro b ⟨j, o', ho', ha, hb⟩
          obtain ⟨id, o, h1, h2, h3⟩ := hin ho'
          rw [hpull h1] at hb
          exact ⟨j, id, o, h1, h2, by rw [← (rnO_alive h3).1]; exact ha, hb⟩
        let G' : Nat → Prop := fun b => Hot ρ H G b ∧ ¬ Own (pull σ ρ) (lk (S.heap x)) b
        have E : Emb (idx σ) ρ H (Hot ρ H G) (pull σ ρ) (lk (S.heap x)) (Hot (pull σ ρ) (lk (S.heap x)) G') := by
          refine ⟨fun i j hij => ?_, fun b hb => ?_⟩
          · have h1 := idx_spec hij
            refine ⟨hpull h1, fun o ho => ?_⟩
            obtain ⟨o1, o', h2, h3, h4⟩ := hout h1
            rw [ho] at h2
            cases h2
            exact ⟨o', h4, (rnO_alive h3).2⟩
          · rcases hb with hb | hb
            · obtain ⟨j, id, o, h1, h2, h3, h4⟩ := hown hb
              exact .inl ⟨id, o, h2, h3, h4⟩
            · exact hb.1
        have hsat : Sat (pull σ ρ) (lk (S.heap x)) G' w := by
          refine ⟨fun j o' ho' => ?_, fun i j oi oj b hi hj ai aj bi bj => ?_, fun b hb hG => hG.2 hb, fun b hb => hot_lt hs hb.1⟩
          · obtain ⟨id, o, h1, h2, h3⟩ := hin ho'
            rw [hpull h1]
            exact rnO_sat E h3 (hs.obj id o h2)
          · obtain ⟨id, o, h1, h2, h3⟩ := hin hi
            obtain ⟨id', o', h1', h2', h3'⟩ := hin hj
            rw [hpull h1] at bi
            rw [hpull h1'] at bj
            have := hs.inj id id' o o' b h2 h2' (by rw [← (rnO_alive h3).1]; exact ai) (by rw [← (rnO_alive h3').1]; exact aj) bi bj
            subst this
            obtain ⟨hi1, hi2⟩ := List.getElem?_eq_some_iff.1 h1
            obtain ⟨hj1, hj2⟩ := List.getElem?_eq_some_iff.1 h1'
            exact (List.getElem_inj hnd).1 (hi2.trans hj2.symm)
        have hz' : ZAt Z (pull σ ρ) (lk (S.heap x)) w := ⟨hz.1, fun b hb ho => by
          obtain ⟨j, id, o, h1, h2, h3, h4⟩ := hown ho
          exact hz.2 b hb ⟨id, o, h2, h3, h4⟩⟩
        have hd' := rnL_den E hargs hd
        refine (h x hpre (pull σ ρ) G' w vs hz' hsat hd').mono ?_
        rintro e w' ⟨v, he, ρ1, g1, g2, g3, g4⟩
        refine ⟨v, he, ?_⟩
        -- back again
        have hlenL := allM_length hL'
        generalize hn0 : (S.outH x).length = n0 at *
        have hnew : ∀ {j : Nat}, σ.length ≤ j → j < n0 → H (base + (j - σ.length)) = none := by
          intro j h1 h2
          exact hfresh (j - σ.length) (by simp; omega)
        have hnin : ∀ {id : Nat} {o : AObj}, H id = some o → ¬ (base ≤ id ∧ id < base + (L'.length - σ.length)) := by
          intro id o ho hc
          have := hnew (j := σ.length + (id - base)) (by omega) (by omega)
          rw [show base + (σ.length + (id - base) - σ.length) = id from by omega, ho] at this
          cases this
        let ρ2 : Nat → Value := fun id => if base ≤ id ∧ id < base + (L'.length - σ.length) then ρ1 (σ.length + (id - base)) else ρ id
        let H2 := resH H (σ.zip L') base (L'.drop σ.length)
        have hL1 : ∀ {j : Nat} {o2 : AObj}, L'[j]? = some o2 → ∃ o, (S.outH x)[j]? = some o ∧ rnO (back σ base n0) o = some o2 := by
          intro j o2 h1
          have hj : j < (S.outH x).length := by have := (List.getElem?_eq_some_iff.1 h1).1; omega
          obtain ⟨b, h2, h3⟩ := allM_get hL' j (S.outH x)[j] (List.getElem?_eq_getElem hj)
          rw [h1] at h3
          cases h3
          exact ⟨_, List.getElem?_eq_getElem hj, h2⟩
        have hρσ : ∀ {j id : Nat}, σ[j]? = some id → ρ2 id = ρ id ∧ ρ1 j = ρ id := by
          intro j id hj
          obtain ⟨o, o', h1, h2, h3⟩ := hout hj
          refine ⟨?_, ?_⟩
          · simp only [ρ2]; rw [if_neg (hnin h1)]
          · rw [g3.rho j o' h3, hpull hj]
        have hH2a : ∀ {j id : Nat}, σ[j]? = some id → H2 id = L'[j]? := by
          intro j id hj
          have hlt : j < σ.length := (List.getElem?_eq_some_iff.1 hj).1
          have := (find_zip (σ := σ) (L := L') (j := id) hnd hle).1 j hj
          simp only [H2, resH, this]
          rw [List.getElem?_eq_getElem (show j < L'.length by omega)]
        have hni : ∀ {id : Nat}, (base ≤ id ∧ id < base + (L'.length - σ.length)) → id ∉ σ := by
          intro id hc hm
          obtain ⟨i, hi⟩ := List.getElem?_of_mem hm
          obtain ⟨o, _, h3, _⟩ := hout hi
          exact hnin h3 hc
        have hH2b : ∀ {id : Nat}, (base ≤ id ∧ id < base + (L'.length - σ.length)) → H2 id = L'[σ.length + (id - base)]? := by
          intro id hc
          simp only [H2, resH, (find_zip (σ := σ) (L := L') hnd hle).2 (hni hc)]
          rw [if_pos (by simp only [List.length_drop]; exact hc)]
          simp only [List.getElem?_drop]
        have hH2c : ∀ {id : Nat}, id ∉ σ → ¬ (base ≤ id ∧ id < base + (L'.length - σ.length)) → H2 id = H id := by
          intro id h1 h2
          simp only [H2, resH, (find_zip (σ := σ) (L := L') hnd hle).2 h1]
          rw [if_neg (by simp only [List.length_drop]; exact h2)]
        have cls : ∀ {id : Nat} {o2 : AObj}, H2 id = some o2 → (∃ (j : Nat) (o : AObj), (S.outH x)[j]? = some o ∧ rnO (back σ base n0) o = some o2 ∧ ρ2 id = ρ1 j ∧ back σ base n0 j = some id) ∨ (id ∉ σ ∧ H id = some o2 ∧ ρ2 id = ρ id) := by
          intro id o2 ho
          by_cases hm : id ∈ σ
          · obtain ⟨j, hj⟩ := List.getElem?_of_mem hm
            rw [hH2a hj] at ho
            obtain ⟨o, h1, h2⟩ := hL1 ho
            obtain ⟨h3, h4⟩ := hρσ hj
            exact .inl ⟨j, o, h1, h2, by rw [h3, h4], by simp only [back, blt_t (List.getElem?_eq_some_iff.1 hj).1, cond_true]; exact hj⟩
          · by_cases hc : base ≤ id ∧ id < base + (L'.length - σ.length)
            · rw [hH2b hc] at ho
              obtain ⟨o, h1, h2⟩ := hL1 ho
              refine .inl ⟨_, o, h1, h2, by simp only [ρ2]; rw [if_pos hc], ?_⟩
              simp only [back, blt_f (show σ.length ≤ σ.length + (id - base) by omega), cond_false, blt_t (show σ.length + (id - base) < n0 by omega), cond_true]
              congr 1; omega
            · rw [hH2c hm hc] at ho
              exact .inr ⟨hm, ho, by simp only [ρ2]; rw [if_neg hc]⟩
        have view_not : ∀ {id b : Nat} {o : AObj}, id ∉ σ → H id = some o → o.alive = true → blk (ρ id) = some b → ¬ Own (pull σ ρ) (lk (S.heap x)) b := by
          intro id b o hm ho ha hb hv
          obtain ⟨j, id', o', h1, h2, h3, h4⟩ := hown hv
          have := hs.inj id id' o o' b ho h2 ha h3 hb h4
          subst this
          exact hm (List.mem_of_getElem? h1)
        have g_in : ∀ {b : Nat}, G b → G' b := fun {b} hb => ⟨.inr hb, fun hv => by
          obtain ⟨j, id', o', h1, h2, h3, h4⟩ := hown hv
          exact hs.apart b ⟨id', o', h2, h3, h4⟩ hb⟩
        have own2 : ∀ {b : Nat}, Own ρ2 H2 b → Own ρ1 (lk (S.outH x)) b ∨ (Own ρ H b ∧ G' b) := by
          rintro b ⟨id, o2, ho, ha, hb⟩
          rcases cls ho with ⟨j, o, h1, h2, h3, _⟩ | ⟨h1, h2, h3⟩
          · exact .inl ⟨j, o, h1, by rw [← (rnO_alive h2).1]; exact ha, by rw [← h3]; exact hb⟩
          · rw [h3] at hb
            exact .inr ⟨⟨id, o2, h2, ha, hb⟩, .inl ⟨id, o2, h2, ha, hb⟩, view_not h1 h2 ha hb⟩
        have E2 : Emb (back σ base n0) ρ1 (lk (S.outH x)) (Hot ρ1 (lk (S.outH x)) G') ρ2 H2 (Hot ρ2 H2 G) := by
          refine ⟨fun i j hij => ?_, fun b hb => ?_⟩
          · simp only [back, Bool.cond_eq_ite] at hij
            split at hij
            · rename_i hlt
              obtain ⟨h3, h4⟩ := hρσ hij
              refine ⟨by rw [h3, h4], fun o ho => ?_⟩
              obtain ⟨b, h5, h6⟩ := allM_get hL' i o ho
              exact ⟨b, by rw [hH2a hij]; exact h6, (rnO_alive h5).2⟩
            · rename_i hge
              split at hij
              · rename_i hlt
                have hlt : i < n0 := Nat.le_of_ble_eq_true hlt
                have hge : σ.length ≤ i := by
                  rcases Nat.lt_or_ge i σ.length with h5 | h5
                  · exact absurd (blt_t h5) hge
                  · exact h5
                simp only [Option.some.injEq] at hij
                have hc : base ≤ j ∧ j < base + (L'.length - σ.length) := by omega
                have hi : σ.length + (j - base) = i := by omega
                refine ⟨by simp only [ρ2]; rw [if_pos hc, hi], fun o ho => ?_⟩
                obtain ⟨b, h5, h6⟩ := allM_get hL' i o ho
                exact ⟨b, by rw [hH2b hc, hi]; exact h6, (rnO_alive h5).2⟩
              · cases hij
          · rcases hb with hb | hb
            · exact (own2 hb).imp (fun h => h) (fun h => h.2)
            · exact .inr (g_in hb)
        have st : Step ρ H (Hot ρ H G) w ρ2 H2 (Hot ρ2 H2 G) w' := by
          refine ⟨fun id o ho => by simp only [ρ2]; rw [if_neg (hnin ho)], fun id o ho => ?_, fun b hb => ?_, fun b hb hO => g3.heap b hb (fun hv => hO (E.hot b hv)), g3.size⟩
          · by_cases hm : id ∈ σ
            · obtain ⟨j, hj⟩ := List.getElem?_of_mem hm
              obtain ⟨o1, o', h1, h2, h3⟩ := hout hj
              rw [ho] at h1
              cases h1
              obtain ⟨o'', h4, h5⟩ := g3.keep j o' h3
              obtain ⟨o3, h6, h7⟩ := allM_get hL' j o'' h4
              refine ⟨o3, by rw [hH2a hj]; exact h7, fun c' e' hc => ?_⟩
              obtain ⟨c, e1, h8, h9, h10⟩ := h5 c' e' ((rnO_alive h6).2 c' e' hc)
              exact ⟨c, e1, (rnO_alive h2).2 c e1 h8, h9, h10⟩
            · exact ⟨o, by rw [hH2c hm (hnin ho)]; exact ho, fun c' e' hc => ⟨c', e', hc, rfl, rfl⟩⟩
          · rcases g3.hot b (E2.hot b hb) with h5 | h5
            · exact .inl (E.hot b h5)
            · exact .inr h5
        refine ⟨ρ2, ⟨fun id o2 ho => ?_, fun i j oi oj b hi hj ai aj bi bj => ?_, fun b hb hG => ?_, fun b hb => Nat.lt_of_lt_of_le (hs.low b hb) g3.size⟩, (rn_den E2 20).1 _ _ _ hr g2, st, ⟨g4.os, g4.tape, g4.output, fun b hb hO => g4.heap b hb (fun hv => ?_)⟩⟩
        · rcases cls ho with ⟨j, o, h1, h2, h3, _⟩ | ⟨h1, h2, h3⟩
          · rw [h3]
            exact rnO_sat E2 h2 (g1.obj j o h1)
          · rw [h3]
            refine (hs.obj id o2 h2).step st (fun b ha hb => ?_)
            exact g4.heap b (own_lt hs ⟨id, o2, h2, ha, hb⟩) (view_not h1 h2 ha hb)
        · have mixed : ∀ {b : Nat}, Own ρ1 (lk (S.outH x)) b → ∀ {id : Nat} {o : AObj}, id ∉ σ → H id = some o → o.alive = true → blk (ρ id) = some b → False := by
            intro b h1 id o h2 h3 h4 h5
            have hG : G' b := ⟨.inl ⟨id, o, h3, h4, h5⟩, view_not h2 h3 h4 h5⟩
            exact g1.apart b h1 hG
          rcases cls hi with ⟨j1, o1, p1, p2, p3, p4⟩ | ⟨p1, p2, p3⟩
          · rw [p3] at bi
            have a1 : o1.alive = true := by rw [← (rnO_alive p2).1]; exact ai
            rcases cls hj with ⟨j2, o2, q1, q2, q3, q4⟩ | ⟨q1, q2, q3⟩
            · rw [q3] at bj
              have := g1.inj j1 j2 o1 o2 b p1 q1 a1 (by rw [← (rnO_alive q2).1]; exact aj) bi bj
              subst this
              rw [p4] at q4
              exact Option.some.inj q4
            · rw [q3] at bj
              exact (mixed ⟨j1, o1, p1, a1, bi⟩ q1 q2 aj bj).elim
          · rw [p3] at bi
            rcases cls hj with ⟨j2, o2, q1, q2, q3, q4⟩ | ⟨q1, q2, q3⟩
            · rw [q3] at bj
              exact (mixed ⟨j2, o2, q1, by rw [← (rnO_alive q2).1]; exact aj, bj⟩ p1 p2 ai bi).elim
            · rw [q3] at bj
              exact hs.inj i j oi oj b p2 q2 ai aj bi bj
        · rcases own2 hb with h5 | h5
          · exact g1.apart b h5 (g_in hG)
          · exact hs.apart b h5.1 hG
        · obtain ⟨j, id, o, h1, h2, h3, h4⟩ := hown hv
          exact hO ⟨id, o, h2, h3, h4⟩
      · simp [RM.eval] at hq
    · simp [RM.eval] at hq
  · simp [RM.eval] at hq
end
end Go.Sx

/-! A tree gone through by rules. -/
namespace Go.Sx
open Go
instance {k : IntKind} {n : Nat} : DecidableEq (CK.arr k n).V := inferInstanceAs (DecidableEq (List Int))
instance {k : IntKind} : DecidableEq (CK.ints k).V := inferInstanceAs (DecidableEq (List Int))
instance {k : IntKind} : DecidableEq (CK.int k).V := inferInstanceAs (DecidableEq Int)
instance : DecidableEq CK.str.V := inferInstanceAs (DecidableEq ByteArray)
instance : DecidableEq CK.bool.V := inferInstanceAs (DecidableEq Bool)
/-- A record of a row. -/
abbrev el {cs : List CK} (l : List (CL cs)) (i : Int) : CL cs := l.getD i.toNat (CL.d cs)
section
variable {K : List AObj → AV → Prop} {C : Cfg → Prop} {t e : Tree} {p q : Prop}
theorem h_eq {α : Type} {a : α} (h : t.Holds K C) : (Tree.need (a = a) t).Holds K C := ⟨rfl, h⟩
theorem h_need (hp : p) (h : t.Holds K C) : (Tree.need p t).Holds K C := ⟨hp, h⟩
theorem h_dec {d : Decidable p} (h1 : p → t.Holds K C) (h2 : ¬ p → e.Holds K C) : (Tree.ite (@decide p d) t e).Holds K C := ⟨fun h => h1 (of_decide_eq_true h), fun h => h2 (of_decide_eq_false h)⟩
theorem h_beq {a b : Int} (h1 : a = b → t.Holds K C) (h2 : a ≠ b → e.Holds K C) : (Tree.ite (a == b) t e).Holds K C := ⟨fun h => h1 (by simpa using h), fun h => h2 (by simpa using h)⟩
theorem h_bne {a b : Int} (h1 : a ≠ b → t.Holds K C) (h2 : a = b → e.Holds K C) : (Tree.ite (a != b) t e).Holds K C := ⟨fun h => h1 (by simpa using h), fun h => h2 (by simpa using h)⟩
theorem h_not {b : Bool} (h : (Tree.ite b e t).Holds K C) : (Tree.ite (!b) t e).Holds K C := ⟨fun hb => h.2 (by simpa using hb), fun hb => h.1 (by simpa using hb)⟩
theorem h_tt (h : t.Holds K C) : (Tree.ite true t e).Holds K C := ⟨fun _ => h, fun x => (by cases x)⟩
theorem h_ff (h : e.Holds K C) : (Tree.ite false t e).Holds K C := ⟨fun x => (by cases x), fun _ => h⟩
theorem h_ite {b : Bool} (h1 : b = true → t.Holds K C) (h2 : b = false → e.Holds K C) : (Tree.ite b t e).Holds K C := ⟨h1, h2⟩
theorem h_both (h1 : p → t.Holds K C) (h2 : q → e.Holds K C) : (Tree.both p q t e).Holds K C := ⟨h1, h2⟩
theorem h_ret {H : List AObj} {v : AV} (h : K H v) : (Tree.ret H v).Holds K C := h
theorem h_at {c : Cfg} (h : C c) : (Tree.at c).Holds K C := h
end
end Go.Sx

/-! What all texts share: ends, orders of texts, bytes. -/
namespace Lf
open Go Go.Sx

section
variable {L : List AObj}
end

theorem getD_lt {α : Type} {l : List α} {i : Nat} {d : α} (h : i < l.length) : l.getD i d = l[i] := by simp [List.getD, h]

/-! ### the order of texts -/
end Lf

/-! Ranges over maps: how one begins, and how it goes on. -/
namespace Go.Sx
open Go

section
variable {ρ ρ' : Nat → Value} {H H' H1 H2 : AHeap} {G O O' : Nat → Prop} {w w' w1 w2 : World} {P : Program} {X : Ctx} {K : List AObj → AV → Prop}

theorem Frm.seq (f1 : Frm ρ H w w1) {ρ1 : Nat → Value} (t1 : Step ρ H (Hot ρ H G) w ρ1 H1 (Hot ρ1 H1 G) w1) (s1 : Sat ρ1 H1 G w1) (f2 : Frm ρ1 H1 w1 w2) : Frm ρ H w w2 := by
  refine ⟨f2.os.trans f1.os, f2.tape.trans f1.tape, f2.output.trans f1.output, fun b hb hO => ?_⟩
  have hno : ¬ Own ρ1 H1 b := fun ho => by
    rcases t1.hot b (.inl ho) with hh | hh
    · exact hh.elim hO (s1.apart b ho)
    · omega
  rw [f2.heap b (by have := t1.size; omega) hno, f1.heap b hb hO]

/-- A value that is kept in mind. -/
theorem Good.ghost (hs : Sat ρ H G w) {n : Nat} (hn : H n = none) (g : Value) : ∃ ρ', ρ' n = g ∧ Sat ρ' (updH H n .dead) G w ∧ Step ρ H (Hot ρ H G) w ρ' (updH H n .dead) (Hot ρ' (updH H n .dead) G) w ∧ Frm ρ H w w := by
  have ne : ∀ j x, H j = some x → j ≠ n := fun j x hx e => by subst e; rw [hn] at hx; cases hx
  have own' : ∀ b, Own (fun j => if j = n then g else ρ j) (updH H n .dead) b → Own ρ H b := by
    rintro b ⟨j, x, hx, h1, h2⟩
    by_cases hj : j = n
    · subst hj
      simp only [updH, if_true, Option.some.injEq] at hx
      subst hx
      cases h1
    · simp only [updH, hj, if_false] at hx h2
      exact ⟨j, x, hx, h1, h2⟩
  have st : Step ρ H (Hot ρ H G) w (fun j => if j = n then g else ρ j) (updH H n .dead) (Hot (fun j => if j = n then g else ρ j) (updH H n .dead) G) w := by
    refine ⟨fun j x hx => by simp [ne j x hx], fun j x hx => ⟨x, by simp [updH, ne j x hx, hx], fun c' e' hc => ⟨c', e', hc, rfl, rfl⟩⟩, fun b hb => .inl (hb.imp (own' b) id), fun b hb _ => rfl, Nat.le_refl _⟩
  refine ⟨_, by simp, ⟨fun j x hx => ?_, fun i j oi oj b h1 h2 h3 h4 h5 h6 => ?_, fun b hb => hs.apart b (own' b hb), hs.low⟩, st, rfl, rfl, rfl, fun _ _ _ => rfl⟩
  · by_cases hj : j = n
    · subst hj
      simp only [updH, if_true, Option.some.injEq] at hx
      subst hx
      trivial
    · simp only [updH, hj, if_false] at hx
      simp only [hj, if_false]
      exact (hs.obj j x hx).step st (fun _ _ _ => rfl)
  · have f : ∀ i oi, updH H n .dead i = some oi → oi.alive = true → blk ((fun j => if j = n then g else ρ j) i) = some b → H i = some oi ∧ blk (ρ i) = some b := by
      intro i oi hi hal hb
      by_cases hi' : i = n
      · subst hi'
        simp only [updH, if_true, Option.some.injEq] at hi
        subst hi
        cases hal
      · simp only [updH, hi', if_false] at hi hb
        exact ⟨hi, hb⟩
    obtain ⟨x1, x2⟩ := f i oi h1 h3 h5
    obtain ⟨y1, y2⟩ := f j oj h2 h4 h6
    exact hs.inj i j oi oj b x1 y1 h3 h4 x2 y2

/-! ### the next entry -/
theorem erase_filter {L : List MapEntry} (hb : (L.map (·.born)).Nodup) {i : Nat} (hi : i < L.length) : L.filter (fun x => x.born != L[i].born) = L.eraseIdx i := by
  induction L generalizing i with
  | nil => simp at hi
  | cons x L ih =>
    simp only [List.map_cons, List.nodup_cons] at hb
    cases i with
    | zero =>
      simp only [List.getElem_cons_zero, List.eraseIdx_cons_zero]
      rw [List.filter_cons]
      simp only [bne_self_eq_false, Bool.false_eq_true, if_false]
      refine List.filter_eq_self.2 fun e he => ?_
      rw [bne_iff_ne]
      exact fun h => hb.1 (List.mem_map.2 ⟨e, he, h⟩)
    | succ i =>
      simp only [List.length_cons] at hi
      have hi' : i < L.length := by omega
      simp only [List.getElem_cons_succ, List.eraseIdx_cons_succ]
      rw [List.filter_cons, if_pos, ih hb.2 hi']
      rw [bne_iff_ne]
      exact fun h => hb.1 (List.mem_map.2 ⟨_, List.getElem_mem hi', h.symm⟩)

/-- What is left when one more was seen. -/
theorem IterIs.next {ck : CK} {left : List (Int × ck.V)} {cur : Option (Int × ck.V)} {es : Array MapEntry} {clock : Nat} {seen : Array Nat} (h : IterIs ck left cur es clock seen) {e : MapEntry} (he : e ∈ (leftOf es seen).toList) :
    ∃ i, ∃ hi : i < left.length, e.key = .int .i64 left[i].1 ∧ e.val = ck.val left[i].2 ∧ IterIs ck (left.eraseIdx i) (some left[i]) es clock (seen.push e.born) := by
  have hL : (leftOf es seen).toList = es.toList.filter fun e => !seen.contains e.born := by simp [leftOf]
  rw [hL] at he
  obtain ⟨i, hi, rfl⟩ := List.getElem_of_mem he
  generalize hF : (es.toList.filter fun e => !seen.contains e.born) = F at *
  have heq := h.eq
  rw [hF] at heq
  have hlen : F.length = left.length := by have := congrArg List.length heq; simpa only [List.length_map] using this
  have h1 := congrArg (fun l => l[i]?) heq
  have hil : i < left.length := by omega
  simp only [List.getElem?_map, List.getElem?_eq_getElem hi, List.getElem?_eq_getElem hil, Option.map_some, Option.some.injEq, Prod.mk.injEq] at h1
  have hmem : F[i] ∈ es.toList := by
    have := List.getElem_mem hi
    exact (List.mem_filter.1 (show F[i] ∈ es.toList.filter (fun e => !seen.contains e.born) from by rw [hF]; exact this)).1
  refine ⟨i, hil, h1.1, h1.2, ⟨?_, fun p hp => h.fits p (List.mem_of_mem_eraseIdx hp), h.borns, h.old, fun p hp => ?_⟩⟩
  · have e1 : (es.toList.filter fun e => !(seen.push F[i].born).contains e.born) = F.filter (fun x => x.born != F[i].born) := by
      generalize F[i].born = z
      rw [← hF, List.filter_filter]
      refine List.filter_congr fun x _ => ?_
      by_cases hz : x.born = z <;> simp [hz, bne]
    have hnd : (F.map (·.born)).Nodup := by
      rw [← hF]
      exact (List.Sublist.map _ List.filter_sublist).nodup h.borns
    rw [e1, erase_filter hnd hi, ChangeMaps.map_eraseIdx, heq, ← ChangeMaps.map_eraseIdx]
  · cases hp
    exact ⟨h.fits _ (List.getElem_mem hil), F[i], hmem, by simp, h1.1, h1.2⟩

/-! ### the same of a whole run -/
theorem Rep.good {s : St} {a : Act} (h : Rep X ρ s a w) {dst : Option Tmp} {q : Res} {v : Value} (hw : w1 = w ∨ w1 = w.drew) (hg : Good ρ s.look X.G w1 (s.put dst q).look (q.r s.H.length) v w') : ∃ ρ', Rep X ρ' (s.put dst q) (a.put dst v) w' := by
  have h1 : Rep X ρ s a w1 := by
    rcases hw with rfl | rfl
    · exact h
    · exact h.drew
  obtain ⟨ρ', g1, g2, g3, g4⟩ := hg
  obtain ⟨arr, df⟩ := a
  have hp := put_den (ρ := ρ') (H := (s.put dst q).look) (O := Hot ρ' (s.put dst q).look X.G) (w := w') h1.size (fun t => DenV.step g3 _ _ (h1.den t)) dst g2 df
  exact ⟨ρ', g1, hp.1, hp.2, by have := h1.defers; cases dst <;> exact this, h1.from_.trans g3, Frm.trans h1 g4, h1.kept.frm h1.sat g4⟩

def opAt (fn : Func) (key i : Nat) : Option (Array Oper × Oper × List Item) := match hr fn key with
  | .code (.region _ ops _) :: k => (ops[i]?).map fun o => (ops, o, k)
  | _ => none

theorem Yields.congr {o : Oper} {e e' : Operand → Value} {R : Value → World → Prop} (he : execOp e' o = execOp e o) (h : Yields P o e w R) : Yields P o e' w R := by
  unfold Yields at *
  rw [he]; exact h

end
end Go.Sx

namespace Ds
open Go Go.Sx Go.Proofs Lf
noncomputable abbrev P : Program := Try.prog
theorem mixed : P.follows .mixedOrders = true := by kernel_rfl
abbrev tInt : Ty := .b (.int .i64)
abbrev tBool : Ty := .b .bool
abbrev tStr : Ty := .b .str
theorem go {Z : Glob} {X : Ctx} {t : Tab} {f : FuncId} {fn : Func} {ns : List (Nat × Norm)} {c : Cfg} {tr : Tree} {K : List AObj → AV → Prop} {inl : List FuncId} (hz : ZCtx Z X) (hX : ∀ id, X.H id = none) (hT : t.Ok P Z) (hf : P.funcs[f]? = some fn)
    (e : run P t.sum fn ns c inl = tr) (h : tr.Holds K (Safe P f X K)) : Safe P f X K c := safe_of_run (Tab.sOk hT) hz mixed hf (fun _ _ id _ => hX id) e h
theorem goS {Z : Glob} {X : Ctx} {t : Tab} {f : FuncId} {fn : Func} {ns : List (Nat × Norm)} {c : Cfg} {tr : Tree} {K : List AObj → AV → Prop} {L : List AObj} {inl : List FuncId} (hz : ZCtx Z X) (hX : X.H = lk L) (hm : ∀ x ∈ ns, L.length ≤ x.2.m) (hT : t.Ok P Z) (hf : P.funcs[f]? = some fn)
    (e : run P t.sum fn ns c inl = tr) (h : tr.Holds K (Safe P f X K)) : Safe P f X K c :=
  safe_of_run (Tab.sOk hT) hz mixed hf (fun x hx id hid => by rw [hX]; exact List.getElem?_eq_none (Nat.le_trans (hm x hx) hid)) e h
theorem yes_and {A B : Prop} {b : Bool} (hb : b = true) (h : A) : (b = true → A) ∧ (b = false → B) := ⟨fun _ => h, fun e => absurd (hb.symm.trans e) (by simp)⟩
theorem no_and {A B : Prop} {b : Bool} (hb : b = false) (h : B) : (b = true → A) ∧ (b = false → B) := ⟨fun e => absurd (hb.symm.trans e) (by simp), fun _ => h⟩

end Ds

/-! Arguments that stand still from the call on: own rows handed over for good, and nil rows. -/
namespace Go.Sx
open Go

section
variable {ρ ρ' : Nat → Value} {H H' : AHeap} {G O O' : Nat → Prop} {w w' : World} {P : Program} {Z : Glob}

variable {X : Type} {S : Spec X}
end
end Go.Sx

/-! States of the engine, as records and rows. -/
namespace Ds
open Go Go.Sx Go.Proofs Lf
abbrev cV : List CK := [.str, .int .u8, .int .i64, .str]
abbrev cN : List CK := [.str, .int .u8, .int .i64, .int .i64, .int .u8, .str, .str, .str, .bool, .rows cV, .strs]
abbrev cF : List CK := [.int .i64, .int .i64, .str, .bool]
abbrev cP : List CK := [.str, .rows cV, .rows cN, .rows cF]
abbrev cI : List CK := [.int .i64, .int .i64, .int .u8, .str, .int .i64, .int .i64, .int .u8, .str]
abbrev cC : List CK := [.int .i64, .str, .int .u8, .int .i64, .str]
abbrev cW : List CK := [.int .i64, .int .i64, .int .i64, .int .u8, .str, .int .i64, .bool]
abbrev iI (x : CL cI) : Int := x.1
abbrev iU (x : CL cI) : Int := x.2.1
abbrev iS (x : CL cI) : Int := x.2.2.1
abbrev iP (x : CL cI) : ByteArray := x.2.2.2.1
abbrev iN (x : CL cI) : Int := x.2.2.2.2.1
abbrev iF (x : CL cI) : Int := x.2.2.2.2.2.1
abbrev iW (x : CL cI) : Int := x.2.2.2.2.2.2.1
abbrev iC (x : CL cI) : ByteArray := x.2.2.2.2.2.2.2.1
abbrev eP : TypeId := 43
abbrev eI : TypeId := 45
abbrev eC : TypeId := 104
abbrev eW : TypeId := 106
abbrev eT : TypeId := 27
abbrev tIt : Ty := .st [.int .i64, .int .i64, .int .u8, .str, .int .i64, .int .i64, .int .u8, .str]
abbrev tSt : Ty := .st [.int .i64, .int .i64, .row (.typ cP) eP, .row (.typ cI) eI, .row (.typ cC) eC, .row (.typ cW) eW]
abbrev tSr : Ty := .st [.int .i64, .int .i64, .rrow (.typ cP) eP, .rrow (.typ cI) eI, .rrow (.typ cC) eC, .rrow (.typ cW) eW]
abbrev tNs : Ty := .b (.row (.ints .i64) 3)
abbrev avI (n : Int) : AV := .s (.int .i64 n)
abbrev avL (l : List Int) : AV := .s (.ro (.ints .i64 l))
abbrev Ps : Type := List (CL cP)
abbrev Is : Type := List (CL cI)
abbrev Cs : Type := List (CL cC)
abbrev Ws : Type := List (CL cW)
abbrev avSt (ck nx : Int) (ps : Ps) (is : Is) (cs : Cs) (ws : Ws) : AV := .agg [avI ck, avI nx, .s (.ro (.typ cP ps)), .s (.ro (.typ cI is)), .s (.ro (.typ cC cs)), .s (.ro (.typ cW ws))]
abbrev obSt (ck nx : Int) (ps : Ps) (is : Is) (cs : Cs) (ws : Ws) : AObj := .own [avI ck, avI nx, .s (.ro (.typ cP ps)), .s (.ro (.typ cI is)), .s (.ro (.typ cC cs)), .s (.ro (.typ cW ws))] eT
abbrev avIt (x : CL cI) : AV := .agg [avI (iI x), avI (iU x), .s (.int .u8 (iS x)), .s (.str (iP x)), avI (iN x), avI (iF x), .s (.int .u8 (iW x)), .s (.str (iC x))]
abbrev obIt (x : CL cI) : AObj := .own [avI (iI x), avI (iU x), .s (.int .u8 (iS x)), .s (.str (iP x)), avI (iN x), avI (iF x), .s (.int .u8 (iW x)), .s (.str (iC x))] eI
abbrev tab0 : Tab := []
def idxF {α : Type} (p : α → Bool) (l : List α) : Int := match l.findIdx? p with
  | some i => (i : Int)
  | none => -1
/-! place -/
abbrev fIx : FuncId := 26
def nsPl : List (Nat × Norm) := [((fIx + 1) * 100000 + 2, ⟨[], [0, 1, 7, 8], 0, []⟩)]
abbrev inPl : List FuncId := [fIx, 27]
noncomputable def cPl (is : Is) (id i : Int) : Cfg := ⟨sl 28 [(0, .s (.ro (.typ cI is))), (1, .fn 27 [.ptr 0 0]), (7, avI (is.length : Int)), (8, avI i)], [.own [avI id] 3], hd Try.f26 2, ⟨some fIx, false, 0, [inCall Try.f19 none 1 3 false 0], 0⟩⟩
theorem trPl (ck nx : Int) (ps : Ps) (is : Is) (cs : Cs) (ws : Ws) (id : Int) : run P tab0.sum Try.f19 nsPl (start Try.f19 [avSt ck nx ps is cs ws, avI id] []) inPl =
  Tree.at (cPl is id (0 : Int)) := by kernel_rfl
theorem loopPl (is : Is) (id i : Int) : run P tab0.sum Try.f19 nsPl (cPl is id i) inPl =
  Tree.ite (decide (i < (↑(List.length is) : Int))) (Tree.need ((0 : Int) ≤ i) (Tree.need (i < (↑(List.length is) : Int)) (Tree.ite (iI (el is i) == id) (Tree.ret [AObj.own [AV.s (SV.int IntKind.i64 id)] (3 : Nat), AObj.own [AV.s (SV.int IntKind.i64 (iI (el is i))), AV.s (SV.int IntKind.i64 (iU (el is i))), AV.s (SV.int IntKind.u8 (iS (el is i))), AV.s (SV.str (iP (el is i))), AV.s (SV.int IntKind.i64 (iN (el is i))), AV.s (SV.int IntKind.i64 (iF (el is i))), AV.s (SV.int IntKind.u8 (iW (el is i))), AV.s (SV.str (iC (el is i)))] (45 : Nat)] (AV.s (SV.int IntKind.i64 i))) (Tree.need (inI64 (i + (1 : Int))) (Tree.at (cPl is id (i + (1 : Int)))))))) (Tree.ret [AObj.own [AV.s (SV.int IntKind.i64 id)] (3 : Nat)] (AV.s (SV.ilit IntKind.i64 (-1 : Int)))) := by kernel_rfl
end Ds

/-! Lists of numbers, and what is below what: plain laws. -/
namespace Ds
open Go Go.Sx Lf
theorem nodup_len : ∀ {a b : List Int}, a.Nodup → (∀ x ∈ a, x ∈ b) → a.length ≤ b.length
  | [], b, _, _ => Nat.zero_le _
  | x :: a, b, hn, h => by
    obtain ⟨h1, h2⟩ := List.nodup_cons.1 hn
    have hx := h x List.mem_cons_self
    have ih := nodup_len (b := b.erase x) h2 fun y hy => (List.mem_erase_of_ne (fun e => h1 (by rw [← e]; exact hy))).2 (h y (List.mem_cons_of_mem _ hy))
    rw [List.length_erase_of_mem hx] at ih
    have := List.length_pos_of_mem hx
    simp only [List.length_cons]
    omega
end Ds

namespace Ds
open Go Go.Sx Go.Proofs Lf
section
variable {ρ : Nat → Value} {H H' : AHeap} {G : Nat → Prop} {w w1 w2 : World}
end
end Ds

/-! A row seen with its room, or as one that has none. -/
namespace Go.Sx
open Go
section
variable {ρ ρ' : Nat → Value} {H H' : AHeap} {G O O' : Nat → Prop} {w w' : World} {P : Program} {X : Ctx} {L : List AObj} {K : List AObj → AV → Prop}

end
end Go.Sx

/-! An own object told in other words; a number told as a literal (its sums wrap, and nothing is owed). -/
namespace Go.Sx
open Go

section
variable {P : Program} {X : Ctx} {K : List AObj → AV → Prop} {L : List AObj}

/-- A number in a slot, told as a literal. -/
theorem slot_lit_safe {f : FuncId} {tmps : List AV} {L : List AObj} {todo : List Item} {stk : Stk} {t : Nat} {k : IntKind} {n : Int} (ht : tmps.getD t (.s .junk) = .s (.int k n))
    (h : Safe P f X K ⟨tmps.set t (.s (.ilit k n)), L, todo, stk⟩) : Safe P f X K ⟨tmps, L, todo, stk⟩ := by
  intro G E ρ a w hG1 hG2 hr b t' fs hw
  refine h G E ρ a w hG1 hG2 (hr.refine (d := t) (x := .s (.int k n)) ht fun v hv => ?_) b t' fs hw
  have := DenS_of_V (by simp) hv
  cases this
  exact DenV_s (.ilit _ _)
end
end Go.Sx

namespace Ds
open Go Go.Sx Go.Proofs Lf
def placeF (is : Is) (id : Int) : Int := idxF (fun x : CL cI => iI x == id) is
def hasI (is : Is) (id : Int) : Bool := decide (0 ≤ placeF is id)
def whereF (is : Is) (id : Int) : Int := if 0 ≤ placeF is id then placeF is id else is.length
abbrev getI (is : Is) (id : Int) : CL cI := el is (whereF is id)
abbrev sumPl := sumOf [tSt, tInt] [tInt] (fun _ => []) (fun ((_, _, _, is, _, _, ()), id, ()) => (placeF is id, ()))
def tabFi : Tab := [(19, sumPl)]
/-! Compact, on an own row -/
theorem trFi (ck nx : Int) (ps : Ps) (is : Is) (cs : Cs) (ws : Ws) (id : Int) : run P tabFi.sum Try.f13 [] (start Try.f13 [avSt ck nx ps is cs ws, avI id] []) =
  Tree.ite (decide (placeF is id < (0 : Int))) (Tree.ret [AObj.own [AV.s (SV.int IntKind.i64 ck), AV.s (SV.int IntKind.i64 nx), AV.s (SV.ro (Con.typ [CK.str, CK.rows [CK.str, CK.int IntKind.u8, CK.int IntKind.i64, CK.str], CK.rows [CK.str, CK.int IntKind.u8, CK.int IntKind.i64, CK.int IntKind.i64, CK.int IntKind.u8, CK.str, CK.str, CK.str, CK.bool, CK.rows [CK.str, CK.int IntKind.u8, CK.int IntKind.i64, CK.str], CK.strs], CK.rows [CK.int IntKind.i64, CK.int IntKind.i64, CK.str, CK.bool]] ps)), AV.s (SV.ro (Con.typ cI is)), AV.s (SV.ro (Con.typ cC cs)), AV.s (SV.ro (Con.typ cW ws))] (27 : Nat), AObj.own [AV.s (SV.ilit IntKind.i64 (0 : Int)), AV.s (SV.ilit IntKind.i64 (0 : Int)), AV.s (SV.ilit IntKind.u8 (0 : Int)), AV.s (SV.str ByteArray.empty), AV.s (SV.ilit IntKind.i64 (0 : Int)), AV.s (SV.ilit IntKind.i64 (0 : Int)), AV.s (SV.ilit IntKind.u8 (0 : Int)), AV.s (SV.str ByteArray.empty)] (45 : Nat)] (AV.tup [AV.agg [AV.s (SV.ilit IntKind.i64 (0 : Int)), AV.s (SV.ilit IntKind.i64 (0 : Int)), AV.s (SV.ilit IntKind.u8 (0 : Int)), AV.s (SV.str ByteArray.empty), AV.s (SV.ilit IntKind.i64 (0 : Int)), AV.s (SV.ilit IntKind.i64 (0 : Int)), AV.s (SV.ilit IntKind.u8 (0 : Int)), AV.s (SV.str ByteArray.empty)], AV.s (SV.blit false)])) (Tree.need ((0 : Int) ≤ placeF is id) (Tree.need (placeF is id < (↑(List.length is) : Int)) (Tree.ret [AObj.own [AV.s (SV.int IntKind.i64 ck), AV.s (SV.int IntKind.i64 nx), AV.s (SV.ro (Con.typ [CK.str, CK.rows [CK.str, CK.int IntKind.u8, CK.int IntKind.i64, CK.str], CK.rows [CK.str, CK.int IntKind.u8, CK.int IntKind.i64, CK.int IntKind.i64, CK.int IntKind.u8, CK.str, CK.str, CK.str, CK.bool, CK.rows [CK.str, CK.int IntKind.u8, CK.int IntKind.i64, CK.str], CK.strs], CK.rows [CK.int IntKind.i64, CK.int IntKind.i64, CK.str, CK.bool]] ps)), AV.s (SV.ro (Con.typ cI is)), AV.s (SV.ro (Con.typ cC cs)), AV.s (SV.ro (Con.typ cW ws))] (27 : Nat), AObj.own [AV.s (SV.int IntKind.i64 (iI (el is (placeF is id)))), AV.s (SV.int IntKind.i64 (iU (el is (placeF is id)))), AV.s (SV.int IntKind.u8 (iS (el is (placeF is id)))), AV.s (SV.str (iP (el is (placeF is id)))), AV.s (SV.int IntKind.i64 (iN (el is (placeF is id)))), AV.s (SV.int IntKind.i64 (iF (el is (placeF is id)))), AV.s (SV.int IntKind.u8 (iW (el is (placeF is id)))), AV.s (SV.str (iC (el is (placeF is id))))] (45 : Nat)] (AV.tup [AV.agg [AV.s (SV.int IntKind.i64 (iI (el is (placeF is id)))), AV.s (SV.int IntKind.i64 (iU (el is (placeF is id)))), AV.s (SV.int IntKind.u8 (iS (el is (placeF is id)))), AV.s (SV.str (iP (el is (placeF is id)))), AV.s (SV.int IntKind.i64 (iN (el is (placeF is id)))), AV.s (SV.int IntKind.i64 (iF (el is (placeF is id)))), AV.s (SV.int IntKind.u8 (iW (el is (placeF is id)))), AV.s (SV.str (iC (el is (placeF is id))))], AV.s (SV.blit true)])))) := by kernel_rfl
end Ds

namespace Ds
open Go Go.Sx Go.Proofs Lf
theorem el_lt {cs : List CK} {l : List (CL cs)} {k : Nat} (h : k < l.length) : el l (k : Int) = l[k] := by
  show l.getD (k : Int).toNat _ = _
  rw [Int.toNat_natCast]; exact getD_lt h
theorem idxF_spec {α : Type} {p : α → Bool} : ∀ {l : List α}, (idxF p l = -1 ∧ ∀ x ∈ l, p x = false) ∨ ∃ i : Nat, idxF p l = (i : Int) ∧ ∃ h : i < l.length, p l[i] = true ∧ ∀ j (hj : j < i), p (l[j]'(by omega)) = false := by
  intro l
  unfold idxF
  cases h : l.findIdx? p with
  | none =>
    refine .inl ⟨rfl, fun x hx => ?_⟩
    have := List.findIdx?_eq_none_iff.1 h x hx
    simpa using this
  | some i =>
    obtain ⟨h1, h2, h3⟩ := List.findIdx?_eq_some_iff_getElem.1 h
    exact .inr ⟨i, rfl, h1, h2, fun j hj => by simpa using h3 j hj⟩
theorem idxF_at {α : Type} {p : α → Bool} {l : List α} {k : Nat} (hk : k < l.length) (h : p l[k] = true) (hl : ∀ j (hj : j < k), p (l[j]'(by omega)) = false) : idxF p l = (k : Int) := by
  rcases idxF_spec (p := p) (l := l) with ⟨_, h2⟩ | ⟨i, e, h1, h2, h3⟩
  · rw [h2 _ (List.getElem_mem hk)] at h; cases h
  · rw [e]
    rcases Nat.lt_trichotomy i k with h4 | h4 | h4
    · rw [hl i h4] at h2; cases h2
    · rw [h4]
    · rw [h3 k h4] at h; cases h
theorem idxF_none {α : Type} {p : α → Bool} {l : List α} (h : ∀ j (hj : j < l.length), p l[j] = false) : idxF p l = -1 := by
  rcases idxF_spec (p := p) (l := l) with ⟨e, _⟩ | ⟨i, e, h1, h2, _⟩
  · exact e
  · rw [h i h1] at h2; cases h2
theorem place_ok {Z : Glob} : FnOk P Z 19 [tSt, tInt] [tInt] (fun _ => []) (fun ((_, _, _, is, _, _, ()), id, ()) => (placeF is id, ())) := by
  refine fnOk_of_safe Try.func19 (by kernel_rfl) (by kernel_rfl) ?_
  rintro ⟨⟨(ck : Int), (nx : Int), (ps : Ps), (is : Is), (cs : Cs), (ws : Ws), ⟨⟩⟩, (id : Int), ⟨⟩⟩ ⟨⟨_, _, _, (hl : is.length ≤ maxLen), _⟩, _⟩ _ X hX hz
  have hl2 : is.length ≤ 9223372036854775807 := by unfold maxLen at hl; omega
  show Safe P 19 X (Ends [tInt] (placeF is id, ())) _
  have loop : ∀ (j k : Nat), k + j = is.length → (∀ i (hi : i < k) (h2 : i < is.length), (iI is[i] == id) = false) → Safe P 19 X (Ends [tInt] (placeF is id, ())) (cPl is id (k : Int)) := by
    intro j
    induction j with
    | zero =>
      intro k hk hi
      have e : placeF is id = -1 := idxF_none fun j hj => hi j (by omega) hj
      refine go hz hX Tab.Ok.nil Try.func19 (loopPl is id k) ⟨fun h => absurd (of_decide_eq_true h) (by omega), fun _ => ?_⟩
      rw [e]; exact ends_eq _ rfl (by kernel_rfl)
    | succ j ih =>
      intro k hk hi
      have hlt : k < is.length := by omega
      refine go hz hX Tab.Ok.nil Try.func19 (loopPl is id k) ?_
      have next := fun h : (iI is[k] == id) = false => ih (k + 1) (by omega) fun i h1 h2 => by
        by_cases e : i = k
        · subst e; exact h
        · exact hi i (by omega) h2
      have fin := fun h : (iI is[k] == id) = true => idxF_at (p := fun x : CL cI => iI x == id) hlt h fun j hj => hi j hj (by omega)
      rw [el_lt hlt]
      repeat' (with_reducible (first | refine h_eq ?_ | refine h_need ?_ ?_ | refine h_dec (fun _ => ?_) (fun _ => ?_) | refine h_beq (fun _ => ?_) (fun _ => ?_) | refine h_bne (fun _ => ?_) (fun _ => ?_) | refine h_tt ?_ | refine h_ff ?_ | refine h_not ?_ | refine h_ite (fun _ => ?_) (fun _ => ?_) | refine h_both (fun _ => ?_) (fun _ => ?_) | refine h_ret ?_ | refine h_at ?_))
      all_goals first | omega | exact ⟨by omega, by omega⟩ | skip
      · rename_i h
        have e : placeF is id = (k : Int) := fin (by simpa using h)
        rw [e]; exact ends_eq _ rfl (by kernel_rfl)
      · rename_i h; exact next (by simpa using h)
  refine go hz hX Tab.Ok.nil Try.func19 (trPl ck nx ps is cs ws id) ?_
  exact loop is.length 0 (by omega) fun i hi => absurd hi (Nat.not_lt_zero _)
theorem place_range (is : Is) (id : Int) : (placeF is id = -1 ∧ ∀ x ∈ is, iI x ≠ id) ∨ (0 ≤ placeF is id ∧ placeF is id < (is.length : Int) ∧ ∃ h : (placeF is id).toNat < is.length, iI is[(placeF is id).toNat] = id) := by
  rcases idxF_spec (p := fun x : CL cI => iI x == id) (l := is) with ⟨e, h⟩ | ⟨i, e, h1, h2, _⟩
  · exact .inl ⟨e, fun x hx => by simpa using h x hx⟩
  · have e : placeF is id = (i : Int) := e
    refine .inr ⟨by omega, by omega, by omega, ?_⟩
    have e2 : (placeF is id).toNat = i := by omega
    simp only [e2]
    simpa using h2
theorem tabFi_ok {Z : Glob} : tabFi.Ok P Z := Tab.Ok.cons place_ok.sum Tab.Ok.nil
theorem find_ok {Z : Glob} : FnOk P Z 13 [tSt, tInt] [tIt, tBool] (fun _ => []) (fun ((_, _, _, is, _, _, ()), id, ()) => (getI is id, hasI is id, ())) := by
  refine fnOk_of_safe Try.func13 (by kernel_rfl) (by kernel_rfl) ?_
  rintro ⟨⟨(ck : Int), (nx : Int), (ps : Ps), (is : Is), (cs : Cs), (ws : Ws), ⟨⟩⟩, (id : Int), ⟨⟩⟩ _ _ X hX hz
  refine go hz hX tabFi_ok Try.func13 (trFi ck nx ps is cs ws id) ?_
  show Tree.Holds (Ends [tIt, tBool] (getI is id, hasI is id, ())) _ _
  rcases place_range is id with ⟨e, _⟩ | ⟨h0, h1, _⟩
  · refine ⟨fun _ => ?_, fun h => absurd (of_decide_eq_false h) (by omega)⟩
    have e1 : getI is id = CL.d cI := by
      show el is (whereF is id) = _
      unfold whereF
      rw [if_neg (by omega)]
      show is.getD (is.length : Int).toNat (CL.d cI) = _
      simp [List.getD]
    have e2 : hasI is id = false := by unfold hasI; rw [decide_eq_false (by omega)]
    rw [e1, e2]; exact ends_eq _ rfl (by kernel_rfl)
  · refine ⟨fun h => absurd (of_decide_eq_true h) (by omega), fun _ => ⟨h0, h1, ?_⟩⟩
    have e1 : getI is id = el is (placeF is id) := by
      show el is (whereF is id) = _
      unfold whereF
      rw [if_pos h0]
    have e2 : hasI is id = true := by unfold hasI; rw [decide_eq_true h0]
    rw [e1, e2]
    generalize el is (placeF is id) = x
    exact ends_eq _ rfl (by kernel_rfl)
end Ds

namespace Ds
open Go Go.Sx Go.Proofs Lf
/-! Below -/
abbrev kM : CK := .int .i64
abbrev Mp : Type := List (Int × Int)
theorem mget_put' : ∀ (m : Mp) (n x v : Int), mget (mput m n v) x = if x = n then some v else mget m x := by
  intro m n x v
  have hmap : ∀ l : Mp, (l.map fun p => if p.1 == n then (n, v) else p).find? (fun p => p.1 == x) = if x = n then (if mhas l n = true then some (n, v) else none) else l.find? (fun p => p.1 == x) := by
    intro l
    induction l with
    | nil => simp [mhas]
    | cons p l ih =>
      simp only [List.map_cons, List.find?_cons]
      by_cases hp : p.1 = n
      · have hp' : (p.1 == n) = true := by simpa using hp
        simp only [hp', if_true]
        by_cases hx : x = n
        · subst hx
          simp [mhas, hp]
        · have : (n == x) = false := by simpa using Ne.symm hx
          have h2 : (p.1 == x) = false := by rw [hp]; exact this
          rw [this, h2, ih, if_neg hx]
          simp [hx]
      · have hp' : (p.1 == n) = false := by simpa using hp
        simp only [hp', Bool.false_eq_true, if_false]
        by_cases hpx : p.1 = x
        · have : (p.1 == x) = true := by simpa using hpx
          rw [this]
          rw [if_neg (fun h => hp (hpx.trans h))]
        · have : (p.1 == x) = false := by simpa using hpx
          rw [this, ih]
          have hm : mhas (p :: l) n = mhas l n := by simp [mhas, hp]
          rw [hm]
  unfold mput mget
  split
  · rename_i hh
    rw [hmap]
    split
    · rfl
    · rfl
  · rename_i hh
    rw [List.find?_append]
    by_cases hx : x = n
    · subst hx
      rw [if_pos rfl]
      have : m.find? (fun p => p.1 == x) = none := by
        rw [List.find?_eq_none]
        intro p hp hpx
        exact hh (by simp only [mhas, List.any_eq_true]; exact ⟨p, hp, hpx⟩)
      rw [this]
      simp
    · rw [if_neg hx]
      have : (n == x) = false := by simpa using Ne.symm hx
      simp [List.find?_cons, this]
def cnt (m : Mp) (k : Int) : Int := (mget m k).getD 0
def Marks (m : Mp) (l : List Int) : Prop := ∀ k, cnt m k = if k ∈ l then 1 else 0
theorem marks_put {m : Mp} {l : List Int} {k : Int} (h : Marks m l) (hk : k ∉ l) : Marks (mput m k (cnt m k + 1)) (l ++ [k]) := by
  intro x
  have hk0 := h k
  rw [if_neg hk] at hk0
  unfold cnt at hk0 ⊢
  rw [mget_put']
  by_cases hx : x = k
  · subst hx
    rw [if_pos rfl, if_pos (by simp)]
    show (mget m x).getD 0 + 1 = 1
    omega
  · rw [if_neg hx]
    have := h x
    unfold cnt at this
    rw [this]
    simp [hx]
end Ds

/-! What is deleted. -/
namespace Ds
variable {α : Type} {p : α → Bool} {l r : List α} {i j : Nat}
end Ds

namespace Ds
open Go Go.Sx Go.Proofs Lf
/-! Contains, Drop -/
end Ds

namespace Ds
open Go Go.Sx Go.Proofs Lf
end Ds

namespace Ds
open Go Go.Sx Go.Proofs Lf
/-! without -/
def gI (is : Is) (id : Int) : Int := iI (getI is id)
def gU (is : Is) (id : Int) : Int := iU (getI is id)
def gS (is : Is) (id : Int) : Int := iS (getI is id)
def gP (is : Is) (id : Int) : ByteArray := iP (getI is id)
def gN (is : Is) (id : Int) : Int := iN (getI is id)
def gF (is : Is) (id : Int) : Int := iF (getI is id)
def gW (is : Is) (id : Int) : Int := iW (getI is id)
def gC (is : Is) (id : Int) : ByteArray := iC (getI is id)
abbrev getT (is : Is) (id : Int) : CL cI := (gI is id, gU is id, gS is id, gP is id, gN is id, gF is id, gW is id, gC is id, ())
abbrev sumFi := sumOf [tSt, tInt] [tIt, tBool] (fun _ => []) (fun ((_, _, _, is, _, _, ()), id, ()) => (getT is id, hasI is id, ()))
end Ds

namespace Ds
open Go Go.Sx Go.Proofs Lf
end Ds

namespace Ds
open Go Go.Sx Go.Proofs Lf
abbrev nN (x : CL cN) : ByteArray := x.1
abbrev nK (x : CL cN) : Int := x.2.1
abbrev nI (x : CL cN) : Int := x.2.2.1
abbrev nO (x : CL cN) : Int := x.2.2.2.1
abbrev nE (x : CL cN) : Int := x.2.2.2.2.1
abbrev nY (x : CL cN) : ByteArray := x.2.2.2.2.2.1
abbrev nT (x : CL cN) : ByteArray := x.2.2.2.2.2.2.1
abbrev nS (x : CL cN) : ByteArray := x.2.2.2.2.2.2.2.1
abbrev nB (x : CL cN) : Bool := x.2.2.2.2.2.2.2.2.1
abbrev nV (x : CL cN) : List (CL cV) := x.2.2.2.2.2.2.2.2.2.1
abbrev nZ (x : CL cN) : List ByteArray := x.2.2.2.2.2.2.2.2.2.2.1
abbrev pN (x : CL cP) : ByteArray := x.1
abbrev pV (x : CL cP) : List (CL cV) := x.2.1
abbrev pO (x : CL cP) : List (CL cN) := x.2.2.1
abbrev pF (x : CL cP) : List (CL cF) := x.2.2.2.1
abbrev eV : TypeId := 108
abbrev eN : TypeId := 39
abbrev eF : TypeId := 110
abbrev tPr : Ty := .st [.str, .row (.typ cV) eV, .row (.typ cN) eN, .row (.typ cF) eF]
abbrev avPr (a : ByteArray) (vs : List (CL cV)) (ns : List (CL cN)) (fs : List (CL cF)) : AV := .agg [.s (.str a), .s (.ro (.typ cV vs)), .s (.ro (.typ cN ns)), .s (.ro (.typ cF fs))]
abbrev obPr (a : ByteArray) (vs : List (CL cV)) (ns : List (CL cN)) (fs : List (CL cF)) : AObj := .own [.s (.str a), .s (.ro (.typ cV vs)), .s (.ro (.typ cN ns)), .s (.ro (.typ cF fs))] eP
end Ds

namespace Ds
open Go Go.Sx Go.Proofs Lf
end Ds

namespace Ds
open Go Go.Sx Go.Proofs Lf
/-! processes and nodes: what is found -/
abbrev tNoR : Ty := .st [.str, .int .u8, .int .i64, .int .i64, .int .u8, .str, .str, .str, .bool, .rrow (.typ cV) eV, .rrow .strs 9]
abbrev tPrr : Ty := .st [.str, .rrow (.typ cV) eV, .rrow (.typ cN) eN, .rrow (.typ cF) eF]
abbrev obNo (x : CL cN) : AObj := .own [.s (.str (nN x)), .s (.int .u8 (nK x)), avI (nI x), avI (nO x), .s (.int .u8 (nE x)), .s (.str (nY x)), .s (.str (nT x)), .s (.str (nS x)), .s (.bool (nB x)), .s (.ro (.typ cV (nV x))), .s (.ro (.strs (nZ x)))] eN
/-! Def -/
abbrev fIp : FuncId := 28
def nsDf : List (Nat × Norm) := [((fIp + 1) * 100000 + 2, ⟨[], [0, 1, 7, 8, 21, 23, 24], 2, []⟩)]
abbrev inDf : List FuncId := [fIp, 29]
/-! Choose -/
abbrev fIn2 : FuncId := 16
abbrev inCh : List FuncId := [fIn2, 17]
def nsCh : List (Nat × Norm) := [(unrollKey + 2, ⟨[], [], 0, []⟩), ((fIn2 + 1) * 100000 + 2, ⟨[], [0, 1, 7, 8, 20, 23, 25, 30, 33, 34], 0, []⟩)]
/-! nodes -/
abbrev fNs : FuncId := 31
abbrev inBo : List FuncId := [fNs, 32]
def nsBo : List (Nat × Norm) := [((fNs + 1) * 100000 + 3, ⟨[(5, .ints .i64 [], 3)], [1, 5, 9, 10, 11], 0, []⟩)]
abbrev inAs : List FuncId := [fNs, 33]
abbrev inSo : List FuncId := [fNs, 36, 34, 35]
theorem trDf (ck nx : Int) (ps : Ps) (is : Is) (cs : Cs) (ws : Ws) (id : ByteArray) : run P tab0.sum Try.f20 nsDf (start Try.f20 [avSt ck nx ps is cs ws, .s (.str id)] []) inDf =
  Tree.at (Cfg.mk (sl (38 : Nat) [((0 : Nat), AV.s (SV.ro (Con.typ cP ps))), ((1 : Nat), AV.fn (29 : Nat) [AV.ptr (1 : Nat) (0 : Nat)]), ((7 : Nat), AV.s (SV.int IntKind.i64 (↑(List.length ps) : Int))), ((8 : Nat), AV.s (SV.int IntKind.i64 (0 : Int))), ((21 : Nat), AV.ptr (0 : Nat) (0 : Nat)), ((23 : Nat), AV.ptr (2 : Nat) (0 : Nat)), ((24 : Nat), AV.s (SV.bool false))]) [AObj.own [AV.s (SV.int IntKind.i64 ck), AV.s (SV.int IntKind.i64 nx), AV.s (SV.ro (Con.typ cP ps)), AV.s (SV.ro (Con.typ cI is)), AV.s (SV.ro (Con.typ cC cs)), AV.s (SV.ro (Con.typ cW ws))] (27 : Nat), AObj.own [AV.s (SV.str id)] (9 : Nat), AObj.own [AV.s (SV.str ByteArray.empty), AV.emp, AV.emp, AV.emp] (43 : Nat)] (hd Try.f28 (2 : Nat)) (Stk.mk (some (28 : Nat)) false (0 : Nat) [inCall Try.f20 none (1 : Nat) (3 : Nat) false (0 : Nat)] (0 : Nat))) := by kernel_rfl
theorem trCh (a : ByteArray) (vs : List (CL cV)) (ns : List (CL cN)) (fs : List (CL cF)) (l : List Int) (ev : Int) (key : ByteArray) : run P tab0.sum Try.f10 nsCh (start Try.f10 [avPr a vs ns fs, avL l, .s (.int .u8 ev), .s (.str key)] []) inCh =
  Tree.need ((0 : Int) ≤ (0 : Int)) (Tree.need ((0 : Int) < (↑(2 : Nat) : Int)) (Tree.at (Cfg.mk (sl (47 : Nat) [((0 : Nat), AV.s (SV.ro (Con.ints IntKind.i64 l))), ((1 : Nat), AV.fn (17 : Nat) [AV.ptr (0 : Nat) (0 : Nat), AV.ptr (1 : Nat) (0 : Nat), AV.ptr (2 : Nat) (0 : Nat)]), ((7 : Nat), AV.s (SV.int IntKind.i64 (↑l.length : Int))), ((8 : Nat), AV.s (SV.int IntKind.i64 (0 : Int))), ((20 : Nat), AV.s (SV.ro (Con.ints IntKind.i64 l))), ((23 : Nat), AV.ptr (0 : Nat) (0 : Nat)), ((25 : Nat), AV.ptr (1 : Nat) (0 : Nat)), ((30 : Nat), AV.ptr (2 : Nat) (0 : Nat)), ((33 : Nat), AV.agg [AV.s (SV.str key), AV.s (SV.str ByteArray.empty)]), ((34 : Nat), AV.s (SV.int IntKind.i64 (0 : Int)))]) [AObj.own [AV.s (SV.str a), AV.s (SV.ro (Con.typ cV vs)), AV.s (SV.ro (Con.typ cN ns)), AV.s (SV.ro (Con.typ cF fs))] (43 : Nat), AObj.own [AV.s (SV.int IntKind.u8 ev)] (5 : Nat), AObj.own [AV.s (SV.str key)] (9 : Nat)] (hd Try.f16 (2 : Nat)) (Stk.mk (some (16 : Nat)) false (0 : Nat) [inCall Try.f10 none (4 : Nat) (2 : Nat) false (0 : Nat)] (0 : Nat))))) := by kernel_rfl
theorem trBo (a : ByteArray) (vs : List (CL cV)) (ns : List (CL cN)) (fs : List (CL cF)) (id : Int) : run P tab0.sum Try.f23 nsBo (start Try.f23 [avPr a vs ns fs, avI id] []) inBo =
  Tree.at (Cfg.mk (sl (33 : Nat) [((1 : Nat), AV.fn (32 : Nat) [AV.ptr (0 : Nat) (0 : Nat)]), ((5 : Nat), AV.vec (1 : Nat)), ((9 : Nat), AV.s (SV.ro (Con.typ cN ns))), ((10 : Nat), AV.s (SV.int IntKind.i64 (↑ns.length : Int))), ((11 : Nat), AV.s (SV.int IntKind.i64 (0 : Int)))]) [AObj.own [AV.s (SV.int IntKind.i64 id)] (3 : Nat), AObj.vec (Con.ints IntKind.i64 []) (3 : Nat)] (hd Try.f31 (3 : Nat)) (Stk.mk (some (31 : Nat)) false (0 : Nat) [inCall Try.f23 none (1 : Nat) (2 : Nat) false (0 : Nat)] (0 : Nat))) := by kernel_rfl
theorem trAs (a : ByteArray) (vs : List (CL cV)) (ns : List (CL cN)) (fs : List (CL cF)) (id : Int) : run P tab0.sum Try.f24 nsBo (start Try.f24 [avPr a vs ns fs, avI id] []) inAs =
  Tree.at (Cfg.mk (sl (33 : Nat) [((1 : Nat), AV.fn (33 : Nat) [AV.ptr (0 : Nat) (0 : Nat)]), ((5 : Nat), AV.vec (1 : Nat)), ((9 : Nat), AV.s (SV.ro (Con.typ cN ns))), ((10 : Nat), AV.s (SV.int IntKind.i64 (↑ns.length : Int))), ((11 : Nat), AV.s (SV.int IntKind.i64 (0 : Int)))]) [AObj.own [AV.s (SV.int IntKind.i64 id)] (3 : Nat), AObj.vec (Con.ints IntKind.i64 []) (3 : Nat)] (hd Try.f31 (3 : Nat)) (Stk.mk (some (31 : Nat)) false (0 : Nat) [inCall Try.f24 none (1 : Nat) (2 : Nat) false (0 : Nat)] (0 : Nat))) := by kernel_rfl
end Ds

namespace Ds
open Go Go.Sx Go.Proofs Lf
noncomputable def cDf (ck nx : Int) (ps : Ps) (is : Is) (cs : Cs) (ws : Ws) (id : ByteArray) (i : Int) : Cfg := ⟨sl 38 [(0, .s (.ro (.typ cP ps))), (1, .fn 29 [.ptr 1 0]), (7, avI (ps.length : Int)), (8, avI i), (21, .ptr 0 0), (23, .ptr 2 0), (24, .s (.bool false))], [obSt ck nx ps is cs ws, .own [.s (.str id)] 9, .own [.s (.str ByteArray.empty), .emp, .emp, .emp] eP], hd Try.f28 2, ⟨some fIp, false, 0, [inCall Try.f20 none 1 3 false 0], 0⟩⟩
noncomputable def cCh (a : ByteArray) (vs : List (CL cV)) (ns : List (CL cN)) (fs : List (CL cF)) (l : List Int) (ev : Int) (key k : ByteArray) (j i : Int) : Cfg := ⟨sl 47 [(0, avL l), (1, .fn 17 [.ptr 0 0, .ptr 1 0, .ptr 2 0]), (7, avI (l.length : Int)), (8, avI i), (20, avL l), (23, .ptr 0 0), (25, .ptr 1 0), (30, .ptr 2 0), (33, .agg [.s (.str key), .s (.str ByteArray.empty)]), (34, avI j)], [obPr a vs ns fs, .own [.s (.int .u8 ev)] 5, .own [.s (.str k)] 9], hd Try.f16 2, ⟨some fIn2, false, 0, [inCall Try.f10 none 4 2 false 0], 0⟩⟩
noncomputable def cNd (b : FuncId) (fn : Func) (r j : Nat) (id : Int) (ns : List (CL cN)) (l : List Int) (i : Int) : Cfg := ⟨sl 33 [(1, .fn b [.ptr 0 0]), (5, .vec 1), (9, .s (.ro (.typ cN ns))), (10, avI (ns.length : Int)), (11, avI i)], [.own [avI id] 3, .vec (.ints .i64 l) 3], hd Try.f31 3, ⟨some fNs, false, 0, [inCall fn none r j false 0], 0⟩⟩
def nsSo : List (Nat × Norm) := [((fNs + 1) * 100000 + 3, ⟨[(5, .ints .i64 [], 3)], [1, 5, 9, 10, 11], 0, [(1, 9, true, .typ cV [], eV), (1, 10, true, .strs [], 9)]⟩)]
noncomputable def cSo (id : Int) (x : CL cN) (ns : List (CL cN)) (l : List Int) (i : Int) : Cfg := ⟨sl 45 [(1, .fn 36 [.ptr 0 0, .ptr 1 0]), (5, .vec 2), (9, .s (.ro (.typ cN ns))), (10, avI (ns.length : Int)), (11, avI i)], [.own [avI id] 3, obNo x, .vec (.ints .i64 l) 3], hd Try.f31 3, ⟨some fNs, false, 0, [inCall Try.f25 none 2 2 false 0], 0⟩⟩
theorem loopDf (ck nx : Int) (ps : Ps) (is : Is) (cs : Cs) (ws : Ws) (id : ByteArray) (i : Int) : run P tab0.sum Try.f20 nsDf (cDf ck nx ps is cs ws id i) inDf =
  Tree.ite (decide (i < (↑(List.length ps) : Int))) (Tree.need ((0 : Int) ≤ i) (Tree.need (i < (↑(List.length ps) : Int)) (Tree.ite (decide (pN (el ps i) = id)) (Tree.ite (decide (i < (0 : Int))) (Tree.ret [AObj.own [AV.s (SV.int IntKind.i64 ck), AV.s (SV.int IntKind.i64 nx), AV.s (SV.ro (Con.typ cP ps)), AV.s (SV.ro (Con.typ cI is)), AV.s (SV.ro (Con.typ cC cs)), AV.s (SV.ro (Con.typ cW ws))] (27 : Nat), AObj.own [AV.s (SV.str id)] (9 : Nat), AObj.own [AV.s (SV.str ByteArray.empty), AV.emp, AV.emp, AV.emp] (43 : Nat), AObj.own [AV.s (SV.str (pN (el ps i))), AV.s (SV.ro (Con.typ cV (pV (el ps i)))), AV.s (SV.ro (Con.typ cN (pO (el ps i)))), AV.s (SV.ro (Con.typ cF (pF (el ps i))))] (43 : Nat)] (AV.tup [AV.agg [AV.s (SV.str ByteArray.empty), AV.emp, AV.emp, AV.emp], AV.s (SV.blit false)])) (Tree.need ((0 : Int) ≤ i) (Tree.need (i < (↑(List.length ps) : Int)) (Tree.ret [AObj.own [AV.s (SV.int IntKind.i64 ck), AV.s (SV.int IntKind.i64 nx), AV.s (SV.ro (Con.typ cP ps)), AV.s (SV.ro (Con.typ cI is)), AV.s (SV.ro (Con.typ cC cs)), AV.s (SV.ro (Con.typ cW ws))] (27 : Nat), AObj.own [AV.s (SV.str id)] (9 : Nat), AObj.own [AV.s (SV.str (pN (el ps i))), AV.s (SV.ro (Con.typ cV (pV (el ps i)))), AV.s (SV.ro (Con.typ cN (pO (el ps i)))), AV.s (SV.ro (Con.typ cF (pF (el ps i))))] (43 : Nat), AObj.own [AV.s (SV.str (pN (el ps i))), AV.s (SV.ro (Con.typ cV (pV (el ps i)))), AV.s (SV.ro (Con.typ cN (pO (el ps i)))), AV.s (SV.ro (Con.typ cF (pF (el ps i))))] (43 : Nat)] (AV.tup [AV.agg [AV.s (SV.str (pN (el ps i))), AV.s (SV.ro (Con.typ cV (pV (el ps i)))), AV.s (SV.ro (Con.typ cN (pO (el ps i)))), AV.s (SV.ro (Con.typ cF (pF (el ps i))))], AV.s (SV.blit true)]))))) (Tree.need (inI64 (i + (1 : Int))) (Tree.at (cDf ck nx ps is cs ws id (i + (1 : Int)))))))) (Tree.ret [AObj.own [AV.s (SV.int IntKind.i64 ck), AV.s (SV.int IntKind.i64 nx), AV.s (SV.ro (Con.typ cP ps)), AV.s (SV.ro (Con.typ cI is)), AV.s (SV.ro (Con.typ cC cs)), AV.s (SV.ro (Con.typ cW ws))] (27 : Nat), AObj.own [AV.s (SV.str id)] (9 : Nat), AObj.own [AV.s (SV.str ByteArray.empty), AV.emp, AV.emp, AV.emp] (43 : Nat)] (AV.tup [AV.agg [AV.s (SV.str ByteArray.empty), AV.emp, AV.emp, AV.emp], AV.s (SV.blit false)])) := by kernel_rfl
theorem loopBo (id : Int) (ns : List (CL cN)) (l : List Int) (i : Int) : run P tab0.sum Try.f23 nsBo (cNd 32 Try.f23 1 2 id ns l i) inBo =
  Tree.ite (decide (i < (↑ns.length : Int))) (Tree.need ((0 : Int) ≤ i) (Tree.need (i < (↑ns.length : Int)) (Tree.ite (nK (el ns i) == (15 : Int)) (Tree.ite (nO (el ns i) == id) (Tree.need ((l.length + (1 : Nat)) * (8 : Nat) ≤ (140737488355328 : Nat)) (Tree.need (inI64 (i + (1 : Int))) (Tree.at (Cfg.mk (sl (33 : Nat) [((1 : Nat), AV.fn (32 : Nat) [AV.ptr (0 : Nat) (0 : Nat)]), ((5 : Nat), AV.vec (1 : Nat)), ((9 : Nat), AV.s (SV.ro (Con.typ cN ns))), ((10 : Nat), AV.s (SV.int IntKind.i64 (↑ns.length : Int))), ((11 : Nat), AV.s (SV.int IntKind.i64 (i + (1 : Int))))]) [AObj.own [AV.s (SV.int IntKind.i64 id)] (3 : Nat), AObj.vec (Con.ints IntKind.i64 (l ++ [i])) (3 : Nat)] (hd Try.f31 (3 : Nat)) (Stk.mk (some (31 : Nat)) false (0 : Nat) [inCall Try.f23 none (1 : Nat) (2 : Nat) false (0 : Nat)] (0 : Nat)))))) (Tree.need (inI64 (i + (1 : Int))) (Tree.at (Cfg.mk (sl (33 : Nat) [((1 : Nat), AV.fn (32 : Nat) [AV.ptr (0 : Nat) (0 : Nat)]), ((5 : Nat), AV.vec (1 : Nat)), ((9 : Nat), AV.s (SV.ro (Con.typ cN ns))), ((10 : Nat), AV.s (SV.int IntKind.i64 (↑ns.length : Int))), ((11 : Nat), AV.s (SV.int IntKind.i64 (i + (1 : Int))))]) [AObj.own [AV.s (SV.int IntKind.i64 id)] (3 : Nat), AObj.vec (Con.ints IntKind.i64 l) (3 : Nat)] (hd Try.f31 (3 : Nat)) (Stk.mk (some (31 : Nat)) false (0 : Nat) [inCall Try.f23 none (1 : Nat) (2 : Nat) false (0 : Nat)] (0 : Nat)))))) (Tree.need (inI64 (i + (1 : Int))) (Tree.at (Cfg.mk (sl (33 : Nat) [((1 : Nat), AV.fn (32 : Nat) [AV.ptr (0 : Nat) (0 : Nat)]), ((5 : Nat), AV.vec (1 : Nat)), ((9 : Nat), AV.s (SV.ro (Con.typ cN ns))), ((10 : Nat), AV.s (SV.int IntKind.i64 (↑ns.length : Int))), ((11 : Nat), AV.s (SV.int IntKind.i64 (i + (1 : Int))))]) [AObj.own [AV.s (SV.int IntKind.i64 id)] (3 : Nat), AObj.vec (Con.ints IntKind.i64 l) (3 : Nat)] (hd Try.f31 (3 : Nat)) (Stk.mk (some (31 : Nat)) false (0 : Nat) [inCall Try.f23 none (1 : Nat) (2 : Nat) false (0 : Nat)] (0 : Nat)))))))) (Tree.ret [AObj.own [AV.s (SV.int IntKind.i64 id)] (3 : Nat), AObj.vec (Con.ints IntKind.i64 l) (3 : Nat)] (AV.vec (1 : Nat))) := by kernel_rfl
theorem loopAs (id : Int) (ns : List (CL cN)) (l : List Int) (i : Int) : run P tab0.sum Try.f24 nsBo (cNd 33 Try.f24 1 2 id ns l i) inAs =
  Tree.ite (decide (i < (↑ns.length : Int))) (Tree.need ((0 : Int) ≤ i) (Tree.need (i < (↑ns.length : Int)) (Tree.ite (nK (el ns i) == (13 : Int)) (Tree.ite (nI (el ns i) == id) (Tree.need ((l.length + (1 : Nat)) * (8 : Nat) ≤ (140737488355328 : Nat)) (Tree.need (inI64 (i + (1 : Int))) (Tree.at (Cfg.mk (sl (33 : Nat) [((1 : Nat), AV.fn (33 : Nat) [AV.ptr (0 : Nat) (0 : Nat)]), ((5 : Nat), AV.vec (1 : Nat)), ((9 : Nat), AV.s (SV.ro (Con.typ cN ns))), ((10 : Nat), AV.s (SV.int IntKind.i64 (↑ns.length : Int))), ((11 : Nat), AV.s (SV.int IntKind.i64 (i + (1 : Int))))]) [AObj.own [AV.s (SV.int IntKind.i64 id)] (3 : Nat), AObj.vec (Con.ints IntKind.i64 (l ++ [i])) (3 : Nat)] (hd Try.f31 (3 : Nat)) (Stk.mk (some (31 : Nat)) false (0 : Nat) [inCall Try.f24 none (1 : Nat) (2 : Nat) false (0 : Nat)] (0 : Nat)))))) (Tree.need (inI64 (i + (1 : Int))) (Tree.at (Cfg.mk (sl (33 : Nat) [((1 : Nat), AV.fn (33 : Nat) [AV.ptr (0 : Nat) (0 : Nat)]), ((5 : Nat), AV.vec (1 : Nat)), ((9 : Nat), AV.s (SV.ro (Con.typ cN ns))), ((10 : Nat), AV.s (SV.int IntKind.i64 (↑ns.length : Int))), ((11 : Nat), AV.s (SV.int IntKind.i64 (i + (1 : Int))))]) [AObj.own [AV.s (SV.int IntKind.i64 id)] (3 : Nat), AObj.vec (Con.ints IntKind.i64 l) (3 : Nat)] (hd Try.f31 (3 : Nat)) (Stk.mk (some (31 : Nat)) false (0 : Nat) [inCall Try.f24 none (1 : Nat) (2 : Nat) false (0 : Nat)] (0 : Nat)))))) (Tree.need (inI64 (i + (1 : Int))) (Tree.at (Cfg.mk (sl (33 : Nat) [((1 : Nat), AV.fn (33 : Nat) [AV.ptr (0 : Nat) (0 : Nat)]), ((5 : Nat), AV.vec (1 : Nat)), ((9 : Nat), AV.s (SV.ro (Con.typ cN ns))), ((10 : Nat), AV.s (SV.int IntKind.i64 (↑ns.length : Int))), ((11 : Nat), AV.s (SV.int IntKind.i64 (i + (1 : Int))))]) [AObj.own [AV.s (SV.int IntKind.i64 id)] (3 : Nat), AObj.vec (Con.ints IntKind.i64 l) (3 : Nat)] (hd Try.f31 (3 : Nat)) (Stk.mk (some (31 : Nat)) false (0 : Nat) [inCall Try.f24 none (1 : Nat) (2 : Nat) false (0 : Nat)] (0 : Nat)))))))) (Tree.ret [AObj.own [AV.s (SV.int IntKind.i64 id)] (3 : Nat), AObj.vec (Con.ints IntKind.i64 l) (3 : Nat)] (AV.vec (1 : Nat))) := by kernel_rfl
theorem trSo2 (a : ByteArray) (vs : List (CL cV)) (ns : List (CL cN)) (fs : List (CL cF)) (id : Int) : run P tab0.sum Try.f25 nsSo (start Try.f25 [avPr a vs ns fs, avI id] []) inSo =
  Tree.ite (decide (id < (0 : Int))) (Tree.at (Cfg.mk (sl (45 : Nat) [((1 : Nat), AV.fn (36 : Nat) [AV.ptr (0 : Nat) (0 : Nat), AV.ptr (1 : Nat) (0 : Nat)]), ((5 : Nat), AV.vec (2 : Nat)), ((9 : Nat), AV.s (SV.ro (Con.typ cN ns))), ((10 : Nat), AV.s (SV.int IntKind.i64 (↑ns.length : Int))), ((11 : Nat), AV.s (SV.int IntKind.i64 (0 : Int)))]) [AObj.own [AV.s (SV.int IntKind.i64 id)] (3 : Nat), AObj.own [AV.s (SV.str ByteArray.empty), AV.s (SV.int IntKind.u8 (0 : Int)), AV.s (SV.int IntKind.i64 (0 : Int)), AV.s (SV.int IntKind.i64 (0 : Int)), AV.s (SV.int IntKind.u8 (0 : Int)), AV.s (SV.str ByteArray.empty), AV.s (SV.str ByteArray.empty), AV.s (SV.str ByteArray.empty), AV.s (SV.bool false), AV.s (SV.ro (Con.typ cV [])), AV.s (SV.ro (Con.strs []))] (39 : Nat), AObj.vec (Con.ints IntKind.i64 []) (3 : Nat)] (hd Try.f31 (3 : Nat)) (Stk.mk (some (31 : Nat)) false (0 : Nat) [inCall Try.f25 none (2 : Nat) (2 : Nat) false (0 : Nat)] (0 : Nat)))) (Tree.ite (decide (id ≥ (↑ns.length : Int))) (Tree.at (Cfg.mk (sl (45 : Nat) [((1 : Nat), AV.fn (36 : Nat) [AV.ptr (0 : Nat) (0 : Nat), AV.ptr (1 : Nat) (0 : Nat)]), ((5 : Nat), AV.vec (2 : Nat)), ((9 : Nat), AV.s (SV.ro (Con.typ cN ns))), ((10 : Nat), AV.s (SV.int IntKind.i64 (↑ns.length : Int))), ((11 : Nat), AV.s (SV.int IntKind.i64 (0 : Int)))]) [AObj.own [AV.s (SV.int IntKind.i64 id)] (3 : Nat), AObj.own [AV.s (SV.str ByteArray.empty), AV.s (SV.int IntKind.u8 (0 : Int)), AV.s (SV.int IntKind.i64 (0 : Int)), AV.s (SV.int IntKind.i64 (0 : Int)), AV.s (SV.int IntKind.u8 (0 : Int)), AV.s (SV.str ByteArray.empty), AV.s (SV.str ByteArray.empty), AV.s (SV.str ByteArray.empty), AV.s (SV.bool false), AV.s (SV.ro (Con.typ cV [])), AV.s (SV.ro (Con.strs []))] (39 : Nat), AObj.vec (Con.ints IntKind.i64 []) (3 : Nat)] (hd Try.f31 (3 : Nat)) (Stk.mk (some (31 : Nat)) false (0 : Nat) [inCall Try.f25 none (2 : Nat) (2 : Nat) false (0 : Nat)] (0 : Nat)))) (Tree.need ((0 : Int) ≤ id) (Tree.need (id < (↑ns.length : Int)) (Tree.at (cSo id (el ns id) ns [] (0 : Int)))))) := by kernel_rfl
theorem loopSo (id : Int) (x : CL cN) (ns : List (CL cN)) (l : List Int) (i : Int) : run P tab0.sum Try.f25 nsSo (cSo id x ns l i) inSo =
  Tree.ite (decide (i < (↑ns.length : Int))) (Tree.need ((0 : Int) ≤ i) (Tree.need (i < (↑ns.length : Int)) (Tree.ite (nK (el ns i) == (1 : Int)) (Tree.ite (nI (el ns i) == id) (Tree.ite (nE (el ns i) == (0 : Int)) (Tree.need ((l.length + (1 : Nat)) * (8 : Nat) ≤ (140737488355328 : Nat)) (Tree.need (inI64 (i + (1 : Int))) (Tree.at (cSo id x ns (l ++ [i]) (i + (1 : Int)))))) (Tree.ite (nK x == (13 : Int)) (Tree.need ((l.length + (1 : Nat)) * (8 : Nat) ≤ (140737488355328 : Nat)) (Tree.need (inI64 (i + (1 : Int))) (Tree.at (cSo id x ns (l ++ [i]) (i + (1 : Int)))))) (Tree.need (inI64 (i + (1 : Int))) (Tree.at (cSo id x ns l (i + (1 : Int))))))) (Tree.need (inI64 (i + (1 : Int))) (Tree.at (cSo id x ns l (i + (1 : Int)))))) (Tree.need (inI64 (i + (1 : Int))) (Tree.at (cSo id x ns l (i + (1 : Int)))))))) (Tree.ite ((↑l.length : Int) == (0 : Int)) (Tree.ret [AObj.own [AV.s (SV.int IntKind.i64 id)] (3 : Nat), AObj.own [AV.s (SV.str (nN x)), AV.s (SV.int IntKind.u8 (nK x)), AV.s (SV.int IntKind.i64 (nI x)), AV.s (SV.int IntKind.i64 (nO x)), AV.s (SV.int IntKind.u8 (nE x)), AV.s (SV.str (nY x)), AV.s (SV.str (nT x)), AV.s (SV.str (nS x)), AV.s (SV.bool (nB x)), AV.s (SV.ro (Con.typ cV (nV x))), AV.s (SV.ro (Con.strs (nZ x)))] (39 : Nat), AObj.vec (Con.ints IntKind.i64 l) (3 : Nat)] (AV.tup [AV.s (SV.ilit IntKind.i64 (0 : Int)), AV.s (SV.blit false)])) (Tree.need ((0 : Int) ≤ (0 : Int)) (Tree.need ((0 : Int) < (↑l.length : Int)) (Tree.ret [AObj.own [AV.s (SV.int IntKind.i64 id)] (3 : Nat), AObj.own [AV.s (SV.str (nN x)), AV.s (SV.int IntKind.u8 (nK x)), AV.s (SV.int IntKind.i64 (nI x)), AV.s (SV.int IntKind.i64 (nO x)), AV.s (SV.int IntKind.u8 (nE x)), AV.s (SV.str (nY x)), AV.s (SV.str (nT x)), AV.s (SV.str (nS x)), AV.s (SV.bool (nB x)), AV.s (SV.ro (Con.typ cV (nV x))), AV.s (SV.ro (Con.strs (nZ x)))] (39 : Nat), AObj.vec (Con.ints IntKind.i64 l) (3 : Nat)] (AV.tup [AV.s (SV.int IntKind.i64 (l.getD (0 : Nat) (0 : Int))), AV.s (SV.blit true)]))))) := by kernel_rfl
end Ds

namespace Ds
open Go Go.Sx Go.Proofs Lf
abbrev tU8 : Ty := .b (.int .u8)

def pDf (name : ByteArray) (p : CL cP) : Bool := decide (pN p = name)
def defP (ps : Ps) (name : ByteArray) : Int := idxF (pDf name) ps
def hasP (ps : Ps) (name : ByteArray) : Bool := decide (0 ≤ defP ps name)
def whereP (ps : Ps) (name : ByteArray) : Int := if 0 ≤ defP ps name then defP ps name else ps.length
def getP (ps : Ps) (name : ByteArray) : CL cP := el ps (whereP ps name)
def pCh (ns : List (CL cN)) (ev : Int) (k : ByteArray) (n : Int) : Bool := decide (0 ≤ n) && decide (n < (ns.length : Int)) && (nE (el ns n) == ev) && decide (nY (el ns n) = k)
def chooseF (ns : List (CL cN)) (l : List Int) (ev : Int) (key : ByteArray) : Int × Bool :=
  if 0 ≤ idxF (pCh ns ev key) l then (l.getD (idxF (pCh ns ev key) l).toNat 0, true)
  else if 0 ≤ idxF (pCh ns ev ByteArray.empty) l then (l.getD (idxF (pCh ns ev ByteArray.empty) l).toNat 0, true)
  else (0, false)
noncomputable def cChL (a : ByteArray) (vs : List (CL cV)) (ns : List (CL cN)) (fs : List (CL cF)) (l : List Int) (ev : Int) (key k : ByteArray) (j i : Int) : Cfg := ⟨sl 47 [(0, avL l), (1, .fn 17 [.ptr 0 0, .ptr 1 0, .ptr 2 0]), (7, avI (l.length : Int)), (8, avI i), (20, avL l), (23, .ptr 0 0), (25, .ptr 1 0), (30, .ptr 2 0), (33, .agg [.s (.str key), .s (.str ByteArray.empty)]), (34, .s (.ilit .i64 j))], [obPr a vs ns fs, .own [.s (.int .u8 ev)] 5, .own [.s (.str k)] 9], hd Try.f16 2, ⟨some fIn2, false, 0, [inCall Try.f10 none 4 2 false 0], 0⟩⟩
theorem lopCh (a : ByteArray) (vs : List (CL cV)) (ns : List (CL cN)) (fs : List (CL cF)) (l : List Int) (ev : Int) (key k : ByteArray) (i : Int) : run P tab0.sum Try.f10 nsCh (cChL a vs ns fs l ev key k 0 i) inCh =
  Tree.ite (decide (i < (↑l.length : Int)))
  (Tree.need ((0 : Int) ≤ i)
    (Tree.need (i < (↑l.length : Int))
      (Tree.ite (decide (l.getD i.toNat (0 : Int) ≥ (0 : Int)))
        (Tree.ite (decide (l.getD i.toNat (0 : Int) < (↑ns.length : Int))) (Tree.need ((0 : Int) ≤ l.getD i.toNat (0 : Int)) (Tree.need (l.getD i.toNat (0 : Int) < (↑ns.length : Int)) (Tree.ite (nE (el ns (l.getD i.toNat (0 : Int))) == ev) (Tree.need ((0 : Int) ≤ l.getD i.toNat (0 : Int)) (Tree.need (l.getD i.toNat (0 : Int) < (↑ns.length : Int)) (Tree.ite (decide (nY (el ns (l.getD i.toNat (0 : Int))) = k)) (Tree.ite (decide (i ≥ (0 : Int))) (Tree.need ((0 : Int) ≤ i) (Tree.need (i < (↑l.length : Int)) (Tree.ret [AObj.own [AV.s (SV.str a), AV.s (SV.ro (Con.typ cV vs)), AV.s (SV.ro (Con.typ cN ns)), AV.s (SV.ro (Con.typ cF fs))] (43 : Nat), AObj.own [AV.s (SV.int IntKind.u8 ev)] (5 : Nat), AObj.own [AV.s (SV.str k)] (9 : Nat)] (AV.tup [AV.s (SV.int IntKind.i64 (l.getD i.toNat (0 : Int))), AV.s (SV.blit true)])))) (Tree.need ((0 : Int) ≤ (1 : Int)) (Tree.need ((1 : Int) < (↑(2 : Nat) : Int)) (Tree.at (Cfg.mk (sl (47 : Nat) [((0 : Nat), AV.s (SV.ro (Con.ints IntKind.i64 l))), ((1 : Nat), AV.fn (17 : Nat) [AV.ptr (0 : Nat) (0 : Nat), AV.ptr (1 : Nat) (0 : Nat), AV.ptr (2 : Nat) (0 : Nat)]), ((7 : Nat), AV.s (SV.int IntKind.i64 (↑l.length : Int))), ((8 : Nat), AV.s (SV.int IntKind.i64 (0 : Int))), ((20 : Nat), AV.s (SV.ro (Con.ints IntKind.i64 l))), ((23 : Nat), AV.ptr (0 : Nat) (0 : Nat)), ((25 : Nat), AV.ptr (1 : Nat) (0 : Nat)), ((30 : Nat), AV.ptr (2 : Nat) (0 : Nat)), ((33 : Nat), AV.agg [AV.s (SV.str key), AV.s (SV.str ByteArray.empty)]), ((34 : Nat), AV.s (SV.int IntKind.i64 (1 : Int)))]) [AObj.own [AV.s (SV.str a), AV.s (SV.ro (Con.typ cV vs)), AV.s (SV.ro (Con.typ cN ns)), AV.s (SV.ro (Con.typ cF fs))] (43 : Nat), AObj.own [AV.s (SV.int IntKind.u8 ev)] (5 : Nat), AObj.own [AV.s (SV.str ByteArray.empty)] (9 : Nat)] (hd Try.f16 (2 : Nat)) (Stk.mk (some (16 : Nat)) false (0 : Nat) [inCall Try.f10 none (4 : Nat) (2 : Nat) false (0 : Nat)] (0 : Nat))))))) (Tree.need (inI64 (i + (1 : Int))) (Tree.at (Cfg.mk (sl (47 : Nat) [((0 : Nat), AV.s (SV.ro (Con.ints IntKind.i64 l))), ((1 : Nat), AV.fn (17 : Nat) [AV.ptr (0 : Nat) (0 : Nat), AV.ptr (1 : Nat) (0 : Nat), AV.ptr (2 : Nat) (0 : Nat)]), ((7 : Nat), AV.s (SV.int IntKind.i64 (↑l.length : Int))), ((8 : Nat), AV.s (SV.int IntKind.i64 (i + (1 : Int)))), ((20 : Nat), AV.s (SV.ro (Con.ints IntKind.i64 l))), ((23 : Nat), AV.ptr (0 : Nat) (0 : Nat)), ((25 : Nat), AV.ptr (1 : Nat) (0 : Nat)), ((30 : Nat), AV.ptr (2 : Nat) (0 : Nat)), ((33 : Nat), AV.agg [AV.s (SV.str key), AV.s (SV.str ByteArray.empty)]), ((34 : Nat), AV.s (SV.int IntKind.i64 (0 : Int)))]) [AObj.own [AV.s (SV.str a), AV.s (SV.ro (Con.typ cV vs)), AV.s (SV.ro (Con.typ cN ns)), AV.s (SV.ro (Con.typ cF fs))] (43 : Nat), AObj.own [AV.s (SV.int IntKind.u8 ev)] (5 : Nat), AObj.own [AV.s (SV.str k)] (9 : Nat)] (hd Try.f16 (2 : Nat)) (Stk.mk (some (16 : Nat)) false (0 : Nat) [inCall Try.f10 none (4 : Nat) (2 : Nat) false (0 : Nat)] (0 : Nat)))))))) (Tree.need (inI64 (i + (1 : Int))) (Tree.at (Cfg.mk (sl (47 : Nat) [((0 : Nat), AV.s (SV.ro (Con.ints IntKind.i64 l))), ((1 : Nat), AV.fn (17 : Nat) [AV.ptr (0 : Nat) (0 : Nat), AV.ptr (1 : Nat) (0 : Nat), AV.ptr (2 : Nat) (0 : Nat)]), ((7 : Nat), AV.s (SV.int IntKind.i64 (↑l.length : Int))), ((8 : Nat), AV.s (SV.int IntKind.i64 (i + (1 : Int)))), ((20 : Nat), AV.s (SV.ro (Con.ints IntKind.i64 l))), ((23 : Nat), AV.ptr (0 : Nat) (0 : Nat)), ((25 : Nat), AV.ptr (1 : Nat) (0 : Nat)), ((30 : Nat), AV.ptr (2 : Nat) (0 : Nat)), ((33 : Nat), AV.agg [AV.s (SV.str key), AV.s (SV.str ByteArray.empty)]), ((34 : Nat), AV.s (SV.int IntKind.i64 (0 : Int)))]) [AObj.own [AV.s (SV.str a), AV.s (SV.ro (Con.typ cV vs)), AV.s (SV.ro (Con.typ cN ns)), AV.s (SV.ro (Con.typ cF fs))] (43 : Nat), AObj.own [AV.s (SV.int IntKind.u8 ev)] (5 : Nat), AObj.own [AV.s (SV.str k)] (9 : Nat)] (hd Try.f16 (2 : Nat)) (Stk.mk (some (16 : Nat)) false (0 : Nat) [inCall Try.f10 none (4 : Nat) (2 : Nat) false (0 : Nat)] (0 : Nat))))))))
          (Tree.need (inI64 (i + (1 : Int))) (Tree.at (Cfg.mk (sl (47 : Nat) [((0 : Nat), AV.s (SV.ro (Con.ints IntKind.i64 l))), ((1 : Nat), AV.fn (17 : Nat) [AV.ptr (0 : Nat) (0 : Nat), AV.ptr (1 : Nat) (0 : Nat), AV.ptr (2 : Nat) (0 : Nat)]), ((7 : Nat), AV.s (SV.int IntKind.i64 (↑l.length : Int))), ((8 : Nat), AV.s (SV.int IntKind.i64 (i + (1 : Int)))), ((20 : Nat), AV.s (SV.ro (Con.ints IntKind.i64 l))), ((23 : Nat), AV.ptr (0 : Nat) (0 : Nat)), ((25 : Nat), AV.ptr (1 : Nat) (0 : Nat)), ((30 : Nat), AV.ptr (2 : Nat) (0 : Nat)), ((33 : Nat), AV.agg [AV.s (SV.str key), AV.s (SV.str ByteArray.empty)]), ((34 : Nat), AV.s (SV.int IntKind.i64 (0 : Int)))]) [AObj.own [AV.s (SV.str a), AV.s (SV.ro (Con.typ cV vs)), AV.s (SV.ro (Con.typ cN ns)), AV.s (SV.ro (Con.typ cF fs))] (43 : Nat), AObj.own [AV.s (SV.int IntKind.u8 ev)] (5 : Nat), AObj.own [AV.s (SV.str k)] (9 : Nat)] (hd Try.f16 (2 : Nat)) (Stk.mk (some (16 : Nat)) false (0 : Nat) [inCall Try.f10 none (4 : Nat) (2 : Nat) false (0 : Nat)] (0 : Nat))))))
        (Tree.need (inI64 (i + (1 : Int))) (Tree.at (Cfg.mk (sl (47 : Nat) [((0 : Nat), AV.s (SV.ro (Con.ints IntKind.i64 l))), ((1 : Nat), AV.fn (17 : Nat) [AV.ptr (0 : Nat) (0 : Nat), AV.ptr (1 : Nat) (0 : Nat), AV.ptr (2 : Nat) (0 : Nat)]), ((7 : Nat), AV.s (SV.int IntKind.i64 (↑l.length : Int))), ((8 : Nat), AV.s (SV.int IntKind.i64 (i + (1 : Int)))), ((20 : Nat), AV.s (SV.ro (Con.ints IntKind.i64 l))), ((23 : Nat), AV.ptr (0 : Nat) (0 : Nat)), ((25 : Nat), AV.ptr (1 : Nat) (0 : Nat)), ((30 : Nat), AV.ptr (2 : Nat) (0 : Nat)), ((33 : Nat), AV.agg [AV.s (SV.str key), AV.s (SV.str ByteArray.empty)]), ((34 : Nat), AV.s (SV.int IntKind.i64 (0 : Int)))]) [AObj.own [AV.s (SV.str a), AV.s (SV.ro (Con.typ cV vs)), AV.s (SV.ro (Con.typ cN ns)), AV.s (SV.ro (Con.typ cF fs))] (43 : Nat), AObj.own [AV.s (SV.int IntKind.u8 ev)] (5 : Nat), AObj.own [AV.s (SV.str k)] (9 : Nat)] (hd Try.f16 (2 : Nat)) (Stk.mk (some (16 : Nat)) false (0 : Nat) [inCall Try.f10 none (4 : Nat) (2 : Nat) false (0 : Nat)] (0 : Nat))))))))
  (Tree.need ((0 : Int) ≤ (1 : Int)) (Tree.need ((1 : Int) < (↑(2 : Nat) : Int)) (Tree.at (Cfg.mk (sl (47 : Nat) [((0 : Nat), AV.s (SV.ro (Con.ints IntKind.i64 l))), ((1 : Nat), AV.fn (17 : Nat) [AV.ptr (0 : Nat) (0 : Nat), AV.ptr (1 : Nat) (0 : Nat), AV.ptr (2 : Nat) (0 : Nat)]), ((7 : Nat), AV.s (SV.int IntKind.i64 (↑l.length : Int))), ((8 : Nat), AV.s (SV.int IntKind.i64 (0 : Int))), ((20 : Nat), AV.s (SV.ro (Con.ints IntKind.i64 l))), ((23 : Nat), AV.ptr (0 : Nat) (0 : Nat)), ((25 : Nat), AV.ptr (1 : Nat) (0 : Nat)), ((30 : Nat), AV.ptr (2 : Nat) (0 : Nat)), ((33 : Nat), AV.agg [AV.s (SV.str key), AV.s (SV.str ByteArray.empty)]), ((34 : Nat), AV.s (SV.int IntKind.i64 (1 : Int)))]) [AObj.own [AV.s (SV.str a), AV.s (SV.ro (Con.typ cV vs)), AV.s (SV.ro (Con.typ cN ns)), AV.s (SV.ro (Con.typ cF fs))] (43 : Nat), AObj.own [AV.s (SV.int IntKind.u8 ev)] (5 : Nat), AObj.own [AV.s (SV.str ByteArray.empty)] (9 : Nat)] (hd Try.f16 (2 : Nat)) (Stk.mk (some (16 : Nat)) false (0 : Nat) [inCall Try.f10 none (4 : Nat) (2 : Nat) false (0 : Nat)] (0 : Nat)))))) := by kernel_rfl
theorem lopCh1 (a : ByteArray) (vs : List (CL cV)) (ns : List (CL cN)) (fs : List (CL cF)) (l : List Int) (ev : Int) (key k : ByteArray) (i : Int) : run P tab0.sum Try.f10 nsCh (cChL a vs ns fs l ev key k 1 i) inCh =
  Tree.ite (decide (i < (↑l.length : Int)))
  (Tree.need ((0 : Int) ≤ i)
    (Tree.need (i < (↑l.length : Int))
      (Tree.ite (decide (l.getD i.toNat (0 : Int) ≥ (0 : Int)))
        (Tree.ite (decide (l.getD i.toNat (0 : Int) < (↑ns.length : Int))) (Tree.need ((0 : Int) ≤ l.getD i.toNat (0 : Int)) (Tree.need (l.getD i.toNat (0 : Int) < (↑ns.length : Int)) (Tree.ite (nE (el ns (l.getD i.toNat (0 : Int))) == ev) (Tree.need ((0 : Int) ≤ l.getD i.toNat (0 : Int)) (Tree.need (l.getD i.toNat (0 : Int) < (↑ns.length : Int)) (Tree.ite (decide (nY (el ns (l.getD i.toNat (0 : Int))) = k)) (Tree.ite (decide (i ≥ (0 : Int))) (Tree.need ((0 : Int) ≤ i) (Tree.need (i < (↑l.length : Int)) (Tree.ret [AObj.own [AV.s (SV.str a), AV.s (SV.ro (Con.typ cV vs)), AV.s (SV.ro (Con.typ cN ns)), AV.s (SV.ro (Con.typ cF fs))] (43 : Nat), AObj.own [AV.s (SV.int IntKind.u8 ev)] (5 : Nat), AObj.own [AV.s (SV.str k)] (9 : Nat)] (AV.tup [AV.s (SV.int IntKind.i64 (l.getD i.toNat (0 : Int))), AV.s (SV.blit true)])))) (Tree.ret [AObj.own [AV.s (SV.str a), AV.s (SV.ro (Con.typ cV vs)), AV.s (SV.ro (Con.typ cN ns)), AV.s (SV.ro (Con.typ cF fs))] (43 : Nat), AObj.own [AV.s (SV.int IntKind.u8 ev)] (5 : Nat), AObj.own [AV.s (SV.str k)] (9 : Nat)] (AV.tup [AV.s (SV.ilit IntKind.i64 (0 : Int)), AV.s (SV.blit false)]))) (Tree.need (inI64 (i + (1 : Int))) (Tree.at (Cfg.mk (sl (47 : Nat) [((0 : Nat), AV.s (SV.ro (Con.ints IntKind.i64 l))), ((1 : Nat), AV.fn (17 : Nat) [AV.ptr (0 : Nat) (0 : Nat), AV.ptr (1 : Nat) (0 : Nat), AV.ptr (2 : Nat) (0 : Nat)]), ((7 : Nat), AV.s (SV.int IntKind.i64 (↑l.length : Int))), ((8 : Nat), AV.s (SV.int IntKind.i64 (i + (1 : Int)))), ((20 : Nat), AV.s (SV.ro (Con.ints IntKind.i64 l))), ((23 : Nat), AV.ptr (0 : Nat) (0 : Nat)), ((25 : Nat), AV.ptr (1 : Nat) (0 : Nat)), ((30 : Nat), AV.ptr (2 : Nat) (0 : Nat)), ((33 : Nat), AV.agg [AV.s (SV.str key), AV.s (SV.str ByteArray.empty)]), ((34 : Nat), AV.s (SV.int IntKind.i64 (1 : Int)))]) [AObj.own [AV.s (SV.str a), AV.s (SV.ro (Con.typ cV vs)), AV.s (SV.ro (Con.typ cN ns)), AV.s (SV.ro (Con.typ cF fs))] (43 : Nat), AObj.own [AV.s (SV.int IntKind.u8 ev)] (5 : Nat), AObj.own [AV.s (SV.str k)] (9 : Nat)] (hd Try.f16 (2 : Nat)) (Stk.mk (some (16 : Nat)) false (0 : Nat) [inCall Try.f10 none (4 : Nat) (2 : Nat) false (0 : Nat)] (0 : Nat)))))))) (Tree.need (inI64 (i + (1 : Int))) (Tree.at (Cfg.mk (sl (47 : Nat) [((0 : Nat), AV.s (SV.ro (Con.ints IntKind.i64 l))), ((1 : Nat), AV.fn (17 : Nat) [AV.ptr (0 : Nat) (0 : Nat), AV.ptr (1 : Nat) (0 : Nat), AV.ptr (2 : Nat) (0 : Nat)]), ((7 : Nat), AV.s (SV.int IntKind.i64 (↑l.length : Int))), ((8 : Nat), AV.s (SV.int IntKind.i64 (i + (1 : Int)))), ((20 : Nat), AV.s (SV.ro (Con.ints IntKind.i64 l))), ((23 : Nat), AV.ptr (0 : Nat) (0 : Nat)), ((25 : Nat), AV.ptr (1 : Nat) (0 : Nat)), ((30 : Nat), AV.ptr (2 : Nat) (0 : Nat)), ((33 : Nat), AV.agg [AV.s (SV.str key), AV.s (SV.str ByteArray.empty)]), ((34 : Nat), AV.s (SV.int IntKind.i64 (1 : Int)))]) [AObj.own [AV.s (SV.str a), AV.s (SV.ro (Con.typ cV vs)), AV.s (SV.ro (Con.typ cN ns)), AV.s (SV.ro (Con.typ cF fs))] (43 : Nat), AObj.own [AV.s (SV.int IntKind.u8 ev)] (5 : Nat), AObj.own [AV.s (SV.str k)] (9 : Nat)] (hd Try.f16 (2 : Nat)) (Stk.mk (some (16 : Nat)) false (0 : Nat) [inCall Try.f10 none (4 : Nat) (2 : Nat) false (0 : Nat)] (0 : Nat))))))))
          (Tree.need (inI64 (i + (1 : Int))) (Tree.at (Cfg.mk (sl (47 : Nat) [((0 : Nat), AV.s (SV.ro (Con.ints IntKind.i64 l))), ((1 : Nat), AV.fn (17 : Nat) [AV.ptr (0 : Nat) (0 : Nat), AV.ptr (1 : Nat) (0 : Nat), AV.ptr (2 : Nat) (0 : Nat)]), ((7 : Nat), AV.s (SV.int IntKind.i64 (↑l.length : Int))), ((8 : Nat), AV.s (SV.int IntKind.i64 (i + (1 : Int)))), ((20 : Nat), AV.s (SV.ro (Con.ints IntKind.i64 l))), ((23 : Nat), AV.ptr (0 : Nat) (0 : Nat)), ((25 : Nat), AV.ptr (1 : Nat) (0 : Nat)), ((30 : Nat), AV.ptr (2 : Nat) (0 : Nat)), ((33 : Nat), AV.agg [AV.s (SV.str key), AV.s (SV.str ByteArray.empty)]), ((34 : Nat), AV.s (SV.int IntKind.i64 (1 : Int)))]) [AObj.own [AV.s (SV.str a), AV.s (SV.ro (Con.typ cV vs)), AV.s (SV.ro (Con.typ cN ns)), AV.s (SV.ro (Con.typ cF fs))] (43 : Nat), AObj.own [AV.s (SV.int IntKind.u8 ev)] (5 : Nat), AObj.own [AV.s (SV.str k)] (9 : Nat)] (hd Try.f16 (2 : Nat)) (Stk.mk (some (16 : Nat)) false (0 : Nat) [inCall Try.f10 none (4 : Nat) (2 : Nat) false (0 : Nat)] (0 : Nat))))))
        (Tree.need (inI64 (i + (1 : Int))) (Tree.at (Cfg.mk (sl (47 : Nat) [((0 : Nat), AV.s (SV.ro (Con.ints IntKind.i64 l))), ((1 : Nat), AV.fn (17 : Nat) [AV.ptr (0 : Nat) (0 : Nat), AV.ptr (1 : Nat) (0 : Nat), AV.ptr (2 : Nat) (0 : Nat)]), ((7 : Nat), AV.s (SV.int IntKind.i64 (↑l.length : Int))), ((8 : Nat), AV.s (SV.int IntKind.i64 (i + (1 : Int)))), ((20 : Nat), AV.s (SV.ro (Con.ints IntKind.i64 l))), ((23 : Nat), AV.ptr (0 : Nat) (0 : Nat)), ((25 : Nat), AV.ptr (1 : Nat) (0 : Nat)), ((30 : Nat), AV.ptr (2 : Nat) (0 : Nat)), ((33 : Nat), AV.agg [AV.s (SV.str key), AV.s (SV.str ByteArray.empty)]), ((34 : Nat), AV.s (SV.int IntKind.i64 (1 : Int)))]) [AObj.own [AV.s (SV.str a), AV.s (SV.ro (Con.typ cV vs)), AV.s (SV.ro (Con.typ cN ns)), AV.s (SV.ro (Con.typ cF fs))] (43 : Nat), AObj.own [AV.s (SV.int IntKind.u8 ev)] (5 : Nat), AObj.own [AV.s (SV.str k)] (9 : Nat)] (hd Try.f16 (2 : Nat)) (Stk.mk (some (16 : Nat)) false (0 : Nat) [inCall Try.f10 none (4 : Nat) (2 : Nat) false (0 : Nat)] (0 : Nat))))))))
  (Tree.ret [AObj.own [AV.s (SV.str a), AV.s (SV.ro (Con.typ cV vs)), AV.s (SV.ro (Con.typ cN ns)), AV.s (SV.ro (Con.typ cF fs))] (43 : Nat), AObj.own [AV.s (SV.int IntKind.u8 ev)] (5 : Nat), AObj.own [AV.s (SV.str k)] (9 : Nat)] (AV.tup [AV.s (SV.ilit IntKind.i64 (0 : Int)), AV.s (SV.blit false)])) := by kernel_rfl
theorem df_end {ps : Ps} {name : ByteArray} (h : defP ps name = -1) : getP ps name = CL.d cP ∧ hasP ps name = false := by
  refine ⟨?_, by unfold hasP; rw [h]; rfl⟩
  show el ps (whereP ps name) = _
  unfold whereP
  rw [if_neg (by omega)]
  show ps.getD (ps.length : Int).toNat (CL.d cP) = _
  simp [List.getD]
theorem def_ok {Z : Glob} : FnOk P Z 20 [tSt, tStr] [tPrr, tBool] (fun _ => []) (fun ((_, _, ps, _, _, _, ()), name, ()) => ((pN (getP ps name), pV (getP ps name), pO (getP ps name), pF (getP ps name), ()), hasP ps name, ())) := by
  refine fnOk_of_safe Try.func20 (by kernel_rfl) (by kernel_rfl) ?_
  rintro ⟨⟨(ck : Int), (nx : Int), (ps : Ps), (is : Is), (cs : Cs), (ws : Ws), ⟨⟩⟩, (name : ByteArray), ⟨⟩⟩ ⟨⟨_, _, (hl : ps.length ≤ maxLen), _⟩, _⟩ _ X hX hz
  have hl2 : ps.length ≤ 9223372036854775807 := by unfold maxLen at hl; omega
  show Safe P 20 X (Ends [tPrr, tBool] ((pN (getP ps name), pV (getP ps name), pO (getP ps name), pF (getP ps name), ()), hasP ps name, ())) _
  have loop : ∀ (j k : Nat), k + j = ps.length → (∀ i (hi : i < k) (h2 : i < ps.length), pDf name ps[i] = false) → Safe P 20 X (Ends [tPrr, tBool] ((pN (getP ps name), pV (getP ps name), pO (getP ps name), pF (getP ps name), ()), hasP ps name, ())) (cDf ck nx ps is cs ws name (k : Int)) := by
    intro j
    induction j with
    | zero =>
      intro k hk hi
      have e : defP ps name = -1 := idxF_none fun j hj => hi j (by omega) hj
      obtain ⟨e1, e2⟩ := df_end e
      refine go hz hX Tab.Ok.nil Try.func20 (loopDf ck nx ps is cs ws name k) ⟨fun h => absurd (of_decide_eq_true h) (by omega), fun _ => ?_⟩
      rw [e1, e2]; exact ends_eq _ rfl (by kernel_rfl)
    | succ j ih =>
      intro k hk hi
      have hlt : k < ps.length := by omega
      refine go hz hX Tab.Ok.nil Try.func20 (loopDf ck nx ps is cs ws name k) (yes_and (decide_eq_true (by omega)) ⟨by omega, by omega, ?_⟩)
      have next := fun h : pDf name ps[k] = false => ih (k + 1) (by omega) fun i h1 h2 => by
        by_cases e : i = k
        · subst e; exact h
        · exact hi i (by omega) h2
      have fin := fun h : pDf name ps[k] = true => idxF_at (p := pDf name) hlt h fun j hj => hi j hj (by omega)
      cases hp : pDf name ps[k] with
      | true =>
        have e : defP ps name = (k : Int) := fin hp
        have e1 : getP ps name = el ps (k : Int) := by
          show el ps (whereP ps name) = _
          unfold whereP
          rw [if_pos (by omega), e]
        have e2 : hasP ps name = true := by unfold hasP; rw [decide_eq_true (by omega)]
        have hp' : pN (el ps (k : Int)) = name := by rw [el_lt hlt]; exact of_decide_eq_true hp
        refine yes_and (decide_eq_true hp') (no_and (decide_eq_false (by omega)) ⟨by omega, by omega, ?_⟩)
        rw [e1, e2]
        generalize el ps (k : Int) = x
        exact ends_eq _ rfl (by kernel_rfl)
      | false =>
        have hp' : ¬ pN (el ps (k : Int)) = name := by rw [el_lt hlt]; exact of_decide_eq_false hp
        exact no_and (decide_eq_false hp') ⟨⟨by omega, by omega⟩, next hp⟩
  exact go hz hX Tab.Ok.nil Try.func20 (trDf ck nx ps is cs ws name) (loop ps.length 0 (by omega) fun i hi => absurd hi (Nat.not_lt_zero _))
theorem pCh_iff {ns : List (CL cN)} {ev : Int} {k : ByteArray} {n : Int} : pCh ns ev k n = true ↔ 0 ≤ n ∧ n < (ns.length : Int) ∧ nE (el ns n) = ev ∧ nY (el ns n) = k := by
  unfold pCh
  rw [Bool.and_eq_true, Bool.and_eq_true, Bool.and_eq_true, decide_eq_true_iff, decide_eq_true_iff, decide_eq_true_iff, beq_iff_eq, and_assoc, and_assoc]
theorem pCh_no {ns : List (CL cN)} {ev : Int} {k : ByteArray} {n : Int} (h : ¬ (0 ≤ n ∧ n < (ns.length : Int) ∧ nE (el ns n) = ev ∧ nY (el ns n) = k)) : pCh ns ev k n = false := by
  cases hb : pCh ns ev k n with
  | false => rfl
  | true => exact absurd (pCh_iff.1 hb) h
theorem choose_ok {Z : Glob} : FnOk P Z 10 [tPr, tNs, tU8, tStr] [tInt, tBool] (fun _ => []) (fun ((_, _, ns, _, ()), l, ev, key, ()) => ((chooseF ns l ev key).1, (chooseF ns l ev key).2, ())) := by
  refine fnOk_of_safe Try.func10 (by kernel_rfl) (by kernel_rfl) ?_
  rintro ⟨⟨(a : ByteArray), (vs : List (CL cV)), (ns : List (CL cN)), (fs : List (CL cF)), ⟨⟩⟩, (l : List Int), (ev : Int), (key : ByteArray), ⟨⟩⟩ ⟨_, (hl : l.length ≤ maxLen), _⟩ _ X hX hz
  have hl2 : l.length ≤ 9223372036854775807 := by unfold maxLen at hl; omega
  show Safe P 10 X (Ends [tInt, tBool] ((chooseF ns l ev key).1, (chooseF ns l ev key).2, ())) _
  have loop1 : idxF (pCh ns ev key) l = -1 → ∀ (j i : Nat), i + j = l.length → (∀ k (hk : k < i) (h2 : k < l.length), pCh ns ev ByteArray.empty l[k] = false) → Safe P 10 X (Ends [tInt, tBool] ((chooseF ns l ev key).1, (chooseF ns l ev key).2, ())) (cCh a vs ns fs l ev key ByteArray.empty 1 (i : Int)) := by
    intro hno j
    induction j with
    | zero =>
      intro i hi hn
      have e : idxF (pCh ns ev ByteArray.empty) l = -1 := idxF_none fun j hj => hn j (by omega) hj
      have e2 : chooseF ns l ev key = (0, false) := by unfold chooseF; rw [if_neg (by omega), if_neg (by omega)]
      refine slot_lit_safe (t := 34) (k := .i64) (n := 1) rfl ?_
      refine go hz hX Tab.Ok.nil Try.func10 (lopCh1 a vs ns fs l ev key _ i) (no_and (decide_eq_false (by omega)) ?_)
      rw [e2]; exact ends_eq _ rfl (by kernel_rfl)
    | succ j ih =>
      intro i hi hn
      have hlt : i < l.length := by omega
      refine slot_lit_safe (t := 34) (k := .i64) (n := 1) rfl ?_
      refine go hz hX Tab.Ok.nil Try.func10 (lopCh1 a vs ns fs l ev key _ i) (yes_and (decide_eq_true (by omega)) ⟨by omega, by omega, ?_⟩)
      have next := fun h : pCh ns ev ByteArray.empty l[i] = false => ih (i + 1) (by omega) fun k h1 h2 => by
        by_cases e : k = i
        · subst e; exact h
        · exact hn k (by omega) h2
      have fin := fun h : pCh ns ev ByteArray.empty l[i] = true => idxF_at (p := pCh ns ev ByteArray.empty) hlt h fun j hj => hn j hj (by omega)
      rw [Int.toNat_natCast, getD_lt hlt]
      generalize hx : l[i] = x at *
      repeat' (with_reducible (first | refine h_eq ?_ | refine h_need ?_ ?_ | refine h_dec (fun _ => ?_) (fun _ => ?_) | refine h_beq (fun _ => ?_) (fun _ => ?_) | refine h_bne (fun _ => ?_) (fun _ => ?_) | refine h_tt ?_ | refine h_ff ?_ | refine h_not ?_ | refine h_ite (fun _ => ?_) (fun _ => ?_) | refine h_both (fun _ => ?_) (fun _ => ?_) | refine h_ret ?_ | refine h_at ?_))
      all_goals first | omega | exact ⟨by omega, by omega⟩ | exact next (pCh_no fun h => by obtain ⟨h1, h2, h3, h4⟩ := h; first | omega | contradiction) | skip
      all_goals
        have e : idxF (pCh ns ev ByteArray.empty) l = (i : Int) := fin (pCh_iff.2 ⟨by omega, by omega, by assumption, by assumption⟩)
        have e2 : chooseF ns l ev key = (x, true) := by unfold chooseF; rw [if_neg (by omega), if_pos (by omega), e, Int.toNat_natCast, getD_lt hlt, hx]
        rw [e2]; exact ends_eq _ rfl (by kernel_rfl)
  have loop0 : ∀ (j i : Nat), i + j = l.length → (∀ k (hk : k < i) (h2 : k < l.length), pCh ns ev key l[k] = false) → Safe P 10 X (Ends [tInt, tBool] ((chooseF ns l ev key).1, (chooseF ns l ev key).2, ())) (cCh a vs ns fs l ev key key 0 (i : Int)) := by
    intro j
    induction j with
    | zero =>
      intro i hi hn
      have e : idxF (pCh ns ev key) l = -1 := idxF_none fun j hj => hn j (by omega) hj
      refine slot_lit_safe (t := 34) (k := .i64) (n := 0) rfl ?_
      exact go hz hX Tab.Ok.nil Try.func10 (lopCh a vs ns fs l ev key _ i) (no_and (decide_eq_false (by omega)) ⟨by omega, by omega, loop1 e l.length 0 (by omega) (fun k hk => absurd hk (Nat.not_lt_zero _))⟩)
    | succ j ih =>
      intro i hi hn
      have hlt : i < l.length := by omega
      refine slot_lit_safe (t := 34) (k := .i64) (n := 0) rfl ?_
      refine go hz hX Tab.Ok.nil Try.func10 (lopCh a vs ns fs l ev key _ i) (yes_and (decide_eq_true (by omega)) ⟨by omega, by omega, ?_⟩)
      have next := fun h : pCh ns ev key l[i] = false => ih (i + 1) (by omega) fun k h1 h2 => by
        by_cases e : k = i
        · subst e; exact h
        · exact hn k (by omega) h2
      have fin := fun h : pCh ns ev key l[i] = true => idxF_at (p := pCh ns ev key) hlt h fun j hj => hn j hj (by omega)
      rw [Int.toNat_natCast, getD_lt hlt]
      generalize hx : l[i] = x at *
      repeat' (with_reducible (first | refine h_eq ?_ | refine h_need ?_ ?_ | refine h_dec (fun _ => ?_) (fun _ => ?_) | refine h_beq (fun _ => ?_) (fun _ => ?_) | refine h_bne (fun _ => ?_) (fun _ => ?_) | refine h_tt ?_ | refine h_ff ?_ | refine h_not ?_ | refine h_ite (fun _ => ?_) (fun _ => ?_) | refine h_both (fun _ => ?_) (fun _ => ?_) | refine h_ret ?_ | refine h_at ?_))
      all_goals first | omega | exact ⟨by omega, by omega⟩ | exact next (pCh_no fun h => by obtain ⟨h1, h2, h3, h4⟩ := h; first | omega | contradiction) | skip
      all_goals
        have e : idxF (pCh ns ev key) l = (i : Int) := fin (pCh_iff.2 ⟨by omega, by omega, by assumption, by assumption⟩)
        have e2 : chooseF ns l ev key = (x, true) := by unfold chooseF; rw [if_pos (by omega), e, Int.toNat_natCast, getD_lt hlt, hx]
        rw [e2]; exact ends_eq _ rfl (by kernel_rfl)
  refine go hz hX Tab.Ok.nil Try.func10 (trCh a vs ns fs l ev key) ⟨by omega, by omega, ?_⟩
  exact loop0 l.length 0 (by omega) (fun k hk => absurd hk (Nat.not_lt_zero _))
end Ds

namespace Ds
open Go Go.Sx Go.Proofs Lf
/-! Activity: does a row have a byte -/
abbrev tBs : Ty := .b (.row (.ints .u8) 5)
abbrev avU (n : Int) : AV := .s (.int .u8 n)
abbrev avLu (l : List Int) : AV := .s (.ro (.ints .u8 l))
abbrev fIj8 : FuncId := 37
abbrev inH8 : List FuncId := [fIj8]
def nsH8 : List (Nat × Norm) := [((fIj8 + 1) * 100000 + 2, ⟨[], [0, 1, 7, 8], 0, []⟩)]
noncomputable def cH8 (l : List Int) (x i : Int) : Cfg := ⟨sl 28 [(0, avLu l), (1, avU x), (7, avI (l.length : Int)), (8, avI i)], [], hd Try.f37 2, ⟨some fIj8, false, 0, [inCall Try.f30 none 1 2 false 0], 0⟩⟩
abbrev sumH8 := sumOf [tBs, tU8] [tBool] (fun _ => []) (fun (l, x, ()) => ((l : List Int).contains x, ()))
def tabAc : Tab := [(30, sumH8)]
def actF (k : Int) : Bool := [(3 : Int), 11, 12, 14].contains k
/-! NodeOf, bounds, asides -/
abbrev sumDf := sumR [tSt, tStr] [tPrr, tBool] (fun _ => []) (fun ((_, _, ps, _, _, _, ()), name, ()) => ((pN (getP ps name), pV (getP ps name), pO (getP ps name), pF (getP ps name), ()), hasP ps name, ()))
def tabNo : Tab := [(20, sumDf)]
def idxsF {α : Type} (p : α → Bool) : List α → Int → List Int
  | [], _ => []
  | x :: l, i => (if p x then [i] else []) ++ idxsF p l (i + 1)
def nodeAt (ns : List (CL cN)) (n : Int) : CL cN := if 0 ≤ n ∧ n < (ns.length : Int) then el ns n else CL.d cN
def pBo (n : Int) (x : CL cN) : Bool := (nK x == 15) && (nO x == n)
def pAs (n : Int) (x : CL cN) : Bool := (nK x == 13) && (nI x == n)
def pSo (n : Int) (sc : CL cN) (x : CL cN) : Bool := (nK x == 1) && (nI x == n) && ((nE x == 0) || (nK sc == 13))
def boundsF (ns : List (CL cN)) (n : Int) : List Int := idxsF (pBo n) ns 0
def asidesF (ns : List (CL cN)) (n : Int) : List Int := idxsF (pAs n) ns 0
def startsF (ns : List (CL cN)) (n : Int) : List Int := idxsF (pSo n (nodeAt ns n)) ns 0
def startF (ns : List (CL cN)) (n : Int) : Int := (startsF ns n).getD 0 0
def hasSt (ns : List (CL cN)) (n : Int) : Bool := decide (0 < (startsF ns n).length)
theorem trH8 (l : List Int) (x : Int) : run P tab0.sum Try.f30 nsH8 (start Try.f30 [avLu l, avU x] []) inH8 =
  Tree.at (Cfg.mk (sl (28 : Nat) [((0 : Nat), AV.s (SV.ro (Con.ints IntKind.u8 l))), ((1 : Nat), AV.s (SV.int IntKind.u8 x)), ((7 : Nat), AV.s (SV.int IntKind.i64 (↑l.length : Int))), ((8 : Nat), AV.s (SV.int IntKind.i64 (0 : Int)))]) [] (hd Try.f37 (2 : Nat)) (Stk.mk (some (37 : Nat)) false (0 : Nat) [inCall Try.f30 none (1 : Nat) (2 : Nat) false (0 : Nat)] (0 : Nat))) := by kernel_rfl
theorem loopH8 (l : List Int) (x i : Int) : run P tab0.sum Try.f30 nsH8 (cH8 l x i) inH8 =
  Tree.ite (decide (i < (↑l.length : Int))) (Tree.need ((0 : Int) ≤ i) (Tree.need (i < (↑l.length : Int)) (Tree.ite (x == l.getD i.toNat (0 : Int)) (Tree.ret [] (AV.s (SV.bool (decide (i ≥ (0 : Int)))))) (Tree.need (inI64 (i + (1 : Int))) (Tree.at (Cfg.mk (sl (28 : Nat) [((0 : Nat), AV.s (SV.ro (Con.ints IntKind.u8 l))), ((1 : Nat), AV.s (SV.int IntKind.u8 x)), ((7 : Nat), AV.s (SV.int IntKind.i64 (↑l.length : Int))), ((8 : Nat), AV.s (SV.int IntKind.i64 (i + (1 : Int))))]) [] (hd Try.f37 (2 : Nat)) (Stk.mk (some (37 : Nat)) false (0 : Nat) [inCall Try.f30 none (1 : Nat) (2 : Nat) false (0 : Nat)] (0 : Nat)))))))) (Tree.ret [] (AV.s (SV.blit false))) := by kernel_rfl
theorem trAc (x : Int) : run P tabAc.sum Try.f22 [] (start Try.f22 [avU x] []) =
  Tree.ret [AObj.vec (Con.ints IntKind.u8 [(3 : Int), (11 : Int), (12 : Int), (14 : Int)]) (5 : Nat)] (AV.s (SV.bool ([(3 : Int), (11 : Int), (12 : Int), (14 : Int)].contains x))) := by kernel_rfl
theorem trNo (ck nx : Int) (ps : Ps) (is : Is) (cs : Cs) (ws : Ws) (x : CL cI) : run P tabNo.sum Try.f21 [] (start Try.f21 [avSt ck nx ps is cs ws, avIt x] []) =
  Tree.ite (!hasP ps (iP x)) (Tree.ret [AObj.own [AV.s (SV.int IntKind.i64 ck), AV.s (SV.int IntKind.i64 nx), AV.s (SV.ro (Con.typ cP ps)), AV.s (SV.ro (Con.typ cI is)), AV.s (SV.ro (Con.typ cC cs)), AV.s (SV.ro (Con.typ cW ws))] (27 : Nat), AObj.own [AV.s (SV.int IntKind.i64 (iI x)), AV.s (SV.int IntKind.i64 (iU x)), AV.s (SV.int IntKind.u8 (iS x)), AV.s (SV.str (iP x)), AV.s (SV.int IntKind.i64 (iN x)), AV.s (SV.int IntKind.i64 (iF x)), AV.s (SV.int IntKind.u8 (iW x)), AV.s (SV.str (iC x))] (45 : Nat), AObj.own [AV.s (SV.str ByteArray.empty), AV.s (SV.ilit IntKind.u8 (0 : Int)), AV.s (SV.ilit IntKind.i64 (0 : Int)), AV.s (SV.ilit IntKind.i64 (0 : Int)), AV.s (SV.ilit IntKind.u8 (0 : Int)), AV.s (SV.str ByteArray.empty), AV.s (SV.str ByteArray.empty), AV.s (SV.str ByteArray.empty), AV.s (SV.blit false), AV.emp, AV.emp] (39 : Nat), AObj.own [AV.s (SV.str (pN (getP ps (iP x)))), AV.s (SV.ro (Con.typ cV (pV (getP ps (iP x))))), AV.s (SV.ro (Con.typ cN (pO (getP ps (iP x))))), AV.s (SV.ro (Con.typ cF (pF (getP ps (iP x)))))] (43 : Nat)] (AV.tup [AV.agg [AV.s (SV.str ByteArray.empty), AV.s (SV.ilit IntKind.u8 (0 : Int)), AV.s (SV.ilit IntKind.i64 (0 : Int)), AV.s (SV.ilit IntKind.i64 (0 : Int)), AV.s (SV.ilit IntKind.u8 (0 : Int)), AV.s (SV.str ByteArray.empty), AV.s (SV.str ByteArray.empty), AV.s (SV.str ByteArray.empty), AV.s (SV.blit false), AV.emp, AV.emp], AV.s (SV.blit false)]))
  (Tree.ite (decide (iN x < (0 : Int))) (Tree.ret [AObj.own [AV.s (SV.int IntKind.i64 ck), AV.s (SV.int IntKind.i64 nx), AV.s (SV.ro (Con.typ cP ps)), AV.s (SV.ro (Con.typ cI is)), AV.s (SV.ro (Con.typ cC cs)), AV.s (SV.ro (Con.typ cW ws))] (27 : Nat), AObj.own [AV.s (SV.int IntKind.i64 (iI x)), AV.s (SV.int IntKind.i64 (iU x)), AV.s (SV.int IntKind.u8 (iS x)), AV.s (SV.str (iP x)), AV.s (SV.int IntKind.i64 (iN x)), AV.s (SV.int IntKind.i64 (iF x)), AV.s (SV.int IntKind.u8 (iW x)), AV.s (SV.str (iC x))] (45 : Nat), AObj.own [AV.s (SV.str ByteArray.empty), AV.s (SV.ilit IntKind.u8 (0 : Int)), AV.s (SV.ilit IntKind.i64 (0 : Int)), AV.s (SV.ilit IntKind.i64 (0 : Int)), AV.s (SV.ilit IntKind.u8 (0 : Int)), AV.s (SV.str ByteArray.empty), AV.s (SV.str ByteArray.empty), AV.s (SV.str ByteArray.empty), AV.s (SV.blit false), AV.emp, AV.emp] (39 : Nat), AObj.own [AV.s (SV.str (pN (getP ps (iP x)))), AV.s (SV.ro (Con.typ cV (pV (getP ps (iP x))))), AV.s (SV.ro (Con.typ cN (pO (getP ps (iP x))))), AV.s (SV.ro (Con.typ cF (pF (getP ps (iP x)))))] (43 : Nat)] (AV.tup [AV.agg [AV.s (SV.str ByteArray.empty), AV.s (SV.ilit IntKind.u8 (0 : Int)), AV.s (SV.ilit IntKind.i64 (0 : Int)), AV.s (SV.ilit IntKind.i64 (0 : Int)), AV.s (SV.ilit IntKind.u8 (0 : Int)), AV.s (SV.str ByteArray.empty), AV.s (SV.str ByteArray.empty), AV.s (SV.str ByteArray.empty), AV.s (SV.blit false), AV.emp, AV.emp], AV.s (SV.blit false)]))
    (Tree.ite (decide (iN x ≥ (↑(pO (getP ps (iP x))).length : Int))) (Tree.ret [AObj.own [AV.s (SV.int IntKind.i64 ck), AV.s (SV.int IntKind.i64 nx), AV.s (SV.ro (Con.typ cP ps)), AV.s (SV.ro (Con.typ cI is)), AV.s (SV.ro (Con.typ cC cs)), AV.s (SV.ro (Con.typ cW ws))] (27 : Nat), AObj.own [AV.s (SV.int IntKind.i64 (iI x)), AV.s (SV.int IntKind.i64 (iU x)), AV.s (SV.int IntKind.u8 (iS x)), AV.s (SV.str (iP x)), AV.s (SV.int IntKind.i64 (iN x)), AV.s (SV.int IntKind.i64 (iF x)), AV.s (SV.int IntKind.u8 (iW x)), AV.s (SV.str (iC x))] (45 : Nat), AObj.own [AV.s (SV.str ByteArray.empty), AV.s (SV.ilit IntKind.u8 (0 : Int)), AV.s (SV.ilit IntKind.i64 (0 : Int)), AV.s (SV.ilit IntKind.i64 (0 : Int)), AV.s (SV.ilit IntKind.u8 (0 : Int)), AV.s (SV.str ByteArray.empty), AV.s (SV.str ByteArray.empty), AV.s (SV.str ByteArray.empty), AV.s (SV.blit false), AV.emp, AV.emp] (39 : Nat), AObj.own [AV.s (SV.str (pN (getP ps (iP x)))), AV.s (SV.ro (Con.typ cV (pV (getP ps (iP x))))), AV.s (SV.ro (Con.typ cN (pO (getP ps (iP x))))), AV.s (SV.ro (Con.typ cF (pF (getP ps (iP x)))))] (43 : Nat)] (AV.tup [AV.agg [AV.s (SV.str ByteArray.empty), AV.s (SV.ilit IntKind.u8 (0 : Int)), AV.s (SV.ilit IntKind.i64 (0 : Int)), AV.s (SV.ilit IntKind.i64 (0 : Int)), AV.s (SV.ilit IntKind.u8 (0 : Int)), AV.s (SV.str ByteArray.empty), AV.s (SV.str ByteArray.empty), AV.s (SV.str ByteArray.empty), AV.s (SV.blit false), AV.emp, AV.emp], AV.s (SV.blit false)])) (Tree.need ((0 : Int) ≤ iN x) (Tree.need (iN x < (↑(pO (getP ps (iP x))).length : Int)) (Tree.ret [AObj.own [AV.s (SV.int IntKind.i64 ck), AV.s (SV.int IntKind.i64 nx), AV.s (SV.ro (Con.typ cP ps)), AV.s (SV.ro (Con.typ cI is)), AV.s (SV.ro (Con.typ cC cs)), AV.s (SV.ro (Con.typ cW ws))] (27 : Nat), AObj.own [AV.s (SV.int IntKind.i64 (iI x)), AV.s (SV.int IntKind.i64 (iU x)), AV.s (SV.int IntKind.u8 (iS x)), AV.s (SV.str (iP x)), AV.s (SV.int IntKind.i64 (iN x)), AV.s (SV.int IntKind.i64 (iF x)), AV.s (SV.int IntKind.u8 (iW x)), AV.s (SV.str (iC x))] (45 : Nat), AObj.own [AV.s (SV.str (nN (el (pO (getP ps (iP x))) (iN x)))), AV.s (SV.int IntKind.u8 (nK (el (pO (getP ps (iP x))) (iN x)))), AV.s (SV.int IntKind.i64 (nI (el (pO (getP ps (iP x))) (iN x)))), AV.s (SV.int IntKind.i64 (nO (el (pO (getP ps (iP x))) (iN x)))), AV.s (SV.int IntKind.u8 (nE (el (pO (getP ps (iP x))) (iN x)))), AV.s (SV.str (nY (el (pO (getP ps (iP x))) (iN x)))), AV.s (SV.str (nT (el (pO (getP ps (iP x))) (iN x)))), AV.s (SV.str (nS (el (pO (getP ps (iP x))) (iN x)))), AV.s (SV.bool (nB (el (pO (getP ps (iP x))) (iN x)))), AV.s (SV.ro (Con.typ cV (nV (el (pO (getP ps (iP x))) (iN x))))), AV.s (SV.ro (Con.strs (nZ (el (pO (getP ps (iP x))) (iN x)))))] (39 : Nat), AObj.own [AV.s (SV.str (pN (getP ps (iP x)))), AV.s (SV.ro (Con.typ cV (pV (getP ps (iP x))))), AV.s (SV.ro (Con.typ cN (pO (getP ps (iP x))))), AV.s (SV.ro (Con.typ cF (pF (getP ps (iP x)))))] (43 : Nat)] (AV.tup [AV.agg [AV.s (SV.str (nN (el (pO (getP ps (iP x))) (iN x)))), AV.s (SV.int IntKind.u8 (nK (el (pO (getP ps (iP x))) (iN x)))), AV.s (SV.int IntKind.i64 (nI (el (pO (getP ps (iP x))) (iN x)))), AV.s (SV.int IntKind.i64 (nO (el (pO (getP ps (iP x))) (iN x)))), AV.s (SV.int IntKind.u8 (nE (el (pO (getP ps (iP x))) (iN x)))), AV.s (SV.str (nY (el (pO (getP ps (iP x))) (iN x)))), AV.s (SV.str (nT (el (pO (getP ps (iP x))) (iN x)))), AV.s (SV.str (nS (el (pO (getP ps (iP x))) (iN x)))), AV.s (SV.bool (nB (el (pO (getP ps (iP x))) (iN x)))), AV.s (SV.ro (Con.typ cV (nV (el (pO (getP ps (iP x))) (iN x))))), AV.s (SV.ro (Con.strs (nZ (el (pO (getP ps (iP x))) (iN x)))))], AV.s (SV.blit true)])))))) := by kernel_rfl
theorem h8_ok {Z : Glob} : FnOk P Z 30 [tBs, tU8] [tBool] (fun _ => []) (fun (l, x, ()) => ((l : List Int).contains x, ())) := by
  refine fnOk_of_safe Try.func30 (by kernel_rfl) (by kernel_rfl) ?_
  rintro ⟨(l : List Int), (x : Int), ⟨⟩⟩ ⟨(hl : l.length ≤ maxLen), _⟩ _ X hX hz
  have hl2 : l.length ≤ 9223372036854775807 := by unfold maxLen at hl; omega
  show Safe P 30 X (Ends [tBool] (l.contains x, ())) _
  have loop : ∀ (j k : Nat), k + j = l.length → (∀ i (hi : i < k) (h2 : i < l.length), l[i] ≠ x) → Safe P 30 X (Ends [tBool] (l.contains x, ())) (cH8 l x (k : Int)) := by
    intro j
    induction j with
    | zero =>
      intro k hk hi
      have e : l.contains x = false := by
        rw [List.contains_eq_mem, decide_eq_false_iff_not]
        intro h
        obtain ⟨i, h1, h2⟩ := List.mem_iff_getElem.1 h
        exact hi i (by omega) h1 h2
      refine go hz hX Tab.Ok.nil Try.func30 (loopH8 l x k) ⟨fun h => absurd (of_decide_eq_true h) (by omega), fun _ => ?_⟩
      rw [e]; exact ends_eq _ rfl (by kernel_rfl)
    | succ j ih =>
      intro k hk hi
      have hlt : k < l.length := by omega
      refine go hz hX Tab.Ok.nil Try.func30 (loopH8 l x k) ?_
      rw [Int.toNat_natCast, getD_lt hlt]
      have next := fun h : l[k] ≠ x => ih (k + 1) (by omega) fun i h1 h2 => by
        by_cases e : i = k
        · subst e; exact h
        · exact hi i (by omega) h2
      have hit : x = l[k] → l.contains x = true := fun h => by rw [List.contains_eq_mem, decide_eq_true_iff, h]; exact List.getElem_mem hlt
      repeat' (with_reducible (first | refine h_eq ?_ | refine h_need ?_ ?_ | refine h_dec (fun _ => ?_) (fun _ => ?_) | refine h_beq (fun _ => ?_) (fun _ => ?_) | refine h_bne (fun _ => ?_) (fun _ => ?_) | refine h_tt ?_ | refine h_ff ?_ | refine h_not ?_ | refine h_ite (fun _ => ?_) (fun _ => ?_) | refine h_both (fun _ => ?_) (fun _ => ?_) | refine h_ret ?_ | refine h_at ?_))
      all_goals first | omega | exact ⟨by omega, by omega⟩ | skip
      · rename_i h
        have e1 : decide ((k : Int) ≥ 0) = true := decide_eq_true (by omega)
        rw [hit (by simpa using h), e1]; exact ends_eq _ rfl (by kernel_rfl)
      · rename_i h; exact next (fun e => by simp [e] at h)
  refine go hz hX Tab.Ok.nil Try.func30 (trH8 l x) ?_
  exact loop l.length 0 (by omega) fun i hi => absurd hi (Nat.not_lt_zero _)
theorem tabAc_ok {Z : Glob} : tabAc.Ok P Z := Tab.Ok.cons h8_ok.sum Tab.Ok.nil
theorem act_ok {Z : Glob} : FnOk P Z 22 [tU8] [tBool] (fun _ => []) (fun (k, ()) => (actF k, ())) := by
  refine fnOk_of_safe Try.func22 (by kernel_rfl) (by kernel_rfl) ?_
  rintro ⟨(k : Int), ⟨⟩⟩ _ _ X hX hz
  show Safe P 22 X (Ends [tBool] (actF k, ())) _
  refine go hz hX tabAc_ok Try.func22 (trAc k) ?_
  exact ends_eq _ rfl (by kernel_rfl)
theorem idxs_snoc {α : Type} {p : α → Bool} : ∀ (l : List α) (x : α) (i : Int), idxsF p (l ++ [x]) i = idxsF p l i ++ (if p x then [i + l.length] else [])
  | [], x, i => by simp [idxsF]
  | y :: l, x, i => by
    simp only [List.cons_append, idxsF, idxs_snoc l x (i + 1), List.append_assoc, List.length_cons]
    congr 2
    split
    · congr 1; push_cast; omega
    · rfl
theorem idxs_len {α : Type} {p : α → Bool} : ∀ (l : List α) (i : Int), (idxsF p l i).length ≤ l.length
  | [], i => Nat.le_refl _
  | y :: l, i => by
    have := idxs_len (p := p) l (i + 1)
    simp only [idxsF, List.length_append, List.length_cons]
    split <;> simp <;> omega
theorem idxs_take {cs : List CK} {p : CL cs → Bool} {l : List (CL cs)} {k : Nat} (h : k < l.length) : idxsF p (l.take (k + 1)) 0 = idxsF p (l.take k) 0 ++ (if p l[k] then [(k : Int)] else []) := by
  rw [List.take_add_one, List.getElem?_eq_getElem h, Option.toList_some, idxs_snoc, List.length_take, Nat.min_eq_left (by omega), Int.zero_add]
theorem idxs_tlen {cs : List CK} {p : CL cs → Bool} {l : List (CL cs)} {k : Nat} : (idxsF p (l.take k) 0).length ≤ k := Nat.le_trans (idxs_len _ _) (by rw [List.length_take]; omega)
theorem bo_ok {Z : Glob} : FnOk P Z 23 [tPr, tInt] [tNs] (fun ((_, _, ns, _, ()), _, ()) => [(ns : List (CL cN)).length ≤ 1000000]) (fun ((_, _, ns, _, ()), n, ()) => (boundsF ns n, ())) := by
  refine fnOk_of_safe Try.func23 (by kernel_rfl) (by kernel_rfl) ?_
  rintro ⟨⟨(a : ByteArray), (vs : List (CL cV)), (ns : List (CL cN)), (fs : List (CL cF)), ⟨⟩⟩, (n : Int), ⟨⟩⟩ _ ⟨(hl : ns.length ≤ 1000000), _⟩ X hX hz
  show Safe P 23 X (Ends [tNs] (boundsF ns n, ())) _
  have loop : ∀ (j k : Nat), k + j = ns.length → Safe P 23 X (Ends [tNs] (boundsF ns n, ())) (cNd 32 Try.f23 1 2 n ns (idxsF (pBo n) (ns.take k) 0) (k : Int)) := by
    intro j
    induction j with
    | zero =>
      intro k hk
      rw [List.take_of_length_le (by omega)]
      exact go hz hX Tab.Ok.nil Try.func23 (loopBo n ns _ k) (no_and (decide_eq_false (by omega)) (ends_eq _ rfl (by kernel_rfl)))
    | succ j ih =>
      intro k hk
      have hlt : k < ns.length := by omega
      have next := ih (k + 1) (by omega)
      rw [idxs_take hlt] at next
      have htl := idxs_tlen (p := pBo n) (l := ns) (k := k)
      refine go hz hX Tab.Ok.nil Try.func23 (loopBo n ns _ k) (yes_and (decide_eq_true (by omega)) ⟨by omega, by omega, ?_⟩)
      rw [el_lt hlt]
      generalize idxsF (pBo n) (ns.take k) 0 = acc at *
      cases h1 : nK ns[k] == 15 with
      | false =>
        have e : pBo n ns[k] = false := by unfold pBo; rw [h1]; rfl
        rw [e, if_neg (by simp), List.append_nil] at next
        exact no_and rfl ⟨⟨by omega, by omega⟩, next⟩
      | true =>
        refine yes_and rfl ?_
        cases h2 : nO ns[k] == n with
        | false =>
          have e : pBo n ns[k] = false := by unfold pBo; rw [h1, h2]; rfl
          rw [e, if_neg (by simp), List.append_nil] at next
          exact no_and rfl ⟨⟨by omega, by omega⟩, next⟩
        | true =>
          have e : pBo n ns[k] = true := by unfold pBo; rw [h1, h2]; rfl
          rw [e, if_pos rfl] at next
          exact yes_and rfl ⟨by omega, ⟨by omega, by omega⟩, next⟩
  exact go hz hX Tab.Ok.nil Try.func23 (trBo a vs ns fs n) (loop ns.length 0 (by omega))
theorem as_ok {Z : Glob} : FnOk P Z 24 [tPr, tInt] [tNs] (fun ((_, _, ns, _, ()), _, ()) => [(ns : List (CL cN)).length ≤ 1000000]) (fun ((_, _, ns, _, ()), n, ()) => (asidesF ns n, ())) := by
  refine fnOk_of_safe Try.func24 (by kernel_rfl) (by kernel_rfl) ?_
  rintro ⟨⟨(a : ByteArray), (vs : List (CL cV)), (ns : List (CL cN)), (fs : List (CL cF)), ⟨⟩⟩, (n : Int), ⟨⟩⟩ _ ⟨(hl : ns.length ≤ 1000000), _⟩ X hX hz
  show Safe P 24 X (Ends [tNs] (asidesF ns n, ())) _
  have loop : ∀ (j k : Nat), k + j = ns.length → Safe P 24 X (Ends [tNs] (asidesF ns n, ())) (cNd 33 Try.f24 1 2 n ns (idxsF (pAs n) (ns.take k) 0) (k : Int)) := by
    intro j
    induction j with
    | zero =>
      intro k hk
      rw [List.take_of_length_le (by omega)]
      exact go hz hX Tab.Ok.nil Try.func24 (loopAs n ns _ k) (no_and (decide_eq_false (by omega)) (ends_eq _ rfl (by kernel_rfl)))
    | succ j ih =>
      intro k hk
      have hlt : k < ns.length := by omega
      have next := ih (k + 1) (by omega)
      rw [idxs_take hlt] at next
      have htl := idxs_tlen (p := pAs n) (l := ns) (k := k)
      refine go hz hX Tab.Ok.nil Try.func24 (loopAs n ns _ k) (yes_and (decide_eq_true (by omega)) ⟨by omega, by omega, ?_⟩)
      rw [el_lt hlt]
      generalize idxsF (pAs n) (ns.take k) 0 = acc at *
      cases h1 : nK ns[k] == 13 with
      | false =>
        have e : pAs n ns[k] = false := by unfold pAs; rw [h1]; rfl
        rw [e, if_neg (by simp), List.append_nil] at next
        exact no_and rfl ⟨⟨by omega, by omega⟩, next⟩
      | true =>
        refine yes_and rfl ?_
        cases h2 : nI ns[k] == n with
        | false =>
          have e : pAs n ns[k] = false := by unfold pAs; rw [h1, h2]; rfl
          rw [e, if_neg (by simp), List.append_nil] at next
          exact no_and rfl ⟨⟨by omega, by omega⟩, next⟩
        | true =>
          have e : pAs n ns[k] = true := by unfold pAs; rw [h1, h2]; rfl
          rw [e, if_pos rfl] at next
          exact yes_and rfl ⟨by omega, ⟨by omega, by omega⟩, next⟩
  exact go hz hX Tab.Ok.nil Try.func24 (trAs a vs ns fs n) (loop ns.length 0 (by omega))
theorem so_ok {Z : Glob} : FnOk P Z 25 [tPr, tInt] [tInt, tBool] (fun ((_, _, ns, _, ()), _, ()) => [(ns : List (CL cN)).length ≤ 1000000]) (fun ((_, _, ns, _, ()), n, ()) => (startF ns n, hasSt ns n, ())) := by
  refine fnOk_of_safe Try.func25 (by kernel_rfl) (by kernel_rfl) ?_
  rintro ⟨⟨(a : ByteArray), (vs : List (CL cV)), (ns : List (CL cN)), (fs : List (CL cF)), ⟨⟩⟩, (n : Int), ⟨⟩⟩ _ ⟨(hl : ns.length ≤ 1000000), _⟩ X hX hz
  show Safe P 25 X (Ends [tInt, tBool] (startF ns n, hasSt ns n, ())) _
  have loop : ∀ (j k : Nat), k + j = ns.length → Safe P 25 X (Ends [tInt, tBool] (startF ns n, hasSt ns n, ())) (cSo n (nodeAt ns n) ns (idxsF (pSo n (nodeAt ns n)) (ns.take k) 0) (k : Int)) := by
    intro j
    induction j with
    | zero =>
      intro k hk
      rw [List.take_of_length_le (by omega)]
      refine go hz hX Tab.Ok.nil Try.func25 (loopSo n (nodeAt ns n) ns _ k) (no_and (decide_eq_false (by omega)) ?_)
      show Tree.Holds (Ends [tInt, tBool] ((startsF ns n).getD 0 0, decide (0 < (startsF ns n).length), ())) _ _
      rw [show idxsF (pSo n (nodeAt ns n)) ns 0 = startsF ns n from rfl]
      generalize startsF ns n = l
      generalize nodeAt ns n = x
      cases l with
      | nil => exact yes_and rfl (ends_eq _ rfl (by kernel_rfl))
      | cons y l =>
        refine no_and ?_ ⟨by omega, by simp only [List.length_cons]; omega, ?_⟩
        · rw [beq_eq_false_iff_ne, List.length_cons]; omega
        · rw [decide_eq_true (show 0 < (y :: l).length by simp)]
          exact ends_eq _ rfl (by kernel_rfl)
    | succ j ih =>
      intro k hk
      have hlt : k < ns.length := by omega
      have next := ih (k + 1) (by omega)
      rw [idxs_take hlt] at next
      have htl := idxs_tlen (p := pSo n (nodeAt ns n)) (l := ns) (k := k)
      refine go hz hX Tab.Ok.nil Try.func25 (loopSo n (nodeAt ns n) ns _ k) (yes_and (decide_eq_true (by omega)) ⟨by omega, by omega, ?_⟩)
      rw [el_lt hlt]
      generalize idxsF (pSo n (nodeAt ns n)) (ns.take k) 0 = acc at *
      have no : pSo n (nodeAt ns n) ns[k] = false → Safe P 25 X (Ends [tInt, tBool] (startF ns n, hasSt ns n, ())) (cSo n (nodeAt ns n) ns acc ((k + 1 : Nat) : Int)) := fun e => by
        rw [e, if_neg (by simp), List.append_nil] at next; exact next
      have yes : pSo n (nodeAt ns n) ns[k] = true → Safe P 25 X (Ends [tInt, tBool] (startF ns n, hasSt ns n, ())) (cSo n (nodeAt ns n) ns (acc ++ [(k : Int)]) ((k + 1 : Nat) : Int)) := fun e => by
        rw [e, if_pos rfl] at next; exact next
      clear next
      generalize nodeAt ns n = sc at *
      cases h1 : nK ns[k] == 1 with
      | false => exact no_and rfl ⟨⟨by omega, by omega⟩, no (by unfold pSo; rw [h1]; rfl)⟩
      | true =>
        refine yes_and rfl ?_
        cases h2 : nI ns[k] == n with
        | false => exact no_and rfl ⟨⟨by omega, by omega⟩, no (by unfold pSo; rw [h1, h2]; rfl)⟩
        | true =>
          refine yes_and rfl ?_
          cases h3 : nE ns[k] == 0 with
          | true => exact yes_and rfl ⟨by omega, ⟨by omega, by omega⟩, yes (by unfold pSo; rw [h1, h2, h3]; rfl)⟩
          | false =>
            refine no_and rfl ?_
            cases h4 : nK sc == 13 with
            | true => exact yes_and rfl ⟨by omega, ⟨by omega, by omega⟩, yes (by unfold pSo; rw [h1, h2, h3, h4]; rfl)⟩
            | false => exact no_and rfl ⟨⟨by omega, by omega⟩, no (by unfold pSo; rw [h1, h2, h3, h4]; rfl)⟩
  have first := loop ns.length 0 (by omega)
  refine go hz hX Tab.Ok.nil Try.func25 (trSo2 a vs ns fs n) ⟨fun h => ?_, fun h => ⟨fun h2 => ?_, fun h2 => ⟨by have := of_decide_eq_false h; omega, by have := of_decide_eq_false h2; omega, ?_⟩⟩⟩
  · have e : nodeAt ns n = CL.d cN := by unfold nodeAt; rw [if_neg (by have := of_decide_eq_true h; omega)]
    rw [e] at first
    exact first
  · have e : nodeAt ns n = CL.d cN := by unfold nodeAt; rw [if_neg (by have := of_decide_eq_true h2; omega)]
    rw [e] at first
    exact first
  · have e : nodeAt ns n = el ns n := by unfold nodeAt; rw [if_pos (by have := of_decide_eq_false h; have := of_decide_eq_false h2; omega)]
    rw [e] at first
    exact first
end Ds

namespace Ds
open Go Go.Sx Go.Proofs Lf
def ndF (ps : Ps) (name : ByteArray) (n : Int) : CL cN := nodeAt (pO (getP ps name)) n
def hasN (ps : Ps) (name : ByteArray) (n : Int) : Bool := decide (0 ≤ n ∧ n < ((pO (getP ps name)).length : Int))
abbrev noT (x : CL cN) : Ty.V tNoR := (nN x, nK x, nI x, nO x, nE x, nY x, nT x, nS x, nB x, nV x, nZ x, ())
abbrev sumNo := sumR [tSt, tIt] [tNoR, tBool] (fun _ => []) (fun ((_, _, ps, _, _, _, ()), x, ()) => (noT (ndF ps (iP x) (iN x)), hasN ps (iP x) (iN x), ()))
abbrev sumAc := sumOf [tU8] [tBool] (fun _ => []) (fun (k, ()) => (actF k, ()))
abbrev sumBo := sumR [tPr, tInt] [tNs] (fun ((_, _, ns, _, ()), _, ()) => [(ns : List (CL cN)).length ≤ 1000000]) (fun ((_, _, ns, _, ()), n, ()) => (boundsF ns n, ()))
abbrev sumAs := sumOf [tPr, tInt] [tNs] (fun ((_, _, ns, _, ()), _, ()) => [(ns : List (CL cN)).length ≤ 1000000]) (fun ((_, _, ns, _, ()), n, ()) => (asidesF ns n, ()))
abbrev sumSo := sumOf [tPr, tInt] [tInt, tBool] (fun ((_, _, ns, _, ()), _, ()) => [(ns : List (CL cN)).length ≤ 1000000]) (fun ((_, _, ns, _, ()), n, ()) => (startF ns n, hasSt ns n, ()))
abbrev tPlc : Ty := .st [.int .i64, .int .i64, .int .u8, .str, .int .i64, .int .i64, .int .u8, .str, .str, .rrow (.typ cV) eV, .rrow (.typ cN) eN, .rrow (.typ cF) eF, .rrow (.ints .i64) 3]
def tabBd : Tab := [(20, sumDf), (21, sumNo), (22, sumAc), (23, sumBo)]
abbrev ePl : TypeId := 51
def tabAd : Tab := [(20, sumDf), (24, sumAs), (25, sumSo)]
def nsAd : List (Nat × Norm) := [(7, ⟨[], [4, 5, 28, 29, 30], 0, [(1, 12, false, .ints .i64 [], 3)]⟩)]
theorem trBd (ck nx : Int) (ps : Ps) (is : Is) (cs : Cs) (ws : Ws) (x : CL cI) : run P tabBd.sum Try.f14 [] (start Try.f14 [avSt ck nx ps is cs ws, avIt x] []) =
  Tree.ite (!hasN ps (iP x) (iN x)) (Tree.ret [AObj.own [AV.s (SV.int IntKind.i64 ck), AV.s (SV.int IntKind.i64 nx), AV.s (SV.ro (Con.typ cP ps)), AV.s (SV.ro (Con.typ cI is)), AV.s (SV.ro (Con.typ cC cs)), AV.s (SV.ro (Con.typ cW ws))] (27 : Nat), AObj.own [AV.s (SV.int IntKind.i64 (iI x)), AV.s (SV.int IntKind.i64 (iU x)), AV.s (SV.int IntKind.u8 (iS x)), AV.s (SV.str (iP x)), AV.s (SV.int IntKind.i64 (iN x)), AV.s (SV.int IntKind.i64 (iF x)), AV.s (SV.int IntKind.u8 (iW x)), AV.s (SV.str (iC x))] (45 : Nat), AObj.own [AV.s (SV.int IntKind.i64 (iI x)), AV.s (SV.int IntKind.i64 (iU x)), AV.s (SV.int IntKind.u8 (iS x)), AV.s (SV.str (iP x)), AV.s (SV.int IntKind.i64 (iN x)), AV.s (SV.int IntKind.i64 (iF x)), AV.s (SV.int IntKind.u8 (iW x)), AV.s (SV.str (iC x)), AV.s (SV.str (pN (getP ps (iP x)))), AV.s (SV.ro (Con.typ cV (pV (getP ps (iP x))))), AV.s (SV.ro (Con.typ cN (pO (getP ps (iP x))))), AV.s (SV.ro (Con.typ cF (pF (getP ps (iP x))))), AV.emp] (51 : Nat), AObj.own [AV.s (SV.str (pN (getP ps (iP x)))), AV.s (SV.ro (Con.typ cV (pV (getP ps (iP x))))), AV.s (SV.ro (Con.typ cN (pO (getP ps (iP x))))), AV.s (SV.ro (Con.typ cF (pF (getP ps (iP x)))))] (43 : Nat), AObj.own [AV.s (SV.str (nN (ndF ps (iP x) (iN x)))), AV.s (SV.int IntKind.u8 (nK (ndF ps (iP x) (iN x)))), AV.s (SV.int IntKind.i64 (nI (ndF ps (iP x) (iN x)))), AV.s (SV.int IntKind.i64 (nO (ndF ps (iP x) (iN x)))), AV.s (SV.int IntKind.u8 (nE (ndF ps (iP x) (iN x)))), AV.s (SV.str (nY (ndF ps (iP x) (iN x)))), AV.s (SV.str (nT (ndF ps (iP x) (iN x)))), AV.s (SV.str (nS (ndF ps (iP x) (iN x)))), AV.s (SV.bool (nB (ndF ps (iP x) (iN x)))), AV.s (SV.ro (Con.typ cV (nV (ndF ps (iP x) (iN x))))), AV.s (SV.ro (Con.strs (nZ (ndF ps (iP x) (iN x)))))] (39 : Nat)] (AV.agg [AV.s (SV.int IntKind.i64 (iI x)), AV.s (SV.int IntKind.i64 (iU x)), AV.s (SV.int IntKind.u8 (iS x)), AV.s (SV.str (iP x)), AV.s (SV.int IntKind.i64 (iN x)), AV.s (SV.int IntKind.i64 (iF x)), AV.s (SV.int IntKind.u8 (iW x)), AV.s (SV.str (iC x)), AV.s (SV.str (pN (getP ps (iP x)))), AV.s (SV.ro (Con.typ cV (pV (getP ps (iP x))))), AV.s (SV.ro (Con.typ cN (pO (getP ps (iP x))))), AV.s (SV.ro (Con.typ cF (pF (getP ps (iP x))))), AV.emp]))
  (Tree.ite (!actF (nK (ndF ps (iP x) (iN x)))) (Tree.ret [AObj.own [AV.s (SV.int IntKind.i64 ck), AV.s (SV.int IntKind.i64 nx), AV.s (SV.ro (Con.typ cP ps)), AV.s (SV.ro (Con.typ cI is)), AV.s (SV.ro (Con.typ cC cs)), AV.s (SV.ro (Con.typ cW ws))] (27 : Nat), AObj.own [AV.s (SV.int IntKind.i64 (iI x)), AV.s (SV.int IntKind.i64 (iU x)), AV.s (SV.int IntKind.u8 (iS x)), AV.s (SV.str (iP x)), AV.s (SV.int IntKind.i64 (iN x)), AV.s (SV.int IntKind.i64 (iF x)), AV.s (SV.int IntKind.u8 (iW x)), AV.s (SV.str (iC x))] (45 : Nat), AObj.own [AV.s (SV.int IntKind.i64 (iI x)), AV.s (SV.int IntKind.i64 (iU x)), AV.s (SV.int IntKind.u8 (iS x)), AV.s (SV.str (iP x)), AV.s (SV.int IntKind.i64 (iN x)), AV.s (SV.int IntKind.i64 (iF x)), AV.s (SV.int IntKind.u8 (iW x)), AV.s (SV.str (iC x)), AV.s (SV.str (pN (getP ps (iP x)))), AV.s (SV.ro (Con.typ cV (pV (getP ps (iP x))))), AV.s (SV.ro (Con.typ cN (pO (getP ps (iP x))))), AV.s (SV.ro (Con.typ cF (pF (getP ps (iP x))))), AV.emp] (51 : Nat), AObj.own [AV.s (SV.str (pN (getP ps (iP x)))), AV.s (SV.ro (Con.typ cV (pV (getP ps (iP x))))), AV.s (SV.ro (Con.typ cN (pO (getP ps (iP x))))), AV.s (SV.ro (Con.typ cF (pF (getP ps (iP x)))))] (43 : Nat), AObj.own [AV.s (SV.str (nN (ndF ps (iP x) (iN x)))), AV.s (SV.int IntKind.u8 (nK (ndF ps (iP x) (iN x)))), AV.s (SV.int IntKind.i64 (nI (ndF ps (iP x) (iN x)))), AV.s (SV.int IntKind.i64 (nO (ndF ps (iP x) (iN x)))), AV.s (SV.int IntKind.u8 (nE (ndF ps (iP x) (iN x)))), AV.s (SV.str (nY (ndF ps (iP x) (iN x)))), AV.s (SV.str (nT (ndF ps (iP x) (iN x)))), AV.s (SV.str (nS (ndF ps (iP x) (iN x)))), AV.s (SV.bool (nB (ndF ps (iP x) (iN x)))), AV.s (SV.ro (Con.typ cV (nV (ndF ps (iP x) (iN x))))), AV.s (SV.ro (Con.strs (nZ (ndF ps (iP x) (iN x)))))] (39 : Nat)] (AV.agg [AV.s (SV.int IntKind.i64 (iI x)), AV.s (SV.int IntKind.i64 (iU x)), AV.s (SV.int IntKind.u8 (iS x)), AV.s (SV.str (iP x)), AV.s (SV.int IntKind.i64 (iN x)), AV.s (SV.int IntKind.i64 (iF x)), AV.s (SV.int IntKind.u8 (iW x)), AV.s (SV.str (iC x)), AV.s (SV.str (pN (getP ps (iP x)))), AV.s (SV.ro (Con.typ cV (pV (getP ps (iP x))))), AV.s (SV.ro (Con.typ cN (pO (getP ps (iP x))))), AV.s (SV.ro (Con.typ cF (pF (getP ps (iP x))))), AV.emp]))
    (Tree.need ((pO (getP ps (iP x))).length ≤ (1000000 : Nat)) (Tree.ret [AObj.own [AV.s (SV.int IntKind.i64 ck), AV.s (SV.int IntKind.i64 nx), AV.s (SV.ro (Con.typ cP ps)), AV.s (SV.ro (Con.typ cI is)), AV.s (SV.ro (Con.typ cC cs)), AV.s (SV.ro (Con.typ cW ws))] (27 : Nat), AObj.own [AV.s (SV.int IntKind.i64 (iI x)), AV.s (SV.int IntKind.i64 (iU x)), AV.s (SV.int IntKind.u8 (iS x)), AV.s (SV.str (iP x)), AV.s (SV.int IntKind.i64 (iN x)), AV.s (SV.int IntKind.i64 (iF x)), AV.s (SV.int IntKind.u8 (iW x)), AV.s (SV.str (iC x))] (45 : Nat), AObj.own [AV.s (SV.int IntKind.i64 (iI x)), AV.s (SV.int IntKind.i64 (iU x)), AV.s (SV.int IntKind.u8 (iS x)), AV.s (SV.str (iP x)), AV.s (SV.int IntKind.i64 (iN x)), AV.s (SV.int IntKind.i64 (iF x)), AV.s (SV.int IntKind.u8 (iW x)), AV.s (SV.str (iC x)), AV.s (SV.str (pN (getP ps (iP x)))), AV.s (SV.ro (Con.typ cV (pV (getP ps (iP x))))), AV.s (SV.ro (Con.typ cN (pO (getP ps (iP x))))), AV.s (SV.ro (Con.typ cF (pF (getP ps (iP x))))), AV.vec (5 : Nat)] (51 : Nat), AObj.own [AV.s (SV.str (pN (getP ps (iP x)))), AV.s (SV.ro (Con.typ cV (pV (getP ps (iP x))))), AV.s (SV.ro (Con.typ cN (pO (getP ps (iP x))))), AV.s (SV.ro (Con.typ cF (pF (getP ps (iP x)))))] (43 : Nat), AObj.own [AV.s (SV.str (nN (ndF ps (iP x) (iN x)))), AV.s (SV.int IntKind.u8 (nK (ndF ps (iP x) (iN x)))), AV.s (SV.int IntKind.i64 (nI (ndF ps (iP x) (iN x)))), AV.s (SV.int IntKind.i64 (nO (ndF ps (iP x) (iN x)))), AV.s (SV.int IntKind.u8 (nE (ndF ps (iP x) (iN x)))), AV.s (SV.str (nY (ndF ps (iP x) (iN x)))), AV.s (SV.str (nT (ndF ps (iP x) (iN x)))), AV.s (SV.str (nS (ndF ps (iP x) (iN x)))), AV.s (SV.bool (nB (ndF ps (iP x) (iN x)))), AV.s (SV.ro (Con.typ cV (nV (ndF ps (iP x) (iN x))))), AV.s (SV.ro (Con.strs (nZ (ndF ps (iP x) (iN x)))))] (39 : Nat), AObj.vec (Con.ints IntKind.i64 (boundsF (pO (getP ps (iP x))) (iN x))) (3 : Nat)] (AV.agg [AV.s (SV.int IntKind.i64 (iI x)), AV.s (SV.int IntKind.i64 (iU x)), AV.s (SV.int IntKind.u8 (iS x)), AV.s (SV.str (iP x)), AV.s (SV.int IntKind.i64 (iN x)), AV.s (SV.int IntKind.i64 (iF x)), AV.s (SV.int IntKind.u8 (iW x)), AV.s (SV.str (iC x)), AV.s (SV.str (pN (getP ps (iP x)))), AV.s (SV.ro (Con.typ cV (pV (getP ps (iP x))))), AV.s (SV.ro (Con.typ cN (pO (getP ps (iP x))))), AV.s (SV.ro (Con.typ cF (pF (getP ps (iP x))))), AV.vec (5 : Nat)])))) := by kernel_rfl
theorem trAd (ck nx : Int) (ps : Ps) (is : Is) (cs : Cs) (ws : Ws) (x : CL cI) : run P tabAd.sum Try.f15 nsAd (start Try.f15 [avSt ck nx ps is cs ws, avIt x] []) =
  Tree.ite (!hasP ps (iP x)) (Tree.ret [AObj.own [AV.s (SV.int IntKind.i64 ck), AV.s (SV.int IntKind.i64 nx), AV.s (SV.ro (Con.typ cP ps)), AV.s (SV.ro (Con.typ cI is)), AV.s (SV.ro (Con.typ cC cs)), AV.s (SV.ro (Con.typ cW ws))] (27 : Nat), AObj.own [AV.s (SV.int IntKind.i64 (iI x)), AV.s (SV.int IntKind.i64 (iU x)), AV.s (SV.int IntKind.u8 (iS x)), AV.s (SV.str (iP x)), AV.s (SV.int IntKind.i64 (iN x)), AV.s (SV.int IntKind.i64 (iF x)), AV.s (SV.int IntKind.u8 (iW x)), AV.s (SV.str (iC x))] (45 : Nat), AObj.own [AV.s (SV.int IntKind.i64 (iI x)), AV.s (SV.int IntKind.i64 (iU x)), AV.s (SV.int IntKind.u8 (iS x)), AV.s (SV.str (iP x)), AV.s (SV.int IntKind.i64 (iN x)), AV.s (SV.int IntKind.i64 (iF x)), AV.s (SV.int IntKind.u8 (iW x)), AV.s (SV.str (iC x)), AV.s (SV.str (pN (getP ps (iP x)))), AV.s (SV.ro (Con.typ cV (pV (getP ps (iP x))))), AV.s (SV.ro (Con.typ cN (pO (getP ps (iP x))))), AV.s (SV.ro (Con.typ cF (pF (getP ps (iP x))))), AV.emp] (51 : Nat), AObj.own [AV.s (SV.int IntKind.i64 (iI x)), AV.s (SV.int IntKind.i64 (iU x)), AV.s (SV.int IntKind.u8 (iS x)), AV.s (SV.str (iP x)), AV.s (SV.int IntKind.i64 (iN x)), AV.s (SV.int IntKind.i64 (iF x)), AV.s (SV.int IntKind.u8 (iW x)), AV.s (SV.str (iC x)), AV.s (SV.str (pN (getP ps (iP x)))), AV.s (SV.ro (Con.typ cV (pV (getP ps (iP x))))), AV.s (SV.ro (Con.typ cN (pO (getP ps (iP x))))), AV.s (SV.ro (Con.typ cF (pF (getP ps (iP x))))), AV.emp] (51 : Nat)] (AV.agg [AV.s (SV.int IntKind.i64 (iI x)), AV.s (SV.int IntKind.i64 (iU x)), AV.s (SV.int IntKind.u8 (iS x)), AV.s (SV.str (iP x)), AV.s (SV.int IntKind.i64 (iN x)), AV.s (SV.int IntKind.i64 (iF x)), AV.s (SV.int IntKind.u8 (iW x)), AV.s (SV.str (iC x)), AV.s (SV.str (pN (getP ps (iP x)))), AV.s (SV.ro (Con.typ cV (pV (getP ps (iP x))))), AV.s (SV.ro (Con.typ cN (pO (getP ps (iP x))))), AV.s (SV.ro (Con.typ cF (pF (getP ps (iP x))))), AV.emp])) (Tree.need ((pO (getP ps (iP x))).length ≤ (1000000 : Nat)) (Tree.at (Cfg.mk (sl (50 : Nat) [((4 : Nat), AV.ptr (0 : Nat) (0 : Nat)), ((5 : Nat), AV.ptr (1 : Nat) (0 : Nat)), ((28 : Nat), AV.vec (2 : Nat)), ((29 : Nat), AV.s (SV.int IntKind.i64 (↑(asidesF (pO (getP ps (iP x))) (iN x)).length : Int))), ((30 : Nat), AV.s (SV.int IntKind.i64 (0 : Int)))]) [AObj.own [AV.s (SV.int IntKind.i64 (0 : Int)), AV.s (SV.int IntKind.i64 (0 : Int)), AV.s (SV.int IntKind.u8 (0 : Int)), AV.s (SV.str ByteArray.empty), AV.s (SV.int IntKind.i64 (0 : Int)), AV.s (SV.int IntKind.i64 (0 : Int)), AV.s (SV.int IntKind.u8 (0 : Int)), AV.s (SV.str ByteArray.empty), AV.s (SV.str ByteArray.empty), AV.emp, AV.emp, AV.emp, AV.emp] (51 : Nat), AObj.own [AV.s (SV.int IntKind.i64 (iI x)), AV.s (SV.int IntKind.i64 (iU x)), AV.s (SV.int IntKind.u8 (iS x)), AV.s (SV.str (iP x)), AV.s (SV.int IntKind.i64 (iN x)), AV.s (SV.int IntKind.i64 (iF x)), AV.s (SV.int IntKind.u8 (iW x)), AV.s (SV.str (iC x)), AV.s (SV.str (pN (getP ps (iP x)))), AV.s (SV.ro (Con.typ cV (pV (getP ps (iP x))))), AV.s (SV.ro (Con.typ cN (pO (getP ps (iP x))))), AV.s (SV.ro (Con.typ cF (pF (getP ps (iP x))))), AV.vec (3 : Nat)] (51 : Nat), AObj.vec (Con.ints IntKind.i64 (asidesF (pO (getP ps (iP x))) (iN x))) (3 : Nat), AObj.vec (Con.ints IntKind.i64 []) (3 : Nat)] (hd Try.f15 (7 : Nat)) (Stk.mk none false (0 : Nat) [] (0 : Nat))))) := by kernel_rfl
theorem tabNo_ok {Z : Glob} : tabNo.Ok P Z := Tab.Ok.cons def_ok.sumR Tab.Ok.nil
theorem no_proc {ps : Ps} {name : ByteArray} (h : hasP ps name = false) : getP ps name = CL.d cP := by
  refine (df_end ?_).1
  have h1 : ¬ 0 ≤ defP ps name := of_decide_eq_false h
  rcases idxF_spec (p := pDf name) (l := ps) with ⟨h2, _⟩ | ⟨i, h2, _⟩
  · exact h2
  · exact absurd (show 0 ≤ defP ps name by unfold defP; omega) h1
theorem node_ok {Z : Glob} : FnOk P Z 21 [tSt, tIt] [tNoR, tBool] (fun _ => []) (fun ((_, _, ps, _, _, _, ()), x, ()) => (noT (ndF ps (iP x) (iN x)), hasN ps (iP x) (iN x), ())) := by
  refine fnOk_of_safe Try.func21 (by kernel_rfl) (by kernel_rfl) ?_
  rintro ⟨⟨(ck : Int), (nx : Int), (ps : Ps), (is : Is), (cs : Cs), (ws : Ws), ⟨⟩⟩, (x : CL cI), ⟨⟩⟩ _ _ X hX hz
  show Safe P 21 X (Ends [tNoR, tBool] (noT (ndF ps (iP x) (iN x)), hasN ps (iP x) (iN x), ())) _
  have nil : ∀ (h : ¬ (0 ≤ iN x ∧ iN x < ((pO (getP ps (iP x))).length : Int))), ndF ps (iP x) (iN x) = CL.d cN ∧ hasN ps (iP x) (iN x) = false := fun h => ⟨by unfold ndF nodeAt; rw [if_neg h], decide_eq_false h⟩
  refine go hz hX tabNo_ok Try.func21 (trNo ck nx ps is cs ws x) ⟨fun h => ?_, fun h => ⟨fun h2 => ?_, fun h2 => ⟨fun h3 => ?_, fun h3 => ⟨by have := of_decide_eq_false h2; omega, by have := of_decide_eq_false h3; omega, ?_⟩⟩⟩⟩
  · obtain ⟨e1, e2⟩ := nil (by rw [no_proc (by simpa using h)]; rintro ⟨_, h5⟩; have h6 : ((pO (CL.d cP)).length : Int) = 0 := rfl; omega)
    rw [e1, e2]; exact ends_eq _ rfl (by kernel_rfl)
  · obtain ⟨e1, e2⟩ := nil (by have := of_decide_eq_true h2; omega)
    rw [e1, e2]; exact ends_eq _ rfl (by kernel_rfl)
  · obtain ⟨e1, e2⟩ := nil (by have := of_decide_eq_true h3; omega)
    rw [e1, e2]; exact ends_eq _ rfl (by kernel_rfl)
  · have h4 : 0 ≤ iN x ∧ iN x < ((pO (getP ps (iP x))).length : Int) := ⟨by have := of_decide_eq_false h2; omega, by have := of_decide_eq_false h3; omega⟩
    have e1 : ndF ps (iP x) (iN x) = el (pO (getP ps (iP x))) (iN x) := by unfold ndF nodeAt; rw [if_pos h4]
    have e2 : hasN ps (iP x) (iN x) = true := decide_eq_true h4
    rw [e1, e2]
    exact ends_eq _ rfl (by kernel_rfl)
end Ds

namespace Ds
open Go Go.Sx Go.Proofs Lf
noncomputable def cAd (x : CL cI) (p : CL cP) (l acc : List Int) (i : Int) : Cfg := ⟨sl 50 [(4, .ptr 0 0), (5, .ptr 1 0), (28, .vec 2), (29, avI (l.length : Int)), (30, avI i)], [.own [avI 0, avI 0, avU 0, .s (.str ByteArray.empty), avI 0, avI 0, avU 0, .s (.str ByteArray.empty), .s (.str ByteArray.empty), .emp, .emp, .emp, .emp] ePl, .own [avI (iI x), avI (iU x), avU (iS x), .s (.str (iP x)), avI (iN x), avI (iF x), avU (iW x), .s (.str (iC x)), .s (.str (pN p)), .s (.ro (.typ cV (pV p))), .s (.ro (.typ cN (pO p))), .s (.ro (.typ cF (pF p))), .vec 3] ePl, .vec (.ints .i64 l) 3, .vec (.ints .i64 acc) 3], hd Try.f15 7, {}⟩
def asL (ns : List (CL cN)) (n : Int) : List Int := ((asidesF ns n).filter (hasSt ns)).map (startF ns)
def boL (ps : Ps) (name : ByteArray) (n : Int) : List Int := if hasN ps name n = true ∧ actF (nK (ndF ps name n)) = true then boundsF (pO (getP ps name)) n else []
abbrev plT (x : CL cI) (p : CL cP) (l : List Int) : Ty.V tPlc := (iI x, iU x, iS x, iP x, iN x, iF x, iW x, iC x, pN p, pV p, pO p, pF p, l, ())
abbrev preNs : AL [tSt, tIt] → List Prop := fun ((_, _, ps, _, _, _, ()), x, ()) => [(pO (getP ps (iP x))).length ≤ 1000000]
abbrev sumBd := sumR [tSt, tIt] [tPlc] preNs (fun ((_, _, ps, _, _, _, ()), x, ()) => (plT x (getP ps (iP x)) (boL ps (iP x) (iN x)), ()))
abbrev sumAd := sumR [tSt, tIt] [tPlc] preNs (fun ((_, _, ps, _, _, _, ()), x, ()) => (plT x (getP ps (iP x)) (asL (pO (getP ps (iP x))) (iN x)), ()))
abbrev sumCh := sumOf [tPr, tNs, tU8, tStr] [tInt, tBool] (fun _ => []) (fun ((_, _, ns, _, ()), l, ev, key, ()) => ((chooseF ns l ev key).1, (chooseF ns l ev key).2, ()))
def tabRf : Tab := [(13, sumFi), (14, sumBd), (15, sumAd), (10, sumCh)]
abbrev fS1 : FuncId := 18
abbrev inRf : List FuncId := [9, 12, 11, fS1]
theorem loopAd (x : CL cI) (p : CL cP) (l acc : List Int) (i : Int) : run P tabAd.sum Try.f15 nsAd (cAd x p l acc i) =
  Tree.ite (decide (i < (↑l.length : Int))) (Tree.need ((0 : Int) ≤ i) (Tree.need (i < (↑l.length : Int)) (Tree.need ((pO p).length ≤ (1000000 : Nat)) (Tree.ite (hasSt (pO p) (l.getD i.toNat (0 : Int))) (Tree.need ((acc.length + (1 : Nat)) * (8 : Nat) ≤ (140737488355328 : Nat)) (Tree.need (inI64 (i + (1 : Int))) (Tree.at (Cfg.mk (sl (50 : Nat) [((4 : Nat), AV.ptr (0 : Nat) (0 : Nat)), ((5 : Nat), AV.ptr (1 : Nat) (0 : Nat)), ((28 : Nat), AV.vec (2 : Nat)), ((29 : Nat), AV.s (SV.int IntKind.i64 (↑l.length : Int))), ((30 : Nat), AV.s (SV.int IntKind.i64 (i + (1 : Int))))]) [AObj.own [AV.s (SV.int IntKind.i64 (0 : Int)), AV.s (SV.int IntKind.i64 (0 : Int)), AV.s (SV.int IntKind.u8 (0 : Int)), AV.s (SV.str ByteArray.empty), AV.s (SV.int IntKind.i64 (0 : Int)), AV.s (SV.int IntKind.i64 (0 : Int)), AV.s (SV.int IntKind.u8 (0 : Int)), AV.s (SV.str ByteArray.empty), AV.s (SV.str ByteArray.empty), AV.emp, AV.emp, AV.emp, AV.emp] (51 : Nat), AObj.own [AV.s (SV.int IntKind.i64 (iI x)), AV.s (SV.int IntKind.i64 (iU x)), AV.s (SV.int IntKind.u8 (iS x)), AV.s (SV.str (iP x)), AV.s (SV.int IntKind.i64 (iN x)), AV.s (SV.int IntKind.i64 (iF x)), AV.s (SV.int IntKind.u8 (iW x)), AV.s (SV.str (iC x)), AV.s (SV.str (pN p)), AV.s (SV.ro (Con.typ cV (pV p))), AV.s (SV.ro (Con.typ cN (pO p))), AV.s (SV.ro (Con.typ cF (pF p))), AV.vec (3 : Nat)] (51 : Nat), AObj.vec (Con.ints IntKind.i64 l) (3 : Nat), AObj.vec (Con.ints IntKind.i64 (acc ++ [startF (pO p) (l.getD i.toNat (0 : Int))])) (3 : Nat)] (hd Try.f15 (7 : Nat)) (Stk.mk none false (0 : Nat) [] (0 : Nat)))))) (Tree.need (inI64 (i + (1 : Int))) (Tree.at (Cfg.mk (sl (50 : Nat) [((4 : Nat), AV.ptr (0 : Nat) (0 : Nat)), ((5 : Nat), AV.ptr (1 : Nat) (0 : Nat)), ((28 : Nat), AV.vec (2 : Nat)), ((29 : Nat), AV.s (SV.int IntKind.i64 (↑l.length : Int))), ((30 : Nat), AV.s (SV.int IntKind.i64 (i + (1 : Int))))]) [AObj.own [AV.s (SV.int IntKind.i64 (0 : Int)), AV.s (SV.int IntKind.i64 (0 : Int)), AV.s (SV.int IntKind.u8 (0 : Int)), AV.s (SV.str ByteArray.empty), AV.s (SV.int IntKind.i64 (0 : Int)), AV.s (SV.int IntKind.i64 (0 : Int)), AV.s (SV.int IntKind.u8 (0 : Int)), AV.s (SV.str ByteArray.empty), AV.s (SV.str ByteArray.empty), AV.emp, AV.emp, AV.emp, AV.emp] (51 : Nat), AObj.own [AV.s (SV.int IntKind.i64 (iI x)), AV.s (SV.int IntKind.i64 (iU x)), AV.s (SV.int IntKind.u8 (iS x)), AV.s (SV.str (iP x)), AV.s (SV.int IntKind.i64 (iN x)), AV.s (SV.int IntKind.i64 (iF x)), AV.s (SV.int IntKind.u8 (iW x)), AV.s (SV.str (iC x)), AV.s (SV.str (pN p)), AV.s (SV.ro (Con.typ cV (pV p))), AV.s (SV.ro (Con.typ cN (pO p))), AV.s (SV.ro (Con.typ cF (pF p))), AV.vec (3 : Nat)] (51 : Nat), AObj.vec (Con.ints IntKind.i64 l) (3 : Nat), AObj.vec (Con.ints IntKind.i64 acc) (3 : Nat)] (hd Try.f15 (7 : Nat)) (Stk.mk none false (0 : Nat) [] (0 : Nat)))))))))
  (Tree.ret [AObj.own [AV.s (SV.int IntKind.i64 (iI x)), AV.s (SV.int IntKind.i64 (iU x)), AV.s (SV.int IntKind.u8 (iS x)), AV.s (SV.str (iP x)), AV.s (SV.int IntKind.i64 (iN x)), AV.s (SV.int IntKind.i64 (iF x)), AV.s (SV.int IntKind.u8 (iW x)), AV.s (SV.str (iC x)), AV.s (SV.str (pN p)), AV.s (SV.ro (Con.typ cV (pV p))), AV.s (SV.ro (Con.typ cN (pO p))), AV.s (SV.ro (Con.typ cF (pF p))), AV.vec (3 : Nat)] (51 : Nat), AObj.own [AV.s (SV.int IntKind.i64 (iI x)), AV.s (SV.int IntKind.i64 (iU x)), AV.s (SV.int IntKind.u8 (iS x)), AV.s (SV.str (iP x)), AV.s (SV.int IntKind.i64 (iN x)), AV.s (SV.int IntKind.i64 (iF x)), AV.s (SV.int IntKind.u8 (iW x)), AV.s (SV.str (iC x)), AV.s (SV.str (pN p)), AV.s (SV.ro (Con.typ cV (pV p))), AV.s (SV.ro (Con.typ cN (pO p))), AV.s (SV.ro (Con.typ cF (pF p))), AV.vec (3 : Nat)] (51 : Nat), AObj.vec (Con.ints IntKind.i64 l) (3 : Nat), AObj.vec (Con.ints IntKind.i64 acc) (3 : Nat)] (AV.agg [AV.s (SV.int IntKind.i64 (iI x)), AV.s (SV.int IntKind.i64 (iU x)), AV.s (SV.int IntKind.u8 (iS x)), AV.s (SV.str (iP x)), AV.s (SV.int IntKind.i64 (iN x)), AV.s (SV.int IntKind.i64 (iF x)), AV.s (SV.int IntKind.u8 (iW x)), AV.s (SV.str (iC x)), AV.s (SV.str (pN p)), AV.s (SV.ro (Con.typ cV (pV p))), AV.s (SV.ro (Con.typ cN (pO p))), AV.s (SV.ro (Con.typ cF (pF p))), AV.vec (3 : Nat)])) := by kernel_rfl
theorem tabBd_ok {Z : Glob} : tabBd.Ok P Z := Tab.Ok.cons def_ok.sumR (Tab.Ok.cons node_ok.sumR (Tab.Ok.cons act_ok.sum (Tab.Ok.cons bo_ok.sumR Tab.Ok.nil)))
theorem tabAd_ok {Z : Glob} : tabAd.Ok P Z := Tab.Ok.cons def_ok.sumR (Tab.Ok.cons as_ok.sum (Tab.Ok.cons so_ok.sum Tab.Ok.nil))
theorem bds_ok {Z : Glob} : FnOk P Z 14 [tSt, tIt] [tPlc] preNs (fun ((_, _, ps, _, _, _, ()), x, ()) => (plT x (getP ps (iP x)) (boL ps (iP x) (iN x)), ())) := by
  refine fnOk_of_safe Try.func14 (by kernel_rfl) (by kernel_rfl) ?_
  rintro ⟨⟨(ck : Int), (nx : Int), (ps : Ps), (is : Is), (cs : Cs), (ws : Ws), ⟨⟩⟩, (x : CL cI), ⟨⟩⟩ _ ⟨hl, _⟩ X hX hz
  show Safe P 14 X (Ends [tPlc] (plT x (getP ps (iP x)) (boL ps (iP x) (iN x)), ())) _
  refine go hz hX tabBd_ok Try.func14 (trBd ck nx ps is cs ws x) ⟨fun h => ?_, fun h => ⟨fun h2 => ?_, fun h2 => ⟨hl, ?_⟩⟩⟩
  · have e : boL ps (iP x) (iN x) = [] := by unfold boL; rw [if_neg]; intro hh; rw [hh.1] at h; cases h
    rw [e]; exact ends_eq _ rfl (by kernel_rfl)
  · have e : boL ps (iP x) (iN x) = [] := by unfold boL; rw [if_neg]; intro hh; rw [hh.2] at h2; cases h2
    rw [e]; exact ends_eq _ rfl (by kernel_rfl)
  · have e : boL ps (iP x) (iN x) = boundsF (pO (getP ps (iP x))) (iN x) := by unfold boL; rw [if_pos ⟨by simpa using h, by simpa using h2⟩]
    rw [e]; exact ends_eq _ rfl (by kernel_rfl)
theorem asd_ok {Z : Glob} : FnOk P Z 15 [tSt, tIt] [tPlc] preNs (fun ((_, _, ps, _, _, _, ()), x, ()) => (plT x (getP ps (iP x)) (asL (pO (getP ps (iP x))) (iN x)), ())) := by
  refine fnOk_of_safe Try.func15 (by kernel_rfl) (by kernel_rfl) ?_
  rintro ⟨⟨(ck : Int), (nx : Int), (ps : Ps), (is : Is), (cs : Cs), (ws : Ws), ⟨⟩⟩, (x : CL cI), ⟨⟩⟩ _ ⟨(hl : (pO (getP ps (iP x))).length ≤ 1000000), _⟩ X hX hz
  show Safe P 15 X (Ends [tPlc] (plT x (getP ps (iP x)) (asL (pO (getP ps (iP x))) (iN x)), ())) _
  refine go hz hX tabAd_ok Try.func15 (trAd ck nx ps is cs ws x) ⟨fun h => ?_, fun h => ⟨hl, ?_⟩⟩
  · have e : getP ps (iP x) = CL.d cP := no_proc (by simpa using h)
    rw [e]
    exact ends_eq _ rfl (by kernel_rfl)
  generalize getP ps (iP x) = p at *
  have hal : (asidesF (pO p) (iN x)).length ≤ 1000000 := Nat.le_trans (idxs_len _ _) hl
  have loop : ∀ (j k : Nat), k + j = (asidesF (pO p) (iN x)).length → Safe P 15 X (Ends [tPlc] (plT x p (asL (pO p) (iN x)), ())) (cAd x p (asidesF (pO p) (iN x)) ((((asidesF (pO p) (iN x)).take k).filter (hasSt (pO p))).map (startF (pO p))) (k : Int)) := by
    intro j
    induction j with
    | zero =>
      intro k hk
      rw [List.take_of_length_le (by omega)]
      refine go hz hX tabAd_ok Try.func15 (loopAd x p _ _ k) (no_and (decide_eq_false (by omega)) ?_)
      exact ends_eq _ rfl (by kernel_rfl)
    | succ j ih =>
      intro k hk
      have hlt : k < (asidesF (pO p) (iN x)).length := by omega
      have next := ih (k + 1) (by omega)
      rw [List.take_add_one, List.getElem?_eq_getElem hlt, Option.toList_some, List.filter_append, List.map_append] at next
      have hacc : ((((asidesF (pO p) (iN x)).take k).filter (hasSt (pO p))).map (startF (pO p))).length ≤ k := by
        rw [List.length_map]; exact Nat.le_trans (List.length_filter_le _ _) (by rw [List.length_take]; omega)
      refine go hz hX tabAd_ok Try.func15 (loopAd x p _ _ k) (yes_and (decide_eq_true (by omega)) ⟨by omega, by omega, hl, ?_⟩)
      rw [Int.toNat_natCast, getD_lt hlt]
      generalize ((((asidesF (pO p) (iN x)).take k).filter (hasSt (pO p))).map (startF (pO p))) = acc at *
      cases hs : hasSt (pO p) (asidesF (pO p) (iN x))[k] with
      | true =>
        rw [List.filter_cons_of_pos hs] at next
        exact yes_and rfl ⟨by omega, ⟨by omega, by omega⟩, next⟩
      | false =>
        rw [List.filter_cons_of_neg (by rw [hs]; simp)] at next
        simp only [List.filter_nil, List.map_nil, List.append_nil] at next
        exact no_and rfl ⟨⟨by omega, by omega⟩, next⟩
  exact loop _ 0 (Nat.zero_add _)
end Ds

namespace Ds
open Go Go.Sx Go.Proofs Lf
def nsRg : List (Nat × Norm) := [((fS1 + 1) * 100000 + 5, ⟨[], [0, 1, 5, 6, 7, 8, 84, 86, 150, 151, 158, 159, 160, 161, 193, 194], 0, []⟩), ((fS1 + 1) * 100000 + 8, ⟨[], [0, 1, 6, 7, 84, 86, 150, 151, 158, 159, 160, 161, 193, 194], 0, []⟩)]
noncomputable abbrev kRf : Stk := ⟨some fS1, false, 0, [inRange Try.f12 (some 12) 6 1, inRange Try.f5 none 5 1], 0⟩
abbrev obRf (ck nx : Int) (ps : Ps) (is : Is) (cs : Cs) (ws : Ws) (ev : Int) (key : ByteArray) (x : CL cI) (m : Mp) : List AObj := [.dead, obSt ck nx ps is cs ws, .map kM m, obIt x, obSt ck nx ps is cs ws, .own [.tag 12] 57, .dead, .own [avU ev] 5, .own [.s (.str key)] 9, .own [avI 0, avI 0] 30, .own [.s (.bool false)] 4, .dead, .dead]
noncomputable def cRf (ck nx : Int) (ps : Ps) (is : Is) (cs : Cs) (ws : Ws) (ev : Int) (key : ByteArray) (b own : Bool) (x : CL cI) (m : Mp) : Cfg := ⟨sl 195 [(0, .tag 0), (1, .ptr 1 0), (5, .s (.bool b)), (6, .mapv 2), (7, .ptr 3 0), (8, .s (.bool own)), (84, .ptr 4 0), (86, .ptr 5 0), (150, .tag 6), (151, .tag 0), (158, .ptr 7 0), (159, .ptr 8 0), (160, .ptr 9 0), (161, .ptr 10 0), (193, .tag 11), (194, .tag 12)], obRf ck nx ps is cs ws ev key x m, hd Try.f18 5, kRf⟩
noncomputable def cRg (ck nx : Int) (ps : Ps) (is : Is) (cs : Cs) (ws : Ws) (ev : Int) (key : ByteArray) (x : CL cI) (m : Mp) : Cfg := ⟨sl 195 [(0, .tag 0), (1, .ptr 1 0), (6, .mapv 2), (7, .ptr 3 0), (84, .ptr 4 0), (86, .ptr 5 0), (150, .tag 6), (151, .tag 0), (158, .ptr 7 0), (159, .ptr 8 0), (160, .ptr 9 0), (161, .ptr 10 0), (193, .tag 11), (194, .tag 12)], obRf ck nx ps is cs ws ev key x m, hr Try.f18 8, kRf⟩
theorem trRg (ck nx : Int) (ps : Ps) (is : Is) (cs : Cs) (ws : Ws) (id ev : Int) (key : ByteArray) : run P tabRf.sum Try.f5 nsRg (start Try.f5 [avSt ck nx ps is cs ws, avI id, avU ev, .s (.str key)] []) inRf =
  Tree.ite (ev != (4 : Int))
  (Tree.ite (ev != (5 : Int)) (Tree.ret [AObj.own [AV.s (SV.int IntKind.i64 ck), AV.s (SV.int IntKind.i64 nx), AV.s (SV.ro (Con.typ cP ps)), AV.s (SV.ro (Con.typ cI is)), AV.s (SV.ro (Con.typ cC cs)), AV.s (SV.ro (Con.typ cW ws))] (27 : Nat), AObj.own [AV.s (SV.int IntKind.u8 ev)] (5 : Nat), AObj.own [AV.s (SV.str key)] (9 : Nat), AObj.own [AV.s (SV.ilit IntKind.i64 (0 : Int)), AV.s (SV.ilit IntKind.i64 (0 : Int))] (30 : Nat), AObj.own [AV.s (SV.blit false)] (4 : Nat)] (AV.tup [AV.agg [AV.s (SV.ilit IntKind.i64 (0 : Int)), AV.s (SV.ilit IntKind.i64 (0 : Int))], AV.s (SV.blit false)]))
    (Tree.ite (!hasI is id) (Tree.ret [AObj.own [AV.s (SV.int IntKind.i64 ck), AV.s (SV.int IntKind.i64 nx), AV.s (SV.ro (Con.typ cP ps)), AV.s (SV.ro (Con.typ cI is)), AV.s (SV.ro (Con.typ cC cs)), AV.s (SV.ro (Con.typ cW ws))] (27 : Nat), AObj.own [AV.s (SV.int IntKind.u8 ev)] (5 : Nat), AObj.own [AV.s (SV.str key)] (9 : Nat), AObj.own [AV.s (SV.ilit IntKind.i64 (0 : Int)), AV.s (SV.ilit IntKind.i64 (0 : Int))] (30 : Nat), AObj.own [AV.s (SV.blit false)] (4 : Nat), AObj.own [AV.s (SV.int IntKind.i64 ck), AV.s (SV.int IntKind.i64 nx), AV.s (SV.ro (Con.typ cP ps)), AV.s (SV.ro (Con.typ cI is)), AV.s (SV.ro (Con.typ cC cs)), AV.s (SV.ro (Con.typ cW ws))] (27 : Nat), AObj.own [AV.s (SV.int IntKind.i64 id)] (3 : Nat), AObj.dead, AObj.dead, AObj.own [AV.tag (8 : Nat)] (57 : Nat), AObj.own [AV.s (SV.int IntKind.i64 (gI is id)), AV.s (SV.int IntKind.i64 (gU is id)), AV.s (SV.int IntKind.u8 (gS is id)), AV.s (SV.str (gP is id)), AV.s (SV.int IntKind.i64 (gN is id)), AV.s (SV.int IntKind.i64 (gF is id)), AV.s (SV.int IntKind.u8 (gW is id)), AV.s (SV.str (gC is id))] (45 : Nat)] (AV.tup [AV.agg [AV.s (SV.ilit IntKind.i64 (0 : Int)), AV.s (SV.ilit IntKind.i64 (0 : Int))], AV.s (SV.blit false)]))
      (Tree.ite (gS is id != (2 : Int)) (Tree.ret [AObj.own [AV.s (SV.int IntKind.i64 ck), AV.s (SV.int IntKind.i64 nx), AV.s (SV.ro (Con.typ cP ps)), AV.s (SV.ro (Con.typ cI is)), AV.s (SV.ro (Con.typ cC cs)), AV.s (SV.ro (Con.typ cW ws))] (27 : Nat), AObj.own [AV.s (SV.int IntKind.u8 ev)] (5 : Nat), AObj.own [AV.s (SV.str key)] (9 : Nat), AObj.own [AV.s (SV.ilit IntKind.i64 (0 : Int)), AV.s (SV.ilit IntKind.i64 (0 : Int))] (30 : Nat), AObj.own [AV.s (SV.blit false)] (4 : Nat), AObj.own [AV.s (SV.int IntKind.i64 ck), AV.s (SV.int IntKind.i64 nx), AV.s (SV.ro (Con.typ cP ps)), AV.s (SV.ro (Con.typ cI is)), AV.s (SV.ro (Con.typ cC cs)), AV.s (SV.ro (Con.typ cW ws))] (27 : Nat), AObj.own [AV.s (SV.int IntKind.i64 id)] (3 : Nat), AObj.dead, AObj.dead, AObj.own [AV.tag (8 : Nat)] (57 : Nat), AObj.own [AV.s (SV.int IntKind.i64 (gI is id)), AV.s (SV.int IntKind.i64 (gU is id)), AV.s (SV.int IntKind.u8 (gS is id)), AV.s (SV.str (gP is id)), AV.s (SV.int IntKind.i64 (gN is id)), AV.s (SV.int IntKind.i64 (gF is id)), AV.s (SV.int IntKind.u8 (gW is id)), AV.s (SV.str (gC is id))] (45 : Nat)] (AV.tup [AV.agg [AV.s (SV.ilit IntKind.i64 (0 : Int)), AV.s (SV.ilit IntKind.i64 (0 : Int))], AV.s (SV.blit false)]))
        (Tree.need ((pO (getP ps (gP is id))).length ≤ (1000000 : Nat))
          (Tree.ite (chooseF (pO (getP ps (gP is id))) (boL ps (gP is id) (gN is id)) ev key).snd (Tree.ret [AObj.own [AV.s (SV.int IntKind.i64 ck), AV.s (SV.int IntKind.i64 nx), AV.s (SV.ro (Con.typ cP ps)), AV.s (SV.ro (Con.typ cI is)), AV.s (SV.ro (Con.typ cC cs)), AV.s (SV.ro (Con.typ cW ws))] (27 : Nat), AObj.own [AV.s (SV.int IntKind.u8 ev)] (5 : Nat), AObj.own [AV.s (SV.str key)] (9 : Nat), AObj.own [AV.s (SV.int IntKind.i64 (gI is id)), AV.s (SV.int IntKind.i64 (chooseF (pO (getP ps (gP is id))) (boL ps (gP is id) (gN is id)) ev key).fst)] (30 : Nat), AObj.own [AV.s (SV.blit true)] (4 : Nat), AObj.own [AV.s (SV.int IntKind.i64 ck), AV.s (SV.int IntKind.i64 nx), AV.s (SV.ro (Con.typ cP ps)), AV.s (SV.ro (Con.typ cI is)), AV.s (SV.ro (Con.typ cC cs)), AV.s (SV.ro (Con.typ cW ws))] (27 : Nat), AObj.own [AV.s (SV.int IntKind.i64 id)] (3 : Nat), AObj.dead, AObj.dead, AObj.own [AV.tag (8 : Nat)] (57 : Nat), AObj.own [AV.s (SV.int IntKind.i64 (gI is id)), AV.s (SV.int IntKind.i64 (gU is id)), AV.s (SV.int IntKind.u8 (gS is id)), AV.s (SV.str (gP is id)), AV.s (SV.int IntKind.i64 (gN is id)), AV.s (SV.int IntKind.i64 (gF is id)), AV.s (SV.int IntKind.u8 (gW is id)), AV.s (SV.str (gC is id))] (45 : Nat), AObj.own [AV.s (SV.int IntKind.i64 (gI is id)), AV.s (SV.int IntKind.i64 (gU is id)), AV.s (SV.int IntKind.u8 (gS is id)), AV.s (SV.str (gP is id)), AV.s (SV.int IntKind.i64 (gN is id)), AV.s (SV.int IntKind.i64 (gF is id)), AV.s (SV.int IntKind.u8 (gW is id)), AV.s (SV.str (gC is id)), AV.s (SV.str (pN (getP ps (gP is id)))), AV.s (SV.ro (Con.typ cV (pV (getP ps (gP is id))))), AV.s (SV.ro (Con.typ cN (pO (getP ps (gP is id))))), AV.s (SV.ro (Con.typ cF (pF (getP ps (gP is id))))), AV.s (SV.ro (Con.ints IntKind.i64 (boL ps (gP is id) (gN is id))))] (51 : Nat)] (AV.tup [AV.agg [AV.s (SV.int IntKind.i64 (gI is id)), AV.s (SV.int IntKind.i64 (chooseF (pO (getP ps (gP is id))) (boL ps (gP is id) (gN is id)) ev key).fst)], AV.s (SV.blit true)]))
            (Tree.ite (!hasI is id) (Tree.ret [AObj.own [AV.s (SV.int IntKind.i64 ck), AV.s (SV.int IntKind.i64 nx), AV.s (SV.ro (Con.typ cP ps)), AV.s (SV.ro (Con.typ cI is)), AV.s (SV.ro (Con.typ cC cs)), AV.s (SV.ro (Con.typ cW ws))] (27 : Nat), AObj.own [AV.s (SV.int IntKind.u8 ev)] (5 : Nat), AObj.own [AV.s (SV.str key)] (9 : Nat), AObj.own [AV.s (SV.ilit IntKind.i64 (0 : Int)), AV.s (SV.ilit IntKind.i64 (0 : Int))] (30 : Nat), AObj.own [AV.s (SV.blit false)] (4 : Nat), AObj.own [AV.s (SV.int IntKind.i64 ck), AV.s (SV.int IntKind.i64 nx), AV.s (SV.ro (Con.typ cP ps)), AV.s (SV.ro (Con.typ cI is)), AV.s (SV.ro (Con.typ cC cs)), AV.s (SV.ro (Con.typ cW ws))] (27 : Nat), AObj.own [AV.s (SV.int IntKind.i64 id)] (3 : Nat), AObj.dead, AObj.dead, AObj.own [AV.tag (8 : Nat)] (57 : Nat), AObj.own [AV.s (SV.int IntKind.i64 (gI is id)), AV.s (SV.int IntKind.i64 (gU is id)), AV.s (SV.int IntKind.u8 (gS is id)), AV.s (SV.str (gP is id)), AV.s (SV.int IntKind.i64 (gN is id)), AV.s (SV.int IntKind.i64 (gF is id)), AV.s (SV.int IntKind.u8 (gW is id)), AV.s (SV.str (gC is id))] (45 : Nat), AObj.own [AV.s (SV.int IntKind.i64 (gI is id)), AV.s (SV.int IntKind.i64 (gU is id)), AV.s (SV.int IntKind.u8 (gS is id)), AV.s (SV.str (gP is id)), AV.s (SV.int IntKind.i64 (gN is id)), AV.s (SV.int IntKind.i64 (gF is id)), AV.s (SV.int IntKind.u8 (gW is id)), AV.s (SV.str (gC is id)), AV.s (SV.str (pN (getP ps (gP is id)))), AV.s (SV.ro (Con.typ cV (pV (getP ps (gP is id))))), AV.s (SV.ro (Con.typ cN (pO (getP ps (gP is id))))), AV.s (SV.ro (Con.typ cF (pF (getP ps (gP is id))))), AV.s (SV.ro (Con.ints IntKind.i64 (boL ps (gP is id) (gN is id))))] (51 : Nat), AObj.own [AV.s (SV.int IntKind.i64 ck), AV.s (SV.int IntKind.i64 nx), AV.s (SV.ro (Con.typ cP ps)), AV.s (SV.ro (Con.typ cI is)), AV.s (SV.ro (Con.typ cC cs)), AV.s (SV.ro (Con.typ cW ws))] (27 : Nat), AObj.own [AV.s (SV.int IntKind.i64 id)] (3 : Nat), AObj.dead, AObj.dead, AObj.own [AV.s (SV.int IntKind.i64 (gI is id)), AV.s (SV.int IntKind.i64 (gU is id)), AV.s (SV.int IntKind.u8 (gS is id)), AV.s (SV.str (gP is id)), AV.s (SV.int IntKind.i64 (gN is id)), AV.s (SV.int IntKind.i64 (gF is id)), AV.s (SV.int IntKind.u8 (gW is id)), AV.s (SV.str (gC is id))] (45 : Nat)] (AV.tup [AV.agg [AV.s (SV.ilit IntKind.i64 (0 : Int)), AV.s (SV.ilit IntKind.i64 (0 : Int))], AV.s (SV.blit false)]))
              (Tree.ite (gS is id != (2 : Int)) (Tree.ret [AObj.own [AV.s (SV.int IntKind.i64 ck), AV.s (SV.int IntKind.i64 nx), AV.s (SV.ro (Con.typ cP ps)), AV.s (SV.ro (Con.typ cI is)), AV.s (SV.ro (Con.typ cC cs)), AV.s (SV.ro (Con.typ cW ws))] (27 : Nat), AObj.own [AV.s (SV.int IntKind.u8 ev)] (5 : Nat), AObj.own [AV.s (SV.str key)] (9 : Nat), AObj.own [AV.s (SV.ilit IntKind.i64 (0 : Int)), AV.s (SV.ilit IntKind.i64 (0 : Int))] (30 : Nat), AObj.own [AV.s (SV.blit false)] (4 : Nat), AObj.own [AV.s (SV.int IntKind.i64 ck), AV.s (SV.int IntKind.i64 nx), AV.s (SV.ro (Con.typ cP ps)), AV.s (SV.ro (Con.typ cI is)), AV.s (SV.ro (Con.typ cC cs)), AV.s (SV.ro (Con.typ cW ws))] (27 : Nat), AObj.own [AV.s (SV.int IntKind.i64 id)] (3 : Nat), AObj.dead, AObj.dead, AObj.own [AV.tag (8 : Nat)] (57 : Nat), AObj.own [AV.s (SV.int IntKind.i64 (gI is id)), AV.s (SV.int IntKind.i64 (gU is id)), AV.s (SV.int IntKind.u8 (gS is id)), AV.s (SV.str (gP is id)), AV.s (SV.int IntKind.i64 (gN is id)), AV.s (SV.int IntKind.i64 (gF is id)), AV.s (SV.int IntKind.u8 (gW is id)), AV.s (SV.str (gC is id))] (45 : Nat), AObj.own [AV.s (SV.int IntKind.i64 (gI is id)), AV.s (SV.int IntKind.i64 (gU is id)), AV.s (SV.int IntKind.u8 (gS is id)), AV.s (SV.str (gP is id)), AV.s (SV.int IntKind.i64 (gN is id)), AV.s (SV.int IntKind.i64 (gF is id)), AV.s (SV.int IntKind.u8 (gW is id)), AV.s (SV.str (gC is id)), AV.s (SV.str (pN (getP ps (gP is id)))), AV.s (SV.ro (Con.typ cV (pV (getP ps (gP is id))))), AV.s (SV.ro (Con.typ cN (pO (getP ps (gP is id))))), AV.s (SV.ro (Con.typ cF (pF (getP ps (gP is id))))), AV.s (SV.ro (Con.ints IntKind.i64 (boL ps (gP is id) (gN is id))))] (51 : Nat), AObj.own [AV.s (SV.int IntKind.i64 ck), AV.s (SV.int IntKind.i64 nx), AV.s (SV.ro (Con.typ cP ps)), AV.s (SV.ro (Con.typ cI is)), AV.s (SV.ro (Con.typ cC cs)), AV.s (SV.ro (Con.typ cW ws))] (27 : Nat), AObj.own [AV.s (SV.int IntKind.i64 id)] (3 : Nat), AObj.dead, AObj.dead, AObj.own [AV.s (SV.int IntKind.i64 (gI is id)), AV.s (SV.int IntKind.i64 (gU is id)), AV.s (SV.int IntKind.u8 (gS is id)), AV.s (SV.str (gP is id)), AV.s (SV.int IntKind.i64 (gN is id)), AV.s (SV.int IntKind.i64 (gF is id)), AV.s (SV.int IntKind.u8 (gW is id)), AV.s (SV.str (gC is id))] (45 : Nat)] (AV.tup [AV.agg [AV.s (SV.ilit IntKind.i64 (0 : Int)), AV.s (SV.ilit IntKind.i64 (0 : Int))], AV.s (SV.blit false)]))
                (Tree.at (Cfg.mk (sl (195 : Nat) [((0 : Nat), AV.tag (0 : Nat)), ((1 : Nat), AV.ptr (1 : Nat) (0 : Nat)), ((5 : Nat), AV.s (SV.bool (hasI is (gU is id)))), ((6 : Nat), AV.mapv (2 : Nat)), ((7 : Nat), AV.ptr (3 : Nat) (0 : Nat)), ((8 : Nat), AV.s (SV.bool false)), ((84 : Nat), AV.ptr (4 : Nat) (0 : Nat)), ((86 : Nat), AV.ptr (5 : Nat) (0 : Nat)), ((150 : Nat), AV.tag (6 : Nat)), ((151 : Nat), AV.tag (0 : Nat)), ((158 : Nat), AV.ptr (7 : Nat) (0 : Nat)), ((159 : Nat), AV.ptr (8 : Nat) (0 : Nat)), ((160 : Nat), AV.ptr (9 : Nat) (0 : Nat)), ((161 : Nat), AV.ptr (10 : Nat) (0 : Nat)), ((193 : Nat), AV.tag (11 : Nat)), ((194 : Nat), AV.tag (12 : Nat))]) [AObj.dead, AObj.own [AV.s (SV.int IntKind.i64 ck), AV.s (SV.int IntKind.i64 nx), AV.s (SV.ro (Con.typ cP ps)), AV.s (SV.ro (Con.typ cI is)), AV.s (SV.ro (Con.typ cC cs)), AV.s (SV.ro (Con.typ cW ws))] (27 : Nat), AObj.map (CK.int IntKind.i64) [], AObj.own [AV.s (SV.int IntKind.i64 (gI is (gU is id))), AV.s (SV.int IntKind.i64 (gU is (gU is id))), AV.s (SV.int IntKind.u8 (gS is (gU is id))), AV.s (SV.str (gP is (gU is id))), AV.s (SV.int IntKind.i64 (gN is (gU is id))), AV.s (SV.int IntKind.i64 (gF is (gU is id))), AV.s (SV.int IntKind.u8 (gW is (gU is id))), AV.s (SV.str (gC is (gU is id)))] (45 : Nat), AObj.own [AV.s (SV.int IntKind.i64 ck), AV.s (SV.int IntKind.i64 nx), AV.s (SV.ro (Con.typ cP ps)), AV.s (SV.ro (Con.typ cI is)), AV.s (SV.ro (Con.typ cC cs)), AV.s (SV.ro (Con.typ cW ws))] (27 : Nat), AObj.own [AV.tag (12 : Nat)] (57 : Nat), AObj.dead, AObj.own [AV.s (SV.int IntKind.u8 ev)] (5 : Nat), AObj.own [AV.s (SV.str key)] (9 : Nat), AObj.own [AV.s (SV.int IntKind.i64 (0 : Int)), AV.s (SV.int IntKind.i64 (0 : Int))] (30 : Nat), AObj.own [AV.s (SV.bool false)] (4 : Nat), AObj.dead, AObj.dead] (hd Try.f18 (5 : Nat)) (Stk.mk (some (18 : Nat)) false (0 : Nat) [inRange Try.f12 (some (12 : Nat)) (6 : Nat) (1 : Nat), inRange Try.f5 none (5 : Nat) (1 : Nat)] (0 : Nat)))))))))))
  (Tree.ite (!hasI is id) (Tree.ret [AObj.own [AV.s (SV.int IntKind.i64 ck), AV.s (SV.int IntKind.i64 nx), AV.s (SV.ro (Con.typ cP ps)), AV.s (SV.ro (Con.typ cI is)), AV.s (SV.ro (Con.typ cC cs)), AV.s (SV.ro (Con.typ cW ws))] (27 : Nat), AObj.own [AV.s (SV.int IntKind.u8 ev)] (5 : Nat), AObj.own [AV.s (SV.str key)] (9 : Nat), AObj.own [AV.s (SV.ilit IntKind.i64 (0 : Int)), AV.s (SV.ilit IntKind.i64 (0 : Int))] (30 : Nat), AObj.own [AV.s (SV.blit false)] (4 : Nat), AObj.own [AV.s (SV.int IntKind.i64 ck), AV.s (SV.int IntKind.i64 nx), AV.s (SV.ro (Con.typ cP ps)), AV.s (SV.ro (Con.typ cI is)), AV.s (SV.ro (Con.typ cC cs)), AV.s (SV.ro (Con.typ cW ws))] (27 : Nat), AObj.own [AV.s (SV.int IntKind.i64 id)] (3 : Nat), AObj.dead, AObj.dead, AObj.own [AV.tag (8 : Nat)] (57 : Nat), AObj.own [AV.s (SV.int IntKind.i64 (gI is id)), AV.s (SV.int IntKind.i64 (gU is id)), AV.s (SV.int IntKind.u8 (gS is id)), AV.s (SV.str (gP is id)), AV.s (SV.int IntKind.i64 (gN is id)), AV.s (SV.int IntKind.i64 (gF is id)), AV.s (SV.int IntKind.u8 (gW is id)), AV.s (SV.str (gC is id))] (45 : Nat)] (AV.tup [AV.agg [AV.s (SV.ilit IntKind.i64 (0 : Int)), AV.s (SV.ilit IntKind.i64 (0 : Int))], AV.s (SV.blit false)]))
    (Tree.ite (gS is id != (2 : Int)) (Tree.ret [AObj.own [AV.s (SV.int IntKind.i64 ck), AV.s (SV.int IntKind.i64 nx), AV.s (SV.ro (Con.typ cP ps)), AV.s (SV.ro (Con.typ cI is)), AV.s (SV.ro (Con.typ cC cs)), AV.s (SV.ro (Con.typ cW ws))] (27 : Nat), AObj.own [AV.s (SV.int IntKind.u8 ev)] (5 : Nat), AObj.own [AV.s (SV.str key)] (9 : Nat), AObj.own [AV.s (SV.ilit IntKind.i64 (0 : Int)), AV.s (SV.ilit IntKind.i64 (0 : Int))] (30 : Nat), AObj.own [AV.s (SV.blit false)] (4 : Nat), AObj.own [AV.s (SV.int IntKind.i64 ck), AV.s (SV.int IntKind.i64 nx), AV.s (SV.ro (Con.typ cP ps)), AV.s (SV.ro (Con.typ cI is)), AV.s (SV.ro (Con.typ cC cs)), AV.s (SV.ro (Con.typ cW ws))] (27 : Nat), AObj.own [AV.s (SV.int IntKind.i64 id)] (3 : Nat), AObj.dead, AObj.dead, AObj.own [AV.tag (8 : Nat)] (57 : Nat), AObj.own [AV.s (SV.int IntKind.i64 (gI is id)), AV.s (SV.int IntKind.i64 (gU is id)), AV.s (SV.int IntKind.u8 (gS is id)), AV.s (SV.str (gP is id)), AV.s (SV.int IntKind.i64 (gN is id)), AV.s (SV.int IntKind.i64 (gF is id)), AV.s (SV.int IntKind.u8 (gW is id)), AV.s (SV.str (gC is id))] (45 : Nat)] (AV.tup [AV.agg [AV.s (SV.ilit IntKind.i64 (0 : Int)), AV.s (SV.ilit IntKind.i64 (0 : Int))], AV.s (SV.blit false)]))
      (Tree.need ((pO (getP ps (gP is id))).length ≤ (1000000 : Nat))
        (Tree.ite (chooseF (pO (getP ps (gP is id))) (boL ps (gP is id) (gN is id)) ev key).snd (Tree.ret [AObj.own [AV.s (SV.int IntKind.i64 ck), AV.s (SV.int IntKind.i64 nx), AV.s (SV.ro (Con.typ cP ps)), AV.s (SV.ro (Con.typ cI is)), AV.s (SV.ro (Con.typ cC cs)), AV.s (SV.ro (Con.typ cW ws))] (27 : Nat), AObj.own [AV.s (SV.int IntKind.u8 ev)] (5 : Nat), AObj.own [AV.s (SV.str key)] (9 : Nat), AObj.own [AV.s (SV.int IntKind.i64 (gI is id)), AV.s (SV.int IntKind.i64 (chooseF (pO (getP ps (gP is id))) (boL ps (gP is id) (gN is id)) ev key).fst)] (30 : Nat), AObj.own [AV.s (SV.blit true)] (4 : Nat), AObj.own [AV.s (SV.int IntKind.i64 ck), AV.s (SV.int IntKind.i64 nx), AV.s (SV.ro (Con.typ cP ps)), AV.s (SV.ro (Con.typ cI is)), AV.s (SV.ro (Con.typ cC cs)), AV.s (SV.ro (Con.typ cW ws))] (27 : Nat), AObj.own [AV.s (SV.int IntKind.i64 id)] (3 : Nat), AObj.dead, AObj.dead, AObj.own [AV.tag (8 : Nat)] (57 : Nat), AObj.own [AV.s (SV.int IntKind.i64 (gI is id)), AV.s (SV.int IntKind.i64 (gU is id)), AV.s (SV.int IntKind.u8 (gS is id)), AV.s (SV.str (gP is id)), AV.s (SV.int IntKind.i64 (gN is id)), AV.s (SV.int IntKind.i64 (gF is id)), AV.s (SV.int IntKind.u8 (gW is id)), AV.s (SV.str (gC is id))] (45 : Nat), AObj.own [AV.s (SV.int IntKind.i64 (gI is id)), AV.s (SV.int IntKind.i64 (gU is id)), AV.s (SV.int IntKind.u8 (gS is id)), AV.s (SV.str (gP is id)), AV.s (SV.int IntKind.i64 (gN is id)), AV.s (SV.int IntKind.i64 (gF is id)), AV.s (SV.int IntKind.u8 (gW is id)), AV.s (SV.str (gC is id)), AV.s (SV.str (pN (getP ps (gP is id)))), AV.s (SV.ro (Con.typ cV (pV (getP ps (gP is id))))), AV.s (SV.ro (Con.typ cN (pO (getP ps (gP is id))))), AV.s (SV.ro (Con.typ cF (pF (getP ps (gP is id))))), AV.s (SV.ro (Con.ints IntKind.i64 (boL ps (gP is id) (gN is id))))] (51 : Nat)] (AV.tup [AV.agg [AV.s (SV.int IntKind.i64 (gI is id)), AV.s (SV.int IntKind.i64 (chooseF (pO (getP ps (gP is id))) (boL ps (gP is id) (gN is id)) ev key).fst)], AV.s (SV.blit true)]))
          (Tree.ite (!hasI is id) (Tree.ret [AObj.own [AV.s (SV.int IntKind.i64 ck), AV.s (SV.int IntKind.i64 nx), AV.s (SV.ro (Con.typ cP ps)), AV.s (SV.ro (Con.typ cI is)), AV.s (SV.ro (Con.typ cC cs)), AV.s (SV.ro (Con.typ cW ws))] (27 : Nat), AObj.own [AV.s (SV.int IntKind.u8 ev)] (5 : Nat), AObj.own [AV.s (SV.str key)] (9 : Nat), AObj.own [AV.s (SV.ilit IntKind.i64 (0 : Int)), AV.s (SV.ilit IntKind.i64 (0 : Int))] (30 : Nat), AObj.own [AV.s (SV.blit false)] (4 : Nat), AObj.own [AV.s (SV.int IntKind.i64 ck), AV.s (SV.int IntKind.i64 nx), AV.s (SV.ro (Con.typ cP ps)), AV.s (SV.ro (Con.typ cI is)), AV.s (SV.ro (Con.typ cC cs)), AV.s (SV.ro (Con.typ cW ws))] (27 : Nat), AObj.own [AV.s (SV.int IntKind.i64 id)] (3 : Nat), AObj.dead, AObj.dead, AObj.own [AV.tag (8 : Nat)] (57 : Nat), AObj.own [AV.s (SV.int IntKind.i64 (gI is id)), AV.s (SV.int IntKind.i64 (gU is id)), AV.s (SV.int IntKind.u8 (gS is id)), AV.s (SV.str (gP is id)), AV.s (SV.int IntKind.i64 (gN is id)), AV.s (SV.int IntKind.i64 (gF is id)), AV.s (SV.int IntKind.u8 (gW is id)), AV.s (SV.str (gC is id))] (45 : Nat), AObj.own [AV.s (SV.int IntKind.i64 (gI is id)), AV.s (SV.int IntKind.i64 (gU is id)), AV.s (SV.int IntKind.u8 (gS is id)), AV.s (SV.str (gP is id)), AV.s (SV.int IntKind.i64 (gN is id)), AV.s (SV.int IntKind.i64 (gF is id)), AV.s (SV.int IntKind.u8 (gW is id)), AV.s (SV.str (gC is id)), AV.s (SV.str (pN (getP ps (gP is id)))), AV.s (SV.ro (Con.typ cV (pV (getP ps (gP is id))))), AV.s (SV.ro (Con.typ cN (pO (getP ps (gP is id))))), AV.s (SV.ro (Con.typ cF (pF (getP ps (gP is id))))), AV.s (SV.ro (Con.ints IntKind.i64 (boL ps (gP is id) (gN is id))))] (51 : Nat), AObj.own [AV.s (SV.int IntKind.i64 ck), AV.s (SV.int IntKind.i64 nx), AV.s (SV.ro (Con.typ cP ps)), AV.s (SV.ro (Con.typ cI is)), AV.s (SV.ro (Con.typ cC cs)), AV.s (SV.ro (Con.typ cW ws))] (27 : Nat), AObj.own [AV.s (SV.int IntKind.i64 id)] (3 : Nat), AObj.dead, AObj.dead, AObj.own [AV.s (SV.int IntKind.i64 (gI is id)), AV.s (SV.int IntKind.i64 (gU is id)), AV.s (SV.int IntKind.u8 (gS is id)), AV.s (SV.str (gP is id)), AV.s (SV.int IntKind.i64 (gN is id)), AV.s (SV.int IntKind.i64 (gF is id)), AV.s (SV.int IntKind.u8 (gW is id)), AV.s (SV.str (gC is id))] (45 : Nat)] (AV.tup [AV.agg [AV.s (SV.ilit IntKind.i64 (0 : Int)), AV.s (SV.ilit IntKind.i64 (0 : Int))], AV.s (SV.blit false)]))
            (Tree.ite (gS is id != (2 : Int)) (Tree.ret [AObj.own [AV.s (SV.int IntKind.i64 ck), AV.s (SV.int IntKind.i64 nx), AV.s (SV.ro (Con.typ cP ps)), AV.s (SV.ro (Con.typ cI is)), AV.s (SV.ro (Con.typ cC cs)), AV.s (SV.ro (Con.typ cW ws))] (27 : Nat), AObj.own [AV.s (SV.int IntKind.u8 ev)] (5 : Nat), AObj.own [AV.s (SV.str key)] (9 : Nat), AObj.own [AV.s (SV.ilit IntKind.i64 (0 : Int)), AV.s (SV.ilit IntKind.i64 (0 : Int))] (30 : Nat), AObj.own [AV.s (SV.blit false)] (4 : Nat), AObj.own [AV.s (SV.int IntKind.i64 ck), AV.s (SV.int IntKind.i64 nx), AV.s (SV.ro (Con.typ cP ps)), AV.s (SV.ro (Con.typ cI is)), AV.s (SV.ro (Con.typ cC cs)), AV.s (SV.ro (Con.typ cW ws))] (27 : Nat), AObj.own [AV.s (SV.int IntKind.i64 id)] (3 : Nat), AObj.dead, AObj.dead, AObj.own [AV.tag (8 : Nat)] (57 : Nat), AObj.own [AV.s (SV.int IntKind.i64 (gI is id)), AV.s (SV.int IntKind.i64 (gU is id)), AV.s (SV.int IntKind.u8 (gS is id)), AV.s (SV.str (gP is id)), AV.s (SV.int IntKind.i64 (gN is id)), AV.s (SV.int IntKind.i64 (gF is id)), AV.s (SV.int IntKind.u8 (gW is id)), AV.s (SV.str (gC is id))] (45 : Nat), AObj.own [AV.s (SV.int IntKind.i64 (gI is id)), AV.s (SV.int IntKind.i64 (gU is id)), AV.s (SV.int IntKind.u8 (gS is id)), AV.s (SV.str (gP is id)), AV.s (SV.int IntKind.i64 (gN is id)), AV.s (SV.int IntKind.i64 (gF is id)), AV.s (SV.int IntKind.u8 (gW is id)), AV.s (SV.str (gC is id)), AV.s (SV.str (pN (getP ps (gP is id)))), AV.s (SV.ro (Con.typ cV (pV (getP ps (gP is id))))), AV.s (SV.ro (Con.typ cN (pO (getP ps (gP is id))))), AV.s (SV.ro (Con.typ cF (pF (getP ps (gP is id))))), AV.s (SV.ro (Con.ints IntKind.i64 (boL ps (gP is id) (gN is id))))] (51 : Nat), AObj.own [AV.s (SV.int IntKind.i64 ck), AV.s (SV.int IntKind.i64 nx), AV.s (SV.ro (Con.typ cP ps)), AV.s (SV.ro (Con.typ cI is)), AV.s (SV.ro (Con.typ cC cs)), AV.s (SV.ro (Con.typ cW ws))] (27 : Nat), AObj.own [AV.s (SV.int IntKind.i64 id)] (3 : Nat), AObj.dead, AObj.dead, AObj.own [AV.s (SV.int IntKind.i64 (gI is id)), AV.s (SV.int IntKind.i64 (gU is id)), AV.s (SV.int IntKind.u8 (gS is id)), AV.s (SV.str (gP is id)), AV.s (SV.int IntKind.i64 (gN is id)), AV.s (SV.int IntKind.i64 (gF is id)), AV.s (SV.int IntKind.u8 (gW is id)), AV.s (SV.str (gC is id))] (45 : Nat)] (AV.tup [AV.agg [AV.s (SV.ilit IntKind.i64 (0 : Int)), AV.s (SV.ilit IntKind.i64 (0 : Int))], AV.s (SV.blit false)]))
              (Tree.at (Cfg.mk (sl (195 : Nat) [((0 : Nat), AV.tag (0 : Nat)), ((1 : Nat), AV.ptr (1 : Nat) (0 : Nat)), ((5 : Nat), AV.s (SV.bool (hasI is (gU is id)))), ((6 : Nat), AV.mapv (2 : Nat)), ((7 : Nat), AV.ptr (3 : Nat) (0 : Nat)), ((8 : Nat), AV.s (SV.bool false)), ((84 : Nat), AV.ptr (4 : Nat) (0 : Nat)), ((86 : Nat), AV.ptr (5 : Nat) (0 : Nat)), ((150 : Nat), AV.tag (6 : Nat)), ((151 : Nat), AV.tag (0 : Nat)), ((158 : Nat), AV.ptr (7 : Nat) (0 : Nat)), ((159 : Nat), AV.ptr (8 : Nat) (0 : Nat)), ((160 : Nat), AV.ptr (9 : Nat) (0 : Nat)), ((161 : Nat), AV.ptr (10 : Nat) (0 : Nat)), ((193 : Nat), AV.tag (11 : Nat)), ((194 : Nat), AV.tag (12 : Nat))]) [AObj.dead, AObj.own [AV.s (SV.int IntKind.i64 ck), AV.s (SV.int IntKind.i64 nx), AV.s (SV.ro (Con.typ cP ps)), AV.s (SV.ro (Con.typ cI is)), AV.s (SV.ro (Con.typ cC cs)), AV.s (SV.ro (Con.typ cW ws))] (27 : Nat), AObj.map (CK.int IntKind.i64) [], AObj.own [AV.s (SV.int IntKind.i64 (gI is (gU is id))), AV.s (SV.int IntKind.i64 (gU is (gU is id))), AV.s (SV.int IntKind.u8 (gS is (gU is id))), AV.s (SV.str (gP is (gU is id))), AV.s (SV.int IntKind.i64 (gN is (gU is id))), AV.s (SV.int IntKind.i64 (gF is (gU is id))), AV.s (SV.int IntKind.u8 (gW is (gU is id))), AV.s (SV.str (gC is (gU is id)))] (45 : Nat), AObj.own [AV.s (SV.int IntKind.i64 ck), AV.s (SV.int IntKind.i64 nx), AV.s (SV.ro (Con.typ cP ps)), AV.s (SV.ro (Con.typ cI is)), AV.s (SV.ro (Con.typ cC cs)), AV.s (SV.ro (Con.typ cW ws))] (27 : Nat), AObj.own [AV.tag (12 : Nat)] (57 : Nat), AObj.dead, AObj.own [AV.s (SV.int IntKind.u8 ev)] (5 : Nat), AObj.own [AV.s (SV.str key)] (9 : Nat), AObj.own [AV.s (SV.int IntKind.i64 (0 : Int)), AV.s (SV.int IntKind.i64 (0 : Int))] (30 : Nat), AObj.own [AV.s (SV.bool false)] (4 : Nat), AObj.dead, AObj.dead] (hd Try.f18 (5 : Nat)) (Stk.mk (some (18 : Nat)) false (0 : Nat) [inRange Try.f12 (some (12 : Nat)) (6 : Nat) (1 : Nat), inRange Try.f5 none (5 : Nat) (1 : Nat)] (0 : Nat)))))))))) := by kernel_rfl
theorem loopRf (ck nx : Int) (ps : Ps) (is : Is) (cs : Cs) (ws : Ws) (ev : Int) (key : ByteArray) (b own : Bool) (x : CL cI) (m : Mp) : run P tabRf.sum Try.f5 nsRg (cRf ck nx ps is cs ws ev key b own x m) inRf =
  Tree.ite b
  (Tree.ite (iS x == (1 : Int))
    (Tree.ite ((mget m (iI x)).getD (CK.int IntKind.i64).d == (0 : Int))
      (Tree.need (inI64 ((mget m (iI x)).getD (CK.int IntKind.i64).d + (1 : Int)))
        (Tree.ite (!own)
          (Tree.need ((pO (getP ps (iP x))).length ≤ (1000000 : Nat))
            (Tree.ite (chooseF (pO (getP ps (iP x))) (asL (pO (getP ps (iP x))) (iN x)) ev key).snd (Tree.ret [AObj.dead, AObj.own [AV.s (SV.int IntKind.i64 ck), AV.s (SV.int IntKind.i64 nx), AV.s (SV.ro (Con.typ cP ps)), AV.s (SV.ro (Con.typ cI is)), AV.s (SV.ro (Con.typ cC cs)), AV.s (SV.ro (Con.typ cW ws))] (27 : Nat), AObj.map (CK.int IntKind.i64) (mput m (iI x) ((mget m (iI x)).getD (CK.int IntKind.i64).d + (1 : Int))), AObj.own [AV.s (SV.int IntKind.i64 (iI x)), AV.s (SV.int IntKind.i64 (iU x)), AV.s (SV.int IntKind.u8 (iS x)), AV.s (SV.str (iP x)), AV.s (SV.int IntKind.i64 (iN x)), AV.s (SV.int IntKind.i64 (iF x)), AV.s (SV.int IntKind.u8 (iW x)), AV.s (SV.str (iC x))] (45 : Nat), AObj.own [AV.s (SV.int IntKind.i64 ck), AV.s (SV.int IntKind.i64 nx), AV.s (SV.ro (Con.typ cP ps)), AV.s (SV.ro (Con.typ cI is)), AV.s (SV.ro (Con.typ cC cs)), AV.s (SV.ro (Con.typ cW ws))] (27 : Nat), AObj.own [AV.tag (12 : Nat)] (57 : Nat), AObj.dead, AObj.own [AV.s (SV.int IntKind.u8 ev)] (5 : Nat), AObj.own [AV.s (SV.str key)] (9 : Nat), AObj.own [AV.s (SV.int IntKind.i64 (iI x)), AV.s (SV.int IntKind.i64 (chooseF (pO (getP ps (iP x))) (asL (pO (getP ps (iP x))) (iN x)) ev key).fst)] (30 : Nat), AObj.own [AV.s (SV.blit true)] (4 : Nat), AObj.dead, AObj.dead, AObj.own [AV.s (SV.int IntKind.i64 (iI x)), AV.s (SV.int IntKind.i64 (iU x)), AV.s (SV.int IntKind.u8 (iS x)), AV.s (SV.str (iP x)), AV.s (SV.int IntKind.i64 (iN x)), AV.s (SV.int IntKind.i64 (iF x)), AV.s (SV.int IntKind.u8 (iW x)), AV.s (SV.str (iC x))] (45 : Nat), AObj.own [AV.s (SV.int IntKind.i64 (iI x)), AV.s (SV.int IntKind.i64 (iU x)), AV.s (SV.int IntKind.u8 (iS x)), AV.s (SV.str (iP x)), AV.s (SV.int IntKind.i64 (iN x)), AV.s (SV.int IntKind.i64 (iF x)), AV.s (SV.int IntKind.u8 (iW x)), AV.s (SV.str (iC x)), AV.s (SV.str (pN (getP ps (iP x)))), AV.s (SV.ro (Con.typ cV (pV (getP ps (iP x))))), AV.s (SV.ro (Con.typ cN (pO (getP ps (iP x))))), AV.s (SV.ro (Con.typ cF (pF (getP ps (iP x))))), AV.s (SV.ro (Con.ints IntKind.i64 (asL (pO (getP ps (iP x))) (iN x))))] (51 : Nat)] (AV.tup [AV.agg [AV.s (SV.int IntKind.i64 (iI x)), AV.s (SV.int IntKind.i64 (chooseF (pO (getP ps (iP x))) (asL (pO (getP ps (iP x))) (iN x)) ev key).fst)], AV.s (SV.blit true)]))
              (Tree.ite (hasI is (iU x))
                (Tree.ite (gS is (iU x) == (2 : Int))
                  (Tree.need ((pO (getP ps (gP is (iU x)))).length ≤ (1000000 : Nat))
                    (Tree.ite (chooseF (pO (getP ps (gP is (iU x)))) (boL ps (gP is (iU x)) (gN is (iU x))) ev key).snd (Tree.ret [AObj.dead, AObj.own [AV.s (SV.int IntKind.i64 ck), AV.s (SV.int IntKind.i64 nx), AV.s (SV.ro (Con.typ cP ps)), AV.s (SV.ro (Con.typ cI is)), AV.s (SV.ro (Con.typ cC cs)), AV.s (SV.ro (Con.typ cW ws))] (27 : Nat), AObj.map (CK.int IntKind.i64) (mput m (iI x) ((mget m (iI x)).getD (CK.int IntKind.i64).d + (1 : Int))), AObj.own [AV.s (SV.int IntKind.i64 (iI x)), AV.s (SV.int IntKind.i64 (iU x)), AV.s (SV.int IntKind.u8 (iS x)), AV.s (SV.str (iP x)), AV.s (SV.int IntKind.i64 (iN x)), AV.s (SV.int IntKind.i64 (iF x)), AV.s (SV.int IntKind.u8 (iW x)), AV.s (SV.str (iC x))] (45 : Nat), AObj.own [AV.s (SV.int IntKind.i64 ck), AV.s (SV.int IntKind.i64 nx), AV.s (SV.ro (Con.typ cP ps)), AV.s (SV.ro (Con.typ cI is)), AV.s (SV.ro (Con.typ cC cs)), AV.s (SV.ro (Con.typ cW ws))] (27 : Nat), AObj.own [AV.tag (12 : Nat)] (57 : Nat), AObj.dead, AObj.own [AV.s (SV.int IntKind.u8 ev)] (5 : Nat), AObj.own [AV.s (SV.str key)] (9 : Nat), AObj.own [AV.s (SV.int IntKind.i64 (gI is (iU x))), AV.s (SV.int IntKind.i64 (chooseF (pO (getP ps (gP is (iU x)))) (boL ps (gP is (iU x)) (gN is (iU x))) ev key).fst)] (30 : Nat), AObj.own [AV.s (SV.blit true)] (4 : Nat), AObj.dead, AObj.dead, AObj.own [AV.s (SV.int IntKind.i64 (iI x)), AV.s (SV.int IntKind.i64 (iU x)), AV.s (SV.int IntKind.u8 (iS x)), AV.s (SV.str (iP x)), AV.s (SV.int IntKind.i64 (iN x)), AV.s (SV.int IntKind.i64 (iF x)), AV.s (SV.int IntKind.u8 (iW x)), AV.s (SV.str (iC x))] (45 : Nat), AObj.own [AV.s (SV.int IntKind.i64 (iI x)), AV.s (SV.int IntKind.i64 (iU x)), AV.s (SV.int IntKind.u8 (iS x)), AV.s (SV.str (iP x)), AV.s (SV.int IntKind.i64 (iN x)), AV.s (SV.int IntKind.i64 (iF x)), AV.s (SV.int IntKind.u8 (iW x)), AV.s (SV.str (iC x)), AV.s (SV.str (pN (getP ps (iP x)))), AV.s (SV.ro (Con.typ cV (pV (getP ps (iP x))))), AV.s (SV.ro (Con.typ cN (pO (getP ps (iP x))))), AV.s (SV.ro (Con.typ cF (pF (getP ps (iP x))))), AV.s (SV.ro (Con.ints IntKind.i64 (asL (pO (getP ps (iP x))) (iN x))))] (51 : Nat), AObj.own [AV.s (SV.int IntKind.i64 (gI is (iU x))), AV.s (SV.int IntKind.i64 (gU is (iU x))), AV.s (SV.int IntKind.u8 (gS is (iU x))), AV.s (SV.str (gP is (iU x))), AV.s (SV.int IntKind.i64 (gN is (iU x))), AV.s (SV.int IntKind.i64 (gF is (iU x))), AV.s (SV.int IntKind.u8 (gW is (iU x))), AV.s (SV.str (gC is (iU x)))] (45 : Nat), AObj.own [AV.s (SV.int IntKind.i64 (gI is (iU x))), AV.s (SV.int IntKind.i64 (gU is (iU x))), AV.s (SV.int IntKind.u8 (gS is (iU x))), AV.s (SV.str (gP is (iU x))), AV.s (SV.int IntKind.i64 (gN is (iU x))), AV.s (SV.int IntKind.i64 (gF is (iU x))), AV.s (SV.int IntKind.u8 (gW is (iU x))), AV.s (SV.str (gC is (iU x))), AV.s (SV.str (pN (getP ps (gP is (iU x))))), AV.s (SV.ro (Con.typ cV (pV (getP ps (gP is (iU x)))))), AV.s (SV.ro (Con.typ cN (pO (getP ps (gP is (iU x)))))), AV.s (SV.ro (Con.typ cF (pF (getP ps (gP is (iU x)))))), AV.s (SV.ro (Con.ints IntKind.i64 (boL ps (gP is (iU x)) (gN is (iU x)))))] (51 : Nat)] (AV.tup [AV.agg [AV.s (SV.int IntKind.i64 (gI is (iU x))), AV.s (SV.int IntKind.i64 (chooseF (pO (getP ps (gP is (iU x)))) (boL ps (gP is (iU x)) (gN is (iU x))) ev key).fst)], AV.s (SV.blit true)]))
                      (Tree.at (Cfg.mk (sl (195 : Nat) [((0 : Nat), AV.tag (0 : Nat)), ((1 : Nat), AV.ptr (1 : Nat) (0 : Nat)), ((6 : Nat), AV.mapv (2 : Nat)), ((7 : Nat), AV.ptr (3 : Nat) (0 : Nat)), ((84 : Nat), AV.ptr (4 : Nat) (0 : Nat)), ((86 : Nat), AV.ptr (5 : Nat) (0 : Nat)), ((150 : Nat), AV.tag (6 : Nat)), ((151 : Nat), AV.tag (0 : Nat)), ((158 : Nat), AV.ptr (7 : Nat) (0 : Nat)), ((159 : Nat), AV.ptr (8 : Nat) (0 : Nat)), ((160 : Nat), AV.ptr (9 : Nat) (0 : Nat)), ((161 : Nat), AV.ptr (10 : Nat) (0 : Nat)), ((193 : Nat), AV.tag (11 : Nat)), ((194 : Nat), AV.tag (12 : Nat))]) [AObj.dead, AObj.own [AV.s (SV.int IntKind.i64 ck), AV.s (SV.int IntKind.i64 nx), AV.s (SV.ro (Con.typ cP ps)), AV.s (SV.ro (Con.typ cI is)), AV.s (SV.ro (Con.typ cC cs)), AV.s (SV.ro (Con.typ cW ws))] (27 : Nat), AObj.map (CK.int IntKind.i64) (mput m (iI x) ((mget m (iI x)).getD (CK.int IntKind.i64).d + (1 : Int))), AObj.own [AV.s (SV.int IntKind.i64 (iI x)), AV.s (SV.int IntKind.i64 (iU x)), AV.s (SV.int IntKind.u8 (iS x)), AV.s (SV.str (iP x)), AV.s (SV.int IntKind.i64 (iN x)), AV.s (SV.int IntKind.i64 (iF x)), AV.s (SV.int IntKind.u8 (iW x)), AV.s (SV.str (iC x))] (45 : Nat), AObj.own [AV.s (SV.int IntKind.i64 ck), AV.s (SV.int IntKind.i64 nx), AV.s (SV.ro (Con.typ cP ps)), AV.s (SV.ro (Con.typ cI is)), AV.s (SV.ro (Con.typ cC cs)), AV.s (SV.ro (Con.typ cW ws))] (27 : Nat), AObj.own [AV.tag (12 : Nat)] (57 : Nat), AObj.dead, AObj.own [AV.s (SV.int IntKind.u8 ev)] (5 : Nat), AObj.own [AV.s (SV.str key)] (9 : Nat), AObj.own [AV.s (SV.int IntKind.i64 (0 : Int)), AV.s (SV.int IntKind.i64 (0 : Int))] (30 : Nat), AObj.own [AV.s (SV.bool false)] (4 : Nat), AObj.dead, AObj.dead] (hr Try.f18 (8 : Nat)) (Stk.mk (some (18 : Nat)) false (0 : Nat) [inRange Try.f12 (some (12 : Nat)) (6 : Nat) (1 : Nat), inRange Try.f5 none (5 : Nat) (1 : Nat)] (0 : Nat))))))
                  (Tree.at (Cfg.mk (sl (195 : Nat) [((0 : Nat), AV.tag (0 : Nat)), ((1 : Nat), AV.ptr (1 : Nat) (0 : Nat)), ((6 : Nat), AV.mapv (2 : Nat)), ((7 : Nat), AV.ptr (3 : Nat) (0 : Nat)), ((84 : Nat), AV.ptr (4 : Nat) (0 : Nat)), ((86 : Nat), AV.ptr (5 : Nat) (0 : Nat)), ((150 : Nat), AV.tag (6 : Nat)), ((151 : Nat), AV.tag (0 : Nat)), ((158 : Nat), AV.ptr (7 : Nat) (0 : Nat)), ((159 : Nat), AV.ptr (8 : Nat) (0 : Nat)), ((160 : Nat), AV.ptr (9 : Nat) (0 : Nat)), ((161 : Nat), AV.ptr (10 : Nat) (0 : Nat)), ((193 : Nat), AV.tag (11 : Nat)), ((194 : Nat), AV.tag (12 : Nat))]) [AObj.dead, AObj.own [AV.s (SV.int IntKind.i64 ck), AV.s (SV.int IntKind.i64 nx), AV.s (SV.ro (Con.typ cP ps)), AV.s (SV.ro (Con.typ cI is)), AV.s (SV.ro (Con.typ cC cs)), AV.s (SV.ro (Con.typ cW ws))] (27 : Nat), AObj.map (CK.int IntKind.i64) (mput m (iI x) ((mget m (iI x)).getD (CK.int IntKind.i64).d + (1 : Int))), AObj.own [AV.s (SV.int IntKind.i64 (iI x)), AV.s (SV.int IntKind.i64 (iU x)), AV.s (SV.int IntKind.u8 (iS x)), AV.s (SV.str (iP x)), AV.s (SV.int IntKind.i64 (iN x)), AV.s (SV.int IntKind.i64 (iF x)), AV.s (SV.int IntKind.u8 (iW x)), AV.s (SV.str (iC x))] (45 : Nat), AObj.own [AV.s (SV.int IntKind.i64 ck), AV.s (SV.int IntKind.i64 nx), AV.s (SV.ro (Con.typ cP ps)), AV.s (SV.ro (Con.typ cI is)), AV.s (SV.ro (Con.typ cC cs)), AV.s (SV.ro (Con.typ cW ws))] (27 : Nat), AObj.own [AV.tag (12 : Nat)] (57 : Nat), AObj.dead, AObj.own [AV.s (SV.int IntKind.u8 ev)] (5 : Nat), AObj.own [AV.s (SV.str key)] (9 : Nat), AObj.own [AV.s (SV.int IntKind.i64 (0 : Int)), AV.s (SV.int IntKind.i64 (0 : Int))] (30 : Nat), AObj.own [AV.s (SV.bool false)] (4 : Nat), AObj.dead, AObj.dead] (hr Try.f18 (8 : Nat)) (Stk.mk (some (18 : Nat)) false (0 : Nat) [inRange Try.f12 (some (12 : Nat)) (6 : Nat) (1 : Nat), inRange Try.f5 none (5 : Nat) (1 : Nat)] (0 : Nat)))))
                (Tree.at (Cfg.mk (sl (195 : Nat) [((0 : Nat), AV.tag (0 : Nat)), ((1 : Nat), AV.ptr (1 : Nat) (0 : Nat)), ((6 : Nat), AV.mapv (2 : Nat)), ((7 : Nat), AV.ptr (3 : Nat) (0 : Nat)), ((84 : Nat), AV.ptr (4 : Nat) (0 : Nat)), ((86 : Nat), AV.ptr (5 : Nat) (0 : Nat)), ((150 : Nat), AV.tag (6 : Nat)), ((151 : Nat), AV.tag (0 : Nat)), ((158 : Nat), AV.ptr (7 : Nat) (0 : Nat)), ((159 : Nat), AV.ptr (8 : Nat) (0 : Nat)), ((160 : Nat), AV.ptr (9 : Nat) (0 : Nat)), ((161 : Nat), AV.ptr (10 : Nat) (0 : Nat)), ((193 : Nat), AV.tag (11 : Nat)), ((194 : Nat), AV.tag (12 : Nat))]) [AObj.dead, AObj.own [AV.s (SV.int IntKind.i64 ck), AV.s (SV.int IntKind.i64 nx), AV.s (SV.ro (Con.typ cP ps)), AV.s (SV.ro (Con.typ cI is)), AV.s (SV.ro (Con.typ cC cs)), AV.s (SV.ro (Con.typ cW ws))] (27 : Nat), AObj.map (CK.int IntKind.i64) (mput m (iI x) ((mget m (iI x)).getD (CK.int IntKind.i64).d + (1 : Int))), AObj.own [AV.s (SV.int IntKind.i64 (iI x)), AV.s (SV.int IntKind.i64 (iU x)), AV.s (SV.int IntKind.u8 (iS x)), AV.s (SV.str (iP x)), AV.s (SV.int IntKind.i64 (iN x)), AV.s (SV.int IntKind.i64 (iF x)), AV.s (SV.int IntKind.u8 (iW x)), AV.s (SV.str (iC x))] (45 : Nat), AObj.own [AV.s (SV.int IntKind.i64 ck), AV.s (SV.int IntKind.i64 nx), AV.s (SV.ro (Con.typ cP ps)), AV.s (SV.ro (Con.typ cI is)), AV.s (SV.ro (Con.typ cC cs)), AV.s (SV.ro (Con.typ cW ws))] (27 : Nat), AObj.own [AV.tag (12 : Nat)] (57 : Nat), AObj.dead, AObj.own [AV.s (SV.int IntKind.u8 ev)] (5 : Nat), AObj.own [AV.s (SV.str key)] (9 : Nat), AObj.own [AV.s (SV.int IntKind.i64 (0 : Int)), AV.s (SV.int IntKind.i64 (0 : Int))] (30 : Nat), AObj.own [AV.s (SV.bool false)] (4 : Nat), AObj.dead, AObj.dead] (hr Try.f18 (8 : Nat)) (Stk.mk (some (18 : Nat)) false (0 : Nat) [inRange Try.f12 (some (12 : Nat)) (6 : Nat) (1 : Nat), inRange Try.f5 none (5 : Nat) (1 : Nat)] (0 : Nat)))))))
          (Tree.ite (hasI is (iU x))
            (Tree.ite (gS is (iU x) == (2 : Int))
              (Tree.need ((pO (getP ps (gP is (iU x)))).length ≤ (1000000 : Nat))
                (Tree.ite (chooseF (pO (getP ps (gP is (iU x)))) (boL ps (gP is (iU x)) (gN is (iU x))) ev key).snd (Tree.ret [AObj.dead, AObj.own [AV.s (SV.int IntKind.i64 ck), AV.s (SV.int IntKind.i64 nx), AV.s (SV.ro (Con.typ cP ps)), AV.s (SV.ro (Con.typ cI is)), AV.s (SV.ro (Con.typ cC cs)), AV.s (SV.ro (Con.typ cW ws))] (27 : Nat), AObj.map (CK.int IntKind.i64) (mput m (iI x) ((mget m (iI x)).getD (CK.int IntKind.i64).d + (1 : Int))), AObj.own [AV.s (SV.int IntKind.i64 (iI x)), AV.s (SV.int IntKind.i64 (iU x)), AV.s (SV.int IntKind.u8 (iS x)), AV.s (SV.str (iP x)), AV.s (SV.int IntKind.i64 (iN x)), AV.s (SV.int IntKind.i64 (iF x)), AV.s (SV.int IntKind.u8 (iW x)), AV.s (SV.str (iC x))] (45 : Nat), AObj.own [AV.s (SV.int IntKind.i64 ck), AV.s (SV.int IntKind.i64 nx), AV.s (SV.ro (Con.typ cP ps)), AV.s (SV.ro (Con.typ cI is)), AV.s (SV.ro (Con.typ cC cs)), AV.s (SV.ro (Con.typ cW ws))] (27 : Nat), AObj.own [AV.tag (12 : Nat)] (57 : Nat), AObj.dead, AObj.own [AV.s (SV.int IntKind.u8 ev)] (5 : Nat), AObj.own [AV.s (SV.str key)] (9 : Nat), AObj.own [AV.s (SV.int IntKind.i64 (gI is (iU x))), AV.s (SV.int IntKind.i64 (chooseF (pO (getP ps (gP is (iU x)))) (boL ps (gP is (iU x)) (gN is (iU x))) ev key).fst)] (30 : Nat), AObj.own [AV.s (SV.blit true)] (4 : Nat), AObj.dead, AObj.dead, AObj.own [AV.s (SV.int IntKind.i64 (iI x)), AV.s (SV.int IntKind.i64 (iU x)), AV.s (SV.int IntKind.u8 (iS x)), AV.s (SV.str (iP x)), AV.s (SV.int IntKind.i64 (iN x)), AV.s (SV.int IntKind.i64 (iF x)), AV.s (SV.int IntKind.u8 (iW x)), AV.s (SV.str (iC x))] (45 : Nat), AObj.own [AV.s (SV.int IntKind.i64 (gI is (iU x))), AV.s (SV.int IntKind.i64 (gU is (iU x))), AV.s (SV.int IntKind.u8 (gS is (iU x))), AV.s (SV.str (gP is (iU x))), AV.s (SV.int IntKind.i64 (gN is (iU x))), AV.s (SV.int IntKind.i64 (gF is (iU x))), AV.s (SV.int IntKind.u8 (gW is (iU x))), AV.s (SV.str (gC is (iU x)))] (45 : Nat), AObj.own [AV.s (SV.int IntKind.i64 (gI is (iU x))), AV.s (SV.int IntKind.i64 (gU is (iU x))), AV.s (SV.int IntKind.u8 (gS is (iU x))), AV.s (SV.str (gP is (iU x))), AV.s (SV.int IntKind.i64 (gN is (iU x))), AV.s (SV.int IntKind.i64 (gF is (iU x))), AV.s (SV.int IntKind.u8 (gW is (iU x))), AV.s (SV.str (gC is (iU x))), AV.s (SV.str (pN (getP ps (gP is (iU x))))), AV.s (SV.ro (Con.typ cV (pV (getP ps (gP is (iU x)))))), AV.s (SV.ro (Con.typ cN (pO (getP ps (gP is (iU x)))))), AV.s (SV.ro (Con.typ cF (pF (getP ps (gP is (iU x)))))), AV.s (SV.ro (Con.ints IntKind.i64 (boL ps (gP is (iU x)) (gN is (iU x)))))] (51 : Nat)] (AV.tup [AV.agg [AV.s (SV.int IntKind.i64 (gI is (iU x))), AV.s (SV.int IntKind.i64 (chooseF (pO (getP ps (gP is (iU x)))) (boL ps (gP is (iU x)) (gN is (iU x))) ev key).fst)], AV.s (SV.blit true)]))
                  (Tree.at (Cfg.mk (sl (195 : Nat) [((0 : Nat), AV.tag (0 : Nat)), ((1 : Nat), AV.ptr (1 : Nat) (0 : Nat)), ((6 : Nat), AV.mapv (2 : Nat)), ((7 : Nat), AV.ptr (3 : Nat) (0 : Nat)), ((84 : Nat), AV.ptr (4 : Nat) (0 : Nat)), ((86 : Nat), AV.ptr (5 : Nat) (0 : Nat)), ((150 : Nat), AV.tag (6 : Nat)), ((151 : Nat), AV.tag (0 : Nat)), ((158 : Nat), AV.ptr (7 : Nat) (0 : Nat)), ((159 : Nat), AV.ptr (8 : Nat) (0 : Nat)), ((160 : Nat), AV.ptr (9 : Nat) (0 : Nat)), ((161 : Nat), AV.ptr (10 : Nat) (0 : Nat)), ((193 : Nat), AV.tag (11 : Nat)), ((194 : Nat), AV.tag (12 : Nat))]) [AObj.dead, AObj.own [AV.s (SV.int IntKind.i64 ck), AV.s (SV.int IntKind.i64 nx), AV.s (SV.ro (Con.typ cP ps)), AV.s (SV.ro (Con.typ cI is)), AV.s (SV.ro (Con.typ cC cs)), AV.s (SV.ro (Con.typ cW ws))] (27 : Nat), AObj.map (CK.int IntKind.i64) (mput m (iI x) ((mget m (iI x)).getD (CK.int IntKind.i64).d + (1 : Int))), AObj.own [AV.s (SV.int IntKind.i64 (iI x)), AV.s (SV.int IntKind.i64 (iU x)), AV.s (SV.int IntKind.u8 (iS x)), AV.s (SV.str (iP x)), AV.s (SV.int IntKind.i64 (iN x)), AV.s (SV.int IntKind.i64 (iF x)), AV.s (SV.int IntKind.u8 (iW x)), AV.s (SV.str (iC x))] (45 : Nat), AObj.own [AV.s (SV.int IntKind.i64 ck), AV.s (SV.int IntKind.i64 nx), AV.s (SV.ro (Con.typ cP ps)), AV.s (SV.ro (Con.typ cI is)), AV.s (SV.ro (Con.typ cC cs)), AV.s (SV.ro (Con.typ cW ws))] (27 : Nat), AObj.own [AV.tag (12 : Nat)] (57 : Nat), AObj.dead, AObj.own [AV.s (SV.int IntKind.u8 ev)] (5 : Nat), AObj.own [AV.s (SV.str key)] (9 : Nat), AObj.own [AV.s (SV.int IntKind.i64 (0 : Int)), AV.s (SV.int IntKind.i64 (0 : Int))] (30 : Nat), AObj.own [AV.s (SV.bool false)] (4 : Nat), AObj.dead, AObj.dead] (hr Try.f18 (8 : Nat)) (Stk.mk (some (18 : Nat)) false (0 : Nat) [inRange Try.f12 (some (12 : Nat)) (6 : Nat) (1 : Nat), inRange Try.f5 none (5 : Nat) (1 : Nat)] (0 : Nat))))))
              (Tree.at (Cfg.mk (sl (195 : Nat) [((0 : Nat), AV.tag (0 : Nat)), ((1 : Nat), AV.ptr (1 : Nat) (0 : Nat)), ((6 : Nat), AV.mapv (2 : Nat)), ((7 : Nat), AV.ptr (3 : Nat) (0 : Nat)), ((84 : Nat), AV.ptr (4 : Nat) (0 : Nat)), ((86 : Nat), AV.ptr (5 : Nat) (0 : Nat)), ((150 : Nat), AV.tag (6 : Nat)), ((151 : Nat), AV.tag (0 : Nat)), ((158 : Nat), AV.ptr (7 : Nat) (0 : Nat)), ((159 : Nat), AV.ptr (8 : Nat) (0 : Nat)), ((160 : Nat), AV.ptr (9 : Nat) (0 : Nat)), ((161 : Nat), AV.ptr (10 : Nat) (0 : Nat)), ((193 : Nat), AV.tag (11 : Nat)), ((194 : Nat), AV.tag (12 : Nat))]) [AObj.dead, AObj.own [AV.s (SV.int IntKind.i64 ck), AV.s (SV.int IntKind.i64 nx), AV.s (SV.ro (Con.typ cP ps)), AV.s (SV.ro (Con.typ cI is)), AV.s (SV.ro (Con.typ cC cs)), AV.s (SV.ro (Con.typ cW ws))] (27 : Nat), AObj.map (CK.int IntKind.i64) (mput m (iI x) ((mget m (iI x)).getD (CK.int IntKind.i64).d + (1 : Int))), AObj.own [AV.s (SV.int IntKind.i64 (iI x)), AV.s (SV.int IntKind.i64 (iU x)), AV.s (SV.int IntKind.u8 (iS x)), AV.s (SV.str (iP x)), AV.s (SV.int IntKind.i64 (iN x)), AV.s (SV.int IntKind.i64 (iF x)), AV.s (SV.int IntKind.u8 (iW x)), AV.s (SV.str (iC x))] (45 : Nat), AObj.own [AV.s (SV.int IntKind.i64 ck), AV.s (SV.int IntKind.i64 nx), AV.s (SV.ro (Con.typ cP ps)), AV.s (SV.ro (Con.typ cI is)), AV.s (SV.ro (Con.typ cC cs)), AV.s (SV.ro (Con.typ cW ws))] (27 : Nat), AObj.own [AV.tag (12 : Nat)] (57 : Nat), AObj.dead, AObj.own [AV.s (SV.int IntKind.u8 ev)] (5 : Nat), AObj.own [AV.s (SV.str key)] (9 : Nat), AObj.own [AV.s (SV.int IntKind.i64 (0 : Int)), AV.s (SV.int IntKind.i64 (0 : Int))] (30 : Nat), AObj.own [AV.s (SV.bool false)] (4 : Nat), AObj.dead, AObj.dead] (hr Try.f18 (8 : Nat)) (Stk.mk (some (18 : Nat)) false (0 : Nat) [inRange Try.f12 (some (12 : Nat)) (6 : Nat) (1 : Nat), inRange Try.f5 none (5 : Nat) (1 : Nat)] (0 : Nat)))))
            (Tree.at (Cfg.mk (sl (195 : Nat) [((0 : Nat), AV.tag (0 : Nat)), ((1 : Nat), AV.ptr (1 : Nat) (0 : Nat)), ((6 : Nat), AV.mapv (2 : Nat)), ((7 : Nat), AV.ptr (3 : Nat) (0 : Nat)), ((84 : Nat), AV.ptr (4 : Nat) (0 : Nat)), ((86 : Nat), AV.ptr (5 : Nat) (0 : Nat)), ((150 : Nat), AV.tag (6 : Nat)), ((151 : Nat), AV.tag (0 : Nat)), ((158 : Nat), AV.ptr (7 : Nat) (0 : Nat)), ((159 : Nat), AV.ptr (8 : Nat) (0 : Nat)), ((160 : Nat), AV.ptr (9 : Nat) (0 : Nat)), ((161 : Nat), AV.ptr (10 : Nat) (0 : Nat)), ((193 : Nat), AV.tag (11 : Nat)), ((194 : Nat), AV.tag (12 : Nat))]) [AObj.dead, AObj.own [AV.s (SV.int IntKind.i64 ck), AV.s (SV.int IntKind.i64 nx), AV.s (SV.ro (Con.typ cP ps)), AV.s (SV.ro (Con.typ cI is)), AV.s (SV.ro (Con.typ cC cs)), AV.s (SV.ro (Con.typ cW ws))] (27 : Nat), AObj.map (CK.int IntKind.i64) (mput m (iI x) ((mget m (iI x)).getD (CK.int IntKind.i64).d + (1 : Int))), AObj.own [AV.s (SV.int IntKind.i64 (iI x)), AV.s (SV.int IntKind.i64 (iU x)), AV.s (SV.int IntKind.u8 (iS x)), AV.s (SV.str (iP x)), AV.s (SV.int IntKind.i64 (iN x)), AV.s (SV.int IntKind.i64 (iF x)), AV.s (SV.int IntKind.u8 (iW x)), AV.s (SV.str (iC x))] (45 : Nat), AObj.own [AV.s (SV.int IntKind.i64 ck), AV.s (SV.int IntKind.i64 nx), AV.s (SV.ro (Con.typ cP ps)), AV.s (SV.ro (Con.typ cI is)), AV.s (SV.ro (Con.typ cC cs)), AV.s (SV.ro (Con.typ cW ws))] (27 : Nat), AObj.own [AV.tag (12 : Nat)] (57 : Nat), AObj.dead, AObj.own [AV.s (SV.int IntKind.u8 ev)] (5 : Nat), AObj.own [AV.s (SV.str key)] (9 : Nat), AObj.own [AV.s (SV.int IntKind.i64 (0 : Int)), AV.s (SV.int IntKind.i64 (0 : Int))] (30 : Nat), AObj.own [AV.s (SV.bool false)] (4 : Nat), AObj.dead, AObj.dead] (hr Try.f18 (8 : Nat)) (Stk.mk (some (18 : Nat)) false (0 : Nat) [inRange Try.f12 (some (12 : Nat)) (6 : Nat) (1 : Nat), inRange Try.f5 none (5 : Nat) (1 : Nat)] (0 : Nat)))))))
      (Tree.ret [AObj.dead, AObj.own [AV.s (SV.int IntKind.i64 ck), AV.s (SV.int IntKind.i64 nx), AV.s (SV.ro (Con.typ cP ps)), AV.s (SV.ro (Con.typ cI is)), AV.s (SV.ro (Con.typ cC cs)), AV.s (SV.ro (Con.typ cW ws))] (27 : Nat), AObj.map (CK.int IntKind.i64) m, AObj.own [AV.s (SV.int IntKind.i64 (iI x)), AV.s (SV.int IntKind.i64 (iU x)), AV.s (SV.int IntKind.u8 (iS x)), AV.s (SV.str (iP x)), AV.s (SV.int IntKind.i64 (iN x)), AV.s (SV.int IntKind.i64 (iF x)), AV.s (SV.int IntKind.u8 (iW x)), AV.s (SV.str (iC x))] (45 : Nat), AObj.own [AV.s (SV.int IntKind.i64 ck), AV.s (SV.int IntKind.i64 nx), AV.s (SV.ro (Con.typ cP ps)), AV.s (SV.ro (Con.typ cI is)), AV.s (SV.ro (Con.typ cC cs)), AV.s (SV.ro (Con.typ cW ws))] (27 : Nat), AObj.own [AV.tag (12 : Nat)] (57 : Nat), AObj.dead, AObj.own [AV.s (SV.int IntKind.u8 ev)] (5 : Nat), AObj.own [AV.s (SV.str key)] (9 : Nat), AObj.own [AV.s (SV.ilit IntKind.i64 (0 : Int)), AV.s (SV.ilit IntKind.i64 (0 : Int))] (30 : Nat), AObj.own [AV.s (SV.blit false)] (4 : Nat), AObj.dead, AObj.dead] (AV.tup [AV.agg [AV.s (SV.ilit IntKind.i64 (0 : Int)), AV.s (SV.ilit IntKind.i64 (0 : Int))], AV.s (SV.blit false)])))
    (Tree.ret [AObj.dead, AObj.own [AV.s (SV.int IntKind.i64 ck), AV.s (SV.int IntKind.i64 nx), AV.s (SV.ro (Con.typ cP ps)), AV.s (SV.ro (Con.typ cI is)), AV.s (SV.ro (Con.typ cC cs)), AV.s (SV.ro (Con.typ cW ws))] (27 : Nat), AObj.map (CK.int IntKind.i64) m, AObj.own [AV.s (SV.int IntKind.i64 (iI x)), AV.s (SV.int IntKind.i64 (iU x)), AV.s (SV.int IntKind.u8 (iS x)), AV.s (SV.str (iP x)), AV.s (SV.int IntKind.i64 (iN x)), AV.s (SV.int IntKind.i64 (iF x)), AV.s (SV.int IntKind.u8 (iW x)), AV.s (SV.str (iC x))] (45 : Nat), AObj.own [AV.s (SV.int IntKind.i64 ck), AV.s (SV.int IntKind.i64 nx), AV.s (SV.ro (Con.typ cP ps)), AV.s (SV.ro (Con.typ cI is)), AV.s (SV.ro (Con.typ cC cs)), AV.s (SV.ro (Con.typ cW ws))] (27 : Nat), AObj.own [AV.tag (12 : Nat)] (57 : Nat), AObj.dead, AObj.own [AV.s (SV.int IntKind.u8 ev)] (5 : Nat), AObj.own [AV.s (SV.str key)] (9 : Nat), AObj.own [AV.s (SV.ilit IntKind.i64 (0 : Int)), AV.s (SV.ilit IntKind.i64 (0 : Int))] (30 : Nat), AObj.own [AV.s (SV.blit false)] (4 : Nat), AObj.dead, AObj.dead] (AV.tup [AV.agg [AV.s (SV.ilit IntKind.i64 (0 : Int)), AV.s (SV.ilit IntKind.i64 (0 : Int))], AV.s (SV.blit false)])))
  (Tree.ret [AObj.dead, AObj.own [AV.s (SV.int IntKind.i64 ck), AV.s (SV.int IntKind.i64 nx), AV.s (SV.ro (Con.typ cP ps)), AV.s (SV.ro (Con.typ cI is)), AV.s (SV.ro (Con.typ cC cs)), AV.s (SV.ro (Con.typ cW ws))] (27 : Nat), AObj.map (CK.int IntKind.i64) m, AObj.own [AV.s (SV.int IntKind.i64 (iI x)), AV.s (SV.int IntKind.i64 (iU x)), AV.s (SV.int IntKind.u8 (iS x)), AV.s (SV.str (iP x)), AV.s (SV.int IntKind.i64 (iN x)), AV.s (SV.int IntKind.i64 (iF x)), AV.s (SV.int IntKind.u8 (iW x)), AV.s (SV.str (iC x))] (45 : Nat), AObj.own [AV.s (SV.int IntKind.i64 ck), AV.s (SV.int IntKind.i64 nx), AV.s (SV.ro (Con.typ cP ps)), AV.s (SV.ro (Con.typ cI is)), AV.s (SV.ro (Con.typ cC cs)), AV.s (SV.ro (Con.typ cW ws))] (27 : Nat), AObj.own [AV.tag (12 : Nat)] (57 : Nat), AObj.dead, AObj.own [AV.s (SV.int IntKind.u8 ev)] (5 : Nat), AObj.own [AV.s (SV.str key)] (9 : Nat), AObj.own [AV.s (SV.ilit IntKind.i64 (0 : Int)), AV.s (SV.ilit IntKind.i64 (0 : Int))] (30 : Nat), AObj.own [AV.s (SV.blit false)] (4 : Nat), AObj.dead, AObj.dead] (AV.tup [AV.agg [AV.s (SV.ilit IntKind.i64 (0 : Int)), AV.s (SV.ilit IntKind.i64 (0 : Int))], AV.s (SV.blit false)])) := by kernel_rfl
theorem loopRg (ck nx : Int) (ps : Ps) (is : Is) (cs : Cs) (ws : Ws) (ev : Int) (key : ByteArray) (x : CL cI) (m : Mp) : run P tabRf.sum Try.f5 nsRg (cRg ck nx ps is cs ws ev key x m) inRf =
  Tree.ite (hasI is (iU x))
  (Tree.ite (hasI is (iU x))
    (Tree.ite (gS is (iU x) == (2 : Int)) (Tree.at (Cfg.mk (sl (195 : Nat) [((0 : Nat), AV.tag (0 : Nat)), ((1 : Nat), AV.ptr (1 : Nat) (0 : Nat)), ((5 : Nat), AV.s (SV.bool (hasI is (gU is (iU x))))), ((6 : Nat), AV.mapv (2 : Nat)), ((7 : Nat), AV.ptr (3 : Nat) (0 : Nat)), ((8 : Nat), AV.s (SV.bool (gS is (iU x) != (2 : Int)))), ((84 : Nat), AV.ptr (4 : Nat) (0 : Nat)), ((86 : Nat), AV.ptr (5 : Nat) (0 : Nat)), ((150 : Nat), AV.tag (6 : Nat)), ((151 : Nat), AV.tag (0 : Nat)), ((158 : Nat), AV.ptr (7 : Nat) (0 : Nat)), ((159 : Nat), AV.ptr (8 : Nat) (0 : Nat)), ((160 : Nat), AV.ptr (9 : Nat) (0 : Nat)), ((161 : Nat), AV.ptr (10 : Nat) (0 : Nat)), ((193 : Nat), AV.tag (11 : Nat)), ((194 : Nat), AV.tag (12 : Nat))]) [AObj.dead, AObj.own [AV.s (SV.int IntKind.i64 ck), AV.s (SV.int IntKind.i64 nx), AV.s (SV.ro (Con.typ cP ps)), AV.s (SV.ro (Con.typ cI is)), AV.s (SV.ro (Con.typ cC cs)), AV.s (SV.ro (Con.typ cW ws))] (27 : Nat), AObj.map (CK.int IntKind.i64) m, AObj.own [AV.s (SV.int IntKind.i64 (gI is (gU is (iU x)))), AV.s (SV.int IntKind.i64 (gU is (gU is (iU x)))), AV.s (SV.int IntKind.u8 (gS is (gU is (iU x)))), AV.s (SV.str (gP is (gU is (iU x)))), AV.s (SV.int IntKind.i64 (gN is (gU is (iU x)))), AV.s (SV.int IntKind.i64 (gF is (gU is (iU x)))), AV.s (SV.int IntKind.u8 (gW is (gU is (iU x)))), AV.s (SV.str (gC is (gU is (iU x))))] (45 : Nat), AObj.own [AV.s (SV.int IntKind.i64 ck), AV.s (SV.int IntKind.i64 nx), AV.s (SV.ro (Con.typ cP ps)), AV.s (SV.ro (Con.typ cI is)), AV.s (SV.ro (Con.typ cC cs)), AV.s (SV.ro (Con.typ cW ws))] (27 : Nat), AObj.own [AV.tag (12 : Nat)] (57 : Nat), AObj.dead, AObj.own [AV.s (SV.int IntKind.u8 ev)] (5 : Nat), AObj.own [AV.s (SV.str key)] (9 : Nat), AObj.own [AV.s (SV.int IntKind.i64 (0 : Int)), AV.s (SV.int IntKind.i64 (0 : Int))] (30 : Nat), AObj.own [AV.s (SV.bool false)] (4 : Nat), AObj.dead, AObj.dead] (hd Try.f18 (5 : Nat)) (Stk.mk (some (18 : Nat)) false (0 : Nat) [inRange Try.f12 (some (12 : Nat)) (6 : Nat) (1 : Nat), inRange Try.f5 none (5 : Nat) (1 : Nat)] (0 : Nat)))) (Tree.at (Cfg.mk (sl (195 : Nat) [((0 : Nat), AV.tag (0 : Nat)), ((1 : Nat), AV.ptr (1 : Nat) (0 : Nat)), ((5 : Nat), AV.s (SV.bool (hasI is (iU x)))), ((6 : Nat), AV.mapv (2 : Nat)), ((7 : Nat), AV.ptr (3 : Nat) (0 : Nat)), ((8 : Nat), AV.s (SV.bool (gS is (iU x) != (2 : Int)))), ((84 : Nat), AV.ptr (4 : Nat) (0 : Nat)), ((86 : Nat), AV.ptr (5 : Nat) (0 : Nat)), ((150 : Nat), AV.tag (6 : Nat)), ((151 : Nat), AV.tag (0 : Nat)), ((158 : Nat), AV.ptr (7 : Nat) (0 : Nat)), ((159 : Nat), AV.ptr (8 : Nat) (0 : Nat)), ((160 : Nat), AV.ptr (9 : Nat) (0 : Nat)), ((161 : Nat), AV.ptr (10 : Nat) (0 : Nat)), ((193 : Nat), AV.tag (11 : Nat)), ((194 : Nat), AV.tag (12 : Nat))]) [AObj.dead, AObj.own [AV.s (SV.int IntKind.i64 ck), AV.s (SV.int IntKind.i64 nx), AV.s (SV.ro (Con.typ cP ps)), AV.s (SV.ro (Con.typ cI is)), AV.s (SV.ro (Con.typ cC cs)), AV.s (SV.ro (Con.typ cW ws))] (27 : Nat), AObj.map (CK.int IntKind.i64) m, AObj.own [AV.s (SV.int IntKind.i64 (gI is (iU x))), AV.s (SV.int IntKind.i64 (gU is (iU x))), AV.s (SV.int IntKind.u8 (gS is (iU x))), AV.s (SV.str (gP is (iU x))), AV.s (SV.int IntKind.i64 (gN is (iU x))), AV.s (SV.int IntKind.i64 (gF is (iU x))), AV.s (SV.int IntKind.u8 (gW is (iU x))), AV.s (SV.str (gC is (iU x)))] (45 : Nat), AObj.own [AV.s (SV.int IntKind.i64 ck), AV.s (SV.int IntKind.i64 nx), AV.s (SV.ro (Con.typ cP ps)), AV.s (SV.ro (Con.typ cI is)), AV.s (SV.ro (Con.typ cC cs)), AV.s (SV.ro (Con.typ cW ws))] (27 : Nat), AObj.own [AV.tag (12 : Nat)] (57 : Nat), AObj.dead, AObj.own [AV.s (SV.int IntKind.u8 ev)] (5 : Nat), AObj.own [AV.s (SV.str key)] (9 : Nat), AObj.own [AV.s (SV.int IntKind.i64 (0 : Int)), AV.s (SV.int IntKind.i64 (0 : Int))] (30 : Nat), AObj.own [AV.s (SV.bool false)] (4 : Nat), AObj.dead, AObj.dead] (hd Try.f18 (5 : Nat)) (Stk.mk (some (18 : Nat)) false (0 : Nat) [inRange Try.f12 (some (12 : Nat)) (6 : Nat) (1 : Nat), inRange Try.f5 none (5 : Nat) (1 : Nat)] (0 : Nat)))))
    (Tree.at (Cfg.mk (sl (195 : Nat) [((0 : Nat), AV.tag (0 : Nat)), ((1 : Nat), AV.ptr (1 : Nat) (0 : Nat)), ((5 : Nat), AV.s (SV.bool (hasI is (iU x)))), ((6 : Nat), AV.mapv (2 : Nat)), ((7 : Nat), AV.ptr (3 : Nat) (0 : Nat)), ((8 : Nat), AV.s (SV.bool (gS is (iU x) != (2 : Int)))), ((84 : Nat), AV.ptr (4 : Nat) (0 : Nat)), ((86 : Nat), AV.ptr (5 : Nat) (0 : Nat)), ((150 : Nat), AV.tag (6 : Nat)), ((151 : Nat), AV.tag (0 : Nat)), ((158 : Nat), AV.ptr (7 : Nat) (0 : Nat)), ((159 : Nat), AV.ptr (8 : Nat) (0 : Nat)), ((160 : Nat), AV.ptr (9 : Nat) (0 : Nat)), ((161 : Nat), AV.ptr (10 : Nat) (0 : Nat)), ((193 : Nat), AV.tag (11 : Nat)), ((194 : Nat), AV.tag (12 : Nat))]) [AObj.dead, AObj.own [AV.s (SV.int IntKind.i64 ck), AV.s (SV.int IntKind.i64 nx), AV.s (SV.ro (Con.typ cP ps)), AV.s (SV.ro (Con.typ cI is)), AV.s (SV.ro (Con.typ cC cs)), AV.s (SV.ro (Con.typ cW ws))] (27 : Nat), AObj.map (CK.int IntKind.i64) m, AObj.own [AV.s (SV.int IntKind.i64 (gI is (iU x))), AV.s (SV.int IntKind.i64 (gU is (iU x))), AV.s (SV.int IntKind.u8 (gS is (iU x))), AV.s (SV.str (gP is (iU x))), AV.s (SV.int IntKind.i64 (gN is (iU x))), AV.s (SV.int IntKind.i64 (gF is (iU x))), AV.s (SV.int IntKind.u8 (gW is (iU x))), AV.s (SV.str (gC is (iU x)))] (45 : Nat), AObj.own [AV.s (SV.int IntKind.i64 ck), AV.s (SV.int IntKind.i64 nx), AV.s (SV.ro (Con.typ cP ps)), AV.s (SV.ro (Con.typ cI is)), AV.s (SV.ro (Con.typ cC cs)), AV.s (SV.ro (Con.typ cW ws))] (27 : Nat), AObj.own [AV.tag (12 : Nat)] (57 : Nat), AObj.dead, AObj.own [AV.s (SV.int IntKind.u8 ev)] (5 : Nat), AObj.own [AV.s (SV.str key)] (9 : Nat), AObj.own [AV.s (SV.int IntKind.i64 (0 : Int)), AV.s (SV.int IntKind.i64 (0 : Int))] (30 : Nat), AObj.own [AV.s (SV.bool false)] (4 : Nat), AObj.dead, AObj.dead] (hd Try.f18 (5 : Nat)) (Stk.mk (some (18 : Nat)) false (0 : Nat) [inRange Try.f12 (some (12 : Nat)) (6 : Nat) (1 : Nat), inRange Try.f5 none (5 : Nat) (1 : Nat)] (0 : Nat)))))
  (Tree.ite (hasI is (iU x)) (Tree.ite (gS is (iU x) == (2 : Int)) (Tree.at (Cfg.mk (sl (195 : Nat) [((0 : Nat), AV.tag (0 : Nat)), ((1 : Nat), AV.ptr (1 : Nat) (0 : Nat)), ((5 : Nat), AV.s (SV.bool (hasI is (gU is (iU x))))), ((6 : Nat), AV.mapv (2 : Nat)), ((7 : Nat), AV.ptr (3 : Nat) (0 : Nat)), ((8 : Nat), AV.s (SV.bool false)), ((84 : Nat), AV.ptr (4 : Nat) (0 : Nat)), ((86 : Nat), AV.ptr (5 : Nat) (0 : Nat)), ((150 : Nat), AV.tag (6 : Nat)), ((151 : Nat), AV.tag (0 : Nat)), ((158 : Nat), AV.ptr (7 : Nat) (0 : Nat)), ((159 : Nat), AV.ptr (8 : Nat) (0 : Nat)), ((160 : Nat), AV.ptr (9 : Nat) (0 : Nat)), ((161 : Nat), AV.ptr (10 : Nat) (0 : Nat)), ((193 : Nat), AV.tag (11 : Nat)), ((194 : Nat), AV.tag (12 : Nat))]) [AObj.dead, AObj.own [AV.s (SV.int IntKind.i64 ck), AV.s (SV.int IntKind.i64 nx), AV.s (SV.ro (Con.typ cP ps)), AV.s (SV.ro (Con.typ cI is)), AV.s (SV.ro (Con.typ cC cs)), AV.s (SV.ro (Con.typ cW ws))] (27 : Nat), AObj.map (CK.int IntKind.i64) m, AObj.own [AV.s (SV.int IntKind.i64 (gI is (gU is (iU x)))), AV.s (SV.int IntKind.i64 (gU is (gU is (iU x)))), AV.s (SV.int IntKind.u8 (gS is (gU is (iU x)))), AV.s (SV.str (gP is (gU is (iU x)))), AV.s (SV.int IntKind.i64 (gN is (gU is (iU x)))), AV.s (SV.int IntKind.i64 (gF is (gU is (iU x)))), AV.s (SV.int IntKind.u8 (gW is (gU is (iU x)))), AV.s (SV.str (gC is (gU is (iU x))))] (45 : Nat), AObj.own [AV.s (SV.int IntKind.i64 ck), AV.s (SV.int IntKind.i64 nx), AV.s (SV.ro (Con.typ cP ps)), AV.s (SV.ro (Con.typ cI is)), AV.s (SV.ro (Con.typ cC cs)), AV.s (SV.ro (Con.typ cW ws))] (27 : Nat), AObj.own [AV.tag (12 : Nat)] (57 : Nat), AObj.dead, AObj.own [AV.s (SV.int IntKind.u8 ev)] (5 : Nat), AObj.own [AV.s (SV.str key)] (9 : Nat), AObj.own [AV.s (SV.int IntKind.i64 (0 : Int)), AV.s (SV.int IntKind.i64 (0 : Int))] (30 : Nat), AObj.own [AV.s (SV.bool false)] (4 : Nat), AObj.dead, AObj.dead] (hd Try.f18 (5 : Nat)) (Stk.mk (some (18 : Nat)) false (0 : Nat) [inRange Try.f12 (some (12 : Nat)) (6 : Nat) (1 : Nat), inRange Try.f5 none (5 : Nat) (1 : Nat)] (0 : Nat)))) (Tree.at (Cfg.mk (sl (195 : Nat) [((0 : Nat), AV.tag (0 : Nat)), ((1 : Nat), AV.ptr (1 : Nat) (0 : Nat)), ((5 : Nat), AV.s (SV.bool (hasI is (iU x)))), ((6 : Nat), AV.mapv (2 : Nat)), ((7 : Nat), AV.ptr (3 : Nat) (0 : Nat)), ((8 : Nat), AV.s (SV.bool false)), ((84 : Nat), AV.ptr (4 : Nat) (0 : Nat)), ((86 : Nat), AV.ptr (5 : Nat) (0 : Nat)), ((150 : Nat), AV.tag (6 : Nat)), ((151 : Nat), AV.tag (0 : Nat)), ((158 : Nat), AV.ptr (7 : Nat) (0 : Nat)), ((159 : Nat), AV.ptr (8 : Nat) (0 : Nat)), ((160 : Nat), AV.ptr (9 : Nat) (0 : Nat)), ((161 : Nat), AV.ptr (10 : Nat) (0 : Nat)), ((193 : Nat), AV.tag (11 : Nat)), ((194 : Nat), AV.tag (12 : Nat))]) [AObj.dead, AObj.own [AV.s (SV.int IntKind.i64 ck), AV.s (SV.int IntKind.i64 nx), AV.s (SV.ro (Con.typ cP ps)), AV.s (SV.ro (Con.typ cI is)), AV.s (SV.ro (Con.typ cC cs)), AV.s (SV.ro (Con.typ cW ws))] (27 : Nat), AObj.map (CK.int IntKind.i64) m, AObj.own [AV.s (SV.int IntKind.i64 (gI is (iU x))), AV.s (SV.int IntKind.i64 (gU is (iU x))), AV.s (SV.int IntKind.u8 (gS is (iU x))), AV.s (SV.str (gP is (iU x))), AV.s (SV.int IntKind.i64 (gN is (iU x))), AV.s (SV.int IntKind.i64 (gF is (iU x))), AV.s (SV.int IntKind.u8 (gW is (iU x))), AV.s (SV.str (gC is (iU x)))] (45 : Nat), AObj.own [AV.s (SV.int IntKind.i64 ck), AV.s (SV.int IntKind.i64 nx), AV.s (SV.ro (Con.typ cP ps)), AV.s (SV.ro (Con.typ cI is)), AV.s (SV.ro (Con.typ cC cs)), AV.s (SV.ro (Con.typ cW ws))] (27 : Nat), AObj.own [AV.tag (12 : Nat)] (57 : Nat), AObj.dead, AObj.own [AV.s (SV.int IntKind.u8 ev)] (5 : Nat), AObj.own [AV.s (SV.str key)] (9 : Nat), AObj.own [AV.s (SV.int IntKind.i64 (0 : Int)), AV.s (SV.int IntKind.i64 (0 : Int))] (30 : Nat), AObj.own [AV.s (SV.bool false)] (4 : Nat), AObj.dead, AObj.dead] (hd Try.f18 (5 : Nat)) (Stk.mk (some (18 : Nat)) false (0 : Nat) [inRange Try.f12 (some (12 : Nat)) (6 : Nat) (1 : Nat), inRange Try.f5 none (5 : Nat) (1 : Nat)] (0 : Nat)))))
    (Tree.at (Cfg.mk (sl (195 : Nat) [((0 : Nat), AV.tag (0 : Nat)), ((1 : Nat), AV.ptr (1 : Nat) (0 : Nat)), ((5 : Nat), AV.s (SV.bool (hasI is (iU x)))), ((6 : Nat), AV.mapv (2 : Nat)), ((7 : Nat), AV.ptr (3 : Nat) (0 : Nat)), ((8 : Nat), AV.s (SV.bool false)), ((84 : Nat), AV.ptr (4 : Nat) (0 : Nat)), ((86 : Nat), AV.ptr (5 : Nat) (0 : Nat)), ((150 : Nat), AV.tag (6 : Nat)), ((151 : Nat), AV.tag (0 : Nat)), ((158 : Nat), AV.ptr (7 : Nat) (0 : Nat)), ((159 : Nat), AV.ptr (8 : Nat) (0 : Nat)), ((160 : Nat), AV.ptr (9 : Nat) (0 : Nat)), ((161 : Nat), AV.ptr (10 : Nat) (0 : Nat)), ((193 : Nat), AV.tag (11 : Nat)), ((194 : Nat), AV.tag (12 : Nat))]) [AObj.dead, AObj.own [AV.s (SV.int IntKind.i64 ck), AV.s (SV.int IntKind.i64 nx), AV.s (SV.ro (Con.typ cP ps)), AV.s (SV.ro (Con.typ cI is)), AV.s (SV.ro (Con.typ cC cs)), AV.s (SV.ro (Con.typ cW ws))] (27 : Nat), AObj.map (CK.int IntKind.i64) m, AObj.own [AV.s (SV.int IntKind.i64 (gI is (iU x))), AV.s (SV.int IntKind.i64 (gU is (iU x))), AV.s (SV.int IntKind.u8 (gS is (iU x))), AV.s (SV.str (gP is (iU x))), AV.s (SV.int IntKind.i64 (gN is (iU x))), AV.s (SV.int IntKind.i64 (gF is (iU x))), AV.s (SV.int IntKind.u8 (gW is (iU x))), AV.s (SV.str (gC is (iU x)))] (45 : Nat), AObj.own [AV.s (SV.int IntKind.i64 ck), AV.s (SV.int IntKind.i64 nx), AV.s (SV.ro (Con.typ cP ps)), AV.s (SV.ro (Con.typ cI is)), AV.s (SV.ro (Con.typ cC cs)), AV.s (SV.ro (Con.typ cW ws))] (27 : Nat), AObj.own [AV.tag (12 : Nat)] (57 : Nat), AObj.dead, AObj.own [AV.s (SV.int IntKind.u8 ev)] (5 : Nat), AObj.own [AV.s (SV.str key)] (9 : Nat), AObj.own [AV.s (SV.int IntKind.i64 (0 : Int)), AV.s (SV.int IntKind.i64 (0 : Int))] (30 : Nat), AObj.own [AV.s (SV.bool false)] (4 : Nat), AObj.dead, AObj.dead] (hd Try.f18 (5 : Nat)) (Stk.mk (some (18 : Nat)) false (0 : Nat) [inRange Try.f12 (some (12 : Nat)) (6 : Nat) (1 : Nat), inRange Try.f5 none (5 : Nat) (1 : Nat)] (0 : Nat))))) := by kernel_rfl
end Ds

namespace Ds
open Go Go.Sx Go.Proofs Lf
def nxB (is : Is) (x : CL cI) : Bool := if (hasI is (iU x) && (gS is (iU x) == 2)) = true then hasI is (gU is (iU x)) else hasI is (iU x)
def nxO (is : Is) (x : CL cI) : Bool := hasI is (iU x) && (gS is (iU x) != 2)
def nxX (is : Is) (x : CL cI) : CL cI := if (hasI is (iU x) && (gS is (iU x) == 2)) = true then getT is (gU is (iU x)) else getT is (iU x)
/-- the scopes above, and whether one came from one of an Aside of it -/
def scL (is : Is) : Nat → Bool → Bool → CL cI → List Int → List (CL cI × Bool)
  | 0, _, _, _, _ => []
  | n + 1, b, own, x, seen => if b = true ∧ iS x = 1 ∧ iI x ∉ seen then (x, own) :: scL is n (nxB is x) (nxO is x) (nxX is x) (seen ++ [iI x]) else []
def scopesF (is : Is) (id : Int) : List (CL cI × Bool) :=
  if (hasI is id && (gS is id == 2)) = true then scL is (is.length + 1) (hasI is (gU is id)) false (getT is (gU is id)) [] else []
abbrev Pl3 : Type := CL cI × CL cP × List Int
def boP (ps : Ps) (is : Is) (id : Int) : Pl3 := (getT is id, getP ps (gP is id), boL ps (gP is id) (gN is id))
def asP (ps : Ps) (x : CL cI) : Pl3 := (x, getP ps (iP x), asL (pO (getP ps (iP x))) (iN x))
def plOf (ps : Ps) (is : Is) (e : CL cI × Bool) : List Pl3 :=
  (if e.2 = true then [] else [asP ps e.1]) ++ (if (hasI is (iU e.1) && (gS is (iU e.1) == 2)) = true then [boP ps is (iU e.1)] else [])
def placesF (ps : Ps) (is : Is) (id : Int) : List Pl3 :=
  if (hasI is id && (gS is id == 2)) = true then boP ps is id :: (scopesF is id).flatMap (plOf ps is) else []
def tryP (ev : Int) (key : ByteArray) (e : Pl3) : Option (Int × Int) :=
  if (chooseF (pO e.2.1) e.2.2 ev key).2 = true then some (iI e.1, (chooseF (pO e.2.1) e.2.2 ev key).1) else none
def findF (ps : Ps) (is : Is) (id ev : Int) (key : ByteArray) : Option (Int × Int) :=
  if ev = 4 ∨ ev = 5 then (placesF ps is id).findSome? (tryP ev key) else none
def hI (o : Option (Int × Int)) : Int := match o with | some x => x.1 | none => 0
def hN (o : Option (Int × Int)) : Int := match o with | some x => x.2 | none => 0
abbrev tHd : Ty := .st [.int .i64, .int .i64]
abbrev resT (o : Option (Int × Int)) : AL [tHd, tBool] := ((hI o, hN o, ()), o.isSome, ())
def okN (ps : Ps) : Prop := ∀ p ∈ ps, (pO p).length ≤ 1000000
theorem getP_len {ps : Ps} (h : okN ps) (name : ByteArray) : (pO (getP ps name)).length ≤ 1000000 := by
  cases hp : hasP ps name with
  | false => rw [no_proc hp]; exact Nat.zero_le _
  | true =>
    have h1 : 0 ≤ defP ps name := of_decide_eq_true hp
    refine h _ ?_
    show el ps (whereP ps name) ∈ ps
    unfold whereP
    rw [if_pos h1]
    rcases idxF_spec (p := pDf name) (l := ps) with ⟨e, _⟩ | ⟨i, e, h2, _⟩
    · exact absurd e (by unfold defP at h1; omega)
    · rw [show defP ps name = (i : Int) from e, el_lt h2]; exact List.getElem_mem h2
theorem has_item {is : Is} {id : Int} (h : hasI is id = true) : gI is id = id ∧ id ∈ is.map iI ∧ getI is id ∈ is := by
  have h0 : 0 ≤ placeF is id := of_decide_eq_true h
  rcases place_range is id with ⟨e, _⟩ | ⟨_, h1, h2, h3⟩
  · omega
  · have e : getI is id = is[(placeF is id).toNat] := by
      show el is (whereF is id) = _
      unfold whereF
      rw [if_pos h0]
      exact getD_lt h2
    refine ⟨by unfold gI; rw [e]; exact h3, ?_, by rw [e]; exact List.getElem_mem h2⟩
    rw [← h3]
    exact List.mem_map_of_mem (List.getElem_mem h2)
theorem scL_succ (is : Is) (n : Nat) (b own : Bool) (x : CL cI) (seen : List Int) : scL is (n + 1) b own x seen = if b = true ∧ iS x = 1 ∧ iI x ∉ seen then (x, own) :: scL is n (nxB is x) (nxO is x) (nxX is x) (seen ++ [iI x]) else [] := rfl
theorem fs_one {α β : Type} (f : α → Option β) (a : α) : [a].findSome? f = f a := by cases h : f a <;> simp [List.findSome?, h]
theorem fs_cons {α β : Type} (f : α → Option β) (a : α) (l : List α) : (a :: l).findSome? f = (f a).or (l.findSome? f) := by cases h : f a <;> simp [List.findSome?, h]
theorem tabRf_ok {Z : Glob} : tabRf.Ok P Z := Tab.Ok.cons find_ok.sum (Tab.Ok.cons bds_ok.sumR (Tab.Ok.cons asd_ok.sumR (Tab.Ok.cons choose_ok.sum Tab.Ok.nil)))
theorem rfind_ok {Z : Glob} : FnOk P Z 5 [tSt, tInt, tU8, tStr] [tHd, tBool] (fun ((_, _, ps, _, _, _, ()), _) => [okN ps]) (fun ((_, _, ps, is, _, _, ()), id, ev, key, ()) => resT (findF ps is id ev key)) := by
  refine fnOk_of_safe Try.func5 (by kernel_rfl) (by kernel_rfl) ?_
  rintro ⟨⟨(ck : Int), (nx : Int), (ps : Ps), (is : Is), (cs : Cs), (ws : Ws), ⟨⟩⟩, (id : Int), (ev : Int), (key : ByteArray), ⟨⟩⟩ _ ⟨hl, _⟩ X hX hz
  show Safe P 5 X (Ends [tHd, tBool] (resT (findF ps is id ev key))) _
  have loop : ∀ (n : Nat) (b own : Bool) (x : CL cI) (seen : List Int) (m : Mp) (R : Option (Int × Int)), Marks m seen → seen.Nodup → (∀ k ∈ seen, k ∈ is.map iI) → (b = true → iI x ∈ is.map iI) → is.length < n + seen.length →
      R = ((scL is n b own x seen).flatMap (plOf ps is)).findSome? (tryP ev key) → Safe P 5 X (Ends [tHd, tBool] (resT R)) (cRf ck nx ps is cs ws ev key b own x m) := by
    intro n
    induction n with
    | zero =>
      intro b own x seen m R _ hnd hsub _ hlt _
      have := nodup_len hnd hsub
      rw [List.length_map] at this
      omega
    | succ n ih =>
      intro b own x seen m R hm hnd hsub hb hlt hR
      have none_ : ¬ (b = true ∧ iS x = 1 ∧ iI x ∉ seen) → R = none := fun h => by
        rw [hR, scL_succ, if_neg h]; rfl
      refine go hz hX tabRf_ok Try.func5 (loopRf ck nx ps is cs ws ev key b own x m) ?_
      cases b with
      | false => rw [none_ (by simp)]; exact no_and rfl (ends_eq _ rfl (by kernel_rfl))
      | true =>
      refine yes_and rfl ?_
      by_cases h1 : iS x = 1
      rotate_left
      · rw [none_ (by simp [h1])]; exact no_and (beq_eq_false_iff_ne.2 h1) (ends_eq _ rfl (by kernel_rfl))
      refine yes_and (beq_iff_eq.2 h1) ?_
      have hc : (mget m (iI x)).getD (CK.int IntKind.i64).d = cnt m (iI x) := rfl
      rw [hc]
      by_cases h2 : iI x ∈ seen
      · have : cnt m (iI x) = 1 := by rw [hm, if_pos h2]
        rw [none_ (by simp [h2])]; exact no_and (by rw [this]; rfl) (ends_eq _ rfl (by kernel_rfl))
      have hc0 : cnt m (iI x) = 0 := by rw [hm, if_neg h2]
      refine yes_and (by rw [hc0]; rfl) ⟨by rw [hc0]; exact ⟨by omega, by omega⟩, ?_⟩
      have hm' : Marks (mput m (iI x) (cnt m (iI x) + 1)) (seen ++ [iI x]) := marks_put hm h2
      have hR' : R = ((plOf ps is (x, own)).findSome? (tryP ev key)).or (((scL is n (nxB is x) (nxO is x) (nxX is x) (seen ++ [iI x])).flatMap (plOf ps is)).findSome? (tryP ev key)) := by
        rw [hR, scL_succ, if_pos ⟨rfl, h1, h2⟩, List.flatMap_cons, List.findSome?_append]
      have mid : (plOf ps is (x, own)).findSome? (tryP ev key) = none → Safe P 5 X (Ends [tHd, tBool] (resT R)) (cRg ck nx ps is cs ws ev key x (mput m (iI x) (cnt m (iI x) + 1))) := fun hno => by
        rw [hno, Option.none_or] at hR'
        have next := fun b' own' x' => ih b' own' x' (seen ++ [iI x]) (mput m (iI x) (cnt m (iI x) + 1)) R hm' (by
            rw [List.nodup_append]
            exact ⟨hnd, by simp, fun a ha b hb' e => h2 (by simp at hb'; rw [← hb', ← e]; exact ha)⟩) (fun k hk => by
            rcases List.mem_append.1 hk with hk | hk
            · exact hsub k hk
            · simp at hk; rw [hk]; exact hb rfl)
        have hlen : is.length < n + (seen ++ [iI x]).length := by rw [List.length_append]; simp; omega
        refine go hz hX tabRf_ok Try.func5 (loopRg ck nx ps is cs ws ev key x (mput m (iI x) (cnt m (iI x) + 1))) ?_
        cases h3 : hasI is (iU x) with
        | false =>
          refine no_and rfl (no_and rfl ?_)
          have k := next false false (getT is (iU x)) (by simp) hlen
          have e1 : nxB is x = false := by unfold nxB; rw [h3]; rfl
          have e2 : nxO is x = false := by unfold nxO; rw [h3]; rfl
          have e3 : nxX is x = getT is (iU x) := by unfold nxX; rw [h3]; rfl
          rw [e1, e2, e3] at hR'
          exact k hR'
        | true =>
          refine yes_and rfl (yes_and rfl ?_)
          cases h4 : gS is (iU x) == 2 with
          | true =>
            refine yes_and rfl ?_
            have h5 : (gS is (iU x) != 2) = false := by simp only [bne, h4]; rfl
            rw [h5]
            have e1 : nxB is x = hasI is (gU is (iU x)) := by unfold nxB; rw [h3, h4]; rfl
            have e2 : nxO is x = false := by unfold nxO; rw [h3, h5]; rfl
            have e3 : nxX is x = getT is (gU is (iU x)) := by unfold nxX; rw [h3, h4]; rfl
            rw [e1, e2, e3] at hR'
            exact next (hasI is (gU is (iU x))) false (getT is (gU is (iU x))) (fun hh => by show gI is (gU is (iU x)) ∈ _; rw [(has_item hh).1]; exact (has_item hh).2.1) hlen hR'
          | false =>
            refine no_and rfl ?_
            have h5 : (gS is (iU x) != 2) = true := by simp only [bne, h4]; rfl
            rw [h5]
            have e1 : nxB is x = true := by unfold nxB; rw [h3, h4]; rfl
            have e2 : nxO is x = true := by unfold nxO; rw [h3, h5]; rfl
            have e3 : nxX is x = getT is (iU x) := by unfold nxX; rw [h3, h4]; rfl
            rw [e1, e2, e3] at hR'
            exact next true true (getT is (iU x)) (fun _ => by show gI is (iU x) ∈ _; rw [(has_item h3).1]; exact (has_item h3).2.1) hlen hR'
      have pl : ∀ {l : List Pl3}, (if own = true then [] else [asP ps x]).findSome? (tryP ev key) = none → (if (hasI is (iU x) && (gS is (iU x) == 2)) = true then [boP ps is (iU x)] else []) = l → (plOf ps is (x, own)).findSome? (tryP ev key) = l.findSome? (tryP ev key) := fun h h' => by
        unfold plOf
        rw [List.findSome?_append, h, Option.none_or, h']
      have tail : (if own = true then [] else [asP ps x]).findSome? (tryP ev key) = none → (hasI is (iU x) = false ∨ (gS is (iU x) == 2) = false) → Safe P 5 X (Ends [tHd, tBool] (resT R)) (cRg ck nx ps is cs ws ev key x (mput m (iI x) (cnt m (iI x) + 1))) := fun h h' => mid (by
        rw [pl (l := []) h (by rw [if_neg]; intro hh; rw [Bool.and_eq_true] at hh; rcases h' with h' | h' <;> simp_all)]; rfl)
      have tail2 : (if own = true then [] else [asP ps x]).findSome? (tryP ev key) = none → hasI is (iU x) = true → (gS is (iU x) == 2) = true → (chooseF (pO (getP ps (gP is (iU x)))) (boL ps (gP is (iU x)) (gN is (iU x))) ev key).2 = false → Safe P 5 X (Ends [tHd, tBool] (resT R)) (cRg ck nx ps is cs ws ev key x (mput m (iI x) (cnt m (iI x) + 1))) := fun h h3 h4 h5 => mid (by
        rw [pl (l := [boP ps is (iU x)]) h (by rw [if_pos (by rw [h3, h4]; rfl)])]
        rw [fs_one]
        unfold tryP boP
        rw [if_neg (by rw [h5]; simp)])
      have found : (if own = true then [] else [asP ps x]).findSome? (tryP ev key) = none → hasI is (iU x) = true → (gS is (iU x) == 2) = true → (chooseF (pO (getP ps (gP is (iU x)))) (boL ps (gP is (iU x)) (gN is (iU x))) ev key).2 = true → R = some (gI is (iU x), (chooseF (pO (getP ps (gP is (iU x)))) (boL ps (gP is (iU x)) (gN is (iU x))) ev key).1) := fun h h3 h4 h5 => by
        rw [hR', pl (l := [boP ps is (iU x)]) h (by rw [if_pos (by rw [h3, h4]; rfl)])]
        rw [fs_one]
        unfold tryP boP
        rw [if_pos h5]
        rfl
      cases own with
      | true =>
        refine no_and rfl ?_
        have h0 : (if true = true then [] else [asP ps x]).findSome? (tryP ev key) = none := rfl
        cases h3 : hasI is (iU x) with
        | false => exact no_and rfl (tail h0 (.inl h3))
        | true =>
          refine yes_and rfl ?_
          cases h4 : gS is (iU x) == 2 with
          | false => exact no_and rfl (tail h0 (.inr h4))
          | true =>
            refine yes_and rfl ⟨getP_len hl _, ?_⟩
            cases h5 : (chooseF (pO (getP ps (gP is (iU x)))) (boL ps (gP is (iU x)) (gN is (iU x))) ev key).2 with
            | false => exact no_and rfl (tail2 h0 h3 h4 h5)
            | true => rw [found h0 h3 h4 h5]; exact yes_and rfl (ends_eq _ rfl (by kernel_rfl))
      | false =>
        refine yes_and rfl ⟨getP_len hl _, ?_⟩
        cases h6 : (chooseF (pO (getP ps (iP x))) (asL (pO (getP ps (iP x))) (iN x)) ev key).2 with
        | true =>
          have e : R = some (iI x, (chooseF (pO (getP ps (iP x))) (asL (pO (getP ps (iP x))) (iN x)) ev key).1) := by
            rw [hR']
            unfold plOf
            rw [List.findSome?_append, if_neg (by simp), fs_one]
            unfold tryP asP
            rw [if_pos h6]
            rfl
          rw [e]; exact yes_and rfl (ends_eq _ rfl (by kernel_rfl))
        | false =>
          refine no_and rfl ?_
          have h0 : (if false = true then [] else [asP ps x]).findSome? (tryP ev key) = none := by
            rw [if_neg (by simp), fs_one]
            unfold tryP asP
            rw [if_neg (by rw [h6]; simp)]
          cases h3 : hasI is (iU x) with
          | false => exact no_and rfl (tail h0 (.inl h3))
          | true =>
            refine yes_and rfl ?_
            cases h4 : gS is (iU x) == 2 with
            | false => exact no_and rfl (tail h0 (.inr h4))
            | true =>
              refine yes_and rfl ⟨getP_len hl _, ?_⟩
              cases h5 : (chooseF (pO (getP ps (gP is (iU x)))) (boL ps (gP is (iU x)) (gN is (iU x))) ev key).2 with
              | false => exact no_and rfl (tail2 h0 h3 h4 h5)
              | true => rw [found h0 h3 h4 h5]; exact yes_and rfl (ends_eq _ rfl (by kernel_rfl))
  have e0 : ¬ (ev = 4 ∨ ev = 5) → findF ps is id ev key = none := fun h => by unfold findF; rw [if_neg h]
  have e1 : (hasI is id = false ∨ gS is id ≠ 2) → findF ps is id ev key = none := fun h => by
    unfold findF placesF
    have : ¬ ((hasI is id && (gS is id == 2)) = true) := fun hh => by
      rw [Bool.and_eq_true] at hh
      rcases h with h | h
      · rw [hh.1] at h; cases h
      · exact h (beq_iff_eq.1 hh.2)
    rw [if_neg this]
    split <;> rfl
  have e2 : (ev = 4 ∨ ev = 5) → hasI is id = true → gS is id = 2 → findF ps is id ev key = (tryP ev key (boP ps is id)).or (((scL is (is.length + 1) (hasI is (gU is id)) false (getT is (gU is id)) []).flatMap (plOf ps is)).findSome? (tryP ev key)) := fun h h2 h3 => by
    have h4 : (hasI is id && (gS is id == 2)) = true := by rw [h2, h3]; rfl
    unfold findF placesF scopesF
    rw [if_pos h, if_pos h4, if_pos h4]
    exact fs_cons _ _ _
  have start_ : (ev = 4 ∨ ev = 5) → hasI is id = true → gS is id = 2 → (chooseF (pO (getP ps (gP is id))) (boL ps (gP is id) (gN is id)) ev key).2 = false → Safe P 5 X (Ends [tHd, tBool] (resT (findF ps is id ev key))) (cRf ck nx ps is cs ws ev key (hasI is (gU is id)) false (getT is (gU is id)) []) := fun h h2 h3 h4 => by
    refine loop (is.length + 1) _ _ _ [] [] _ (fun k => by rfl) List.nodup_nil (by simp) (fun hh => by show gI is (gU is id) ∈ _; rw [(has_item hh).1]; exact (has_item hh).2.1) (by simp) ?_
    rw [e2 h h2 h3]
    unfold tryP boP
    rw [if_neg (by rw [h4]; simp)]
    rfl
  have fnd : (ev = 4 ∨ ev = 5) → hasI is id = true → gS is id = 2 → (chooseF (pO (getP ps (gP is id))) (boL ps (gP is id) (gN is id)) ev key).2 = true → findF ps is id ev key = some (gI is id, (chooseF (pO (getP ps (gP is id))) (boL ps (gP is id) (gN is id)) ev key).1) := fun h h2 h3 h4 => by
    rw [e2 h h2 h3]
    unfold tryP boP
    rw [if_pos h4]
    rfl
  refine go hz hX tabRf_ok Try.func5 (trRg ck nx ps is cs ws id ev key) ?_
  have hlen := getP_len hl (gP is id)
  repeat' (with_reducible (first | refine h_eq ?_ | refine h_need ?_ ?_ | refine h_dec (fun _ => ?_) (fun _ => ?_) | refine h_beq (fun _ => ?_) (fun _ => ?_) | refine h_bne (fun _ => ?_) (fun _ => ?_) | refine h_tt ?_ | refine h_ff ?_ | refine h_not ?_ | refine h_ite (fun _ => ?_) (fun _ => ?_) | refine h_both (fun _ => ?_) (fun _ => ?_) | refine h_ret ?_ | refine h_at ?_))
  all_goals first | exact hlen | skip
  all_goals first
    | exact start_ (by omega) (by assumption) (by assumption) (by assumption)
    | (rw [e0 (by omega)]; exact ends_eq _ rfl (by kernel_rfl))
    | (rw [e1 (.inl (by assumption))]; exact ends_eq _ rfl (by kernel_rfl))
    | (rw [e1 (.inr (by assumption))]; exact ends_eq _ rfl (by kernel_rfl))
    | (rw [fnd (by omega) (by assumption) (by assumption) (by assumption)]; exact ends_eq _ rfl (by kernel_rfl))
    | (exfalso; simp_all; done)
end Ds

namespace Ds
open Go Go.Sx Go.Proofs Lf
abbrev star : ByteArray := ByteArray.mk #[(42 : UInt8)]
abbrev tx1 (a : UInt8) : ByteArray := ByteArray.mk #[a]
def mkN (a : UInt8) (k i o e : Int) (y : ByteArray) (b : Bool) : CL cN := (tx1 a, k, i, o, e, y, ByteArray.empty, ByteArray.empty, b, ([] : List (CL cV)), ([] : List ByteArray), ())
def neNs (key : ByteArray) : List (CL cN) := [mkN 97 11 (-1) (-1) 0 ByteArray.empty false, mkN 98 15 (-1) 0 4 (tx1 107) true, mkN 99 3 0 (-1) 0 ByteArray.empty false] ++ (if key = ByteArray.empty then [] else [mkN 100 13 0 (-1) 0 ByteArray.empty false, mkN 101 1 3 (-1) 4 (if key = star then ByteArray.empty else key) true])
def nePs (key : ByteArray) : Ps := [(tx1 112, ([] : List (CL cV)), neNs key, ([] : List (CL cF)), ())]
def neI (a u s n w : Int) : CL cI := (a, u, s, tx1 112, n, (-1 : Int), w, ByteArray.empty, ())
def neIs : Is := [neI 1 0 1 (-1) 0, neI 2 1 2 0 3, neI 3 2 1 0 0, neI 4 3 2 2 2]
abbrev neS (key : ByteArray) : AL [tSr] := (((0 : Int), (4 : Int), nePs key, neIs, ([] : Cs), ([] : Ws), ()), ())
abbrev sumNe := sumR [tStr] [tSr] (fun _ => []) (fun (key, ()) => neS key)
abbrev sumRf := sumOf [tSt, tInt, tU8, tStr] [tHd, tBool] (fun ((_, _, ps, _, _, _, ()), _) => [okN ps]) (fun ((_, _, ps, is, _, _, ()), id, ev, key, ()) => resT (findF ps is id ev key))
def tabAw : Tab := [(4, sumNe), (5, sumRf)]
theorem trNe (key : ByteArray) : run P tab0.sum Try.f4 [] (start Try.f4 [.s (.str key)] []) =
  Tree.ite (!decide (key = ByteArray.empty))
  (Tree.ite (decide (key = ByteArray.mk #[(42 : UInt8)])) (Tree.need (((3 : Nat) + (2 : Nat)) * (152 : Nat) ≤ (140737488355328 : Nat)) (Tree.ret [AObj.own [AV.s (SV.ilit IntKind.i64 (0 : Int)), AV.s (SV.ilit IntKind.i64 (4 : Int)), AV.vec (5 : Nat), AV.vec (6 : Nat), AV.emp, AV.emp] (27 : Nat), AObj.dead, AObj.own [AV.s (SV.str (ByteArray.mk #[(112 : UInt8)])), AV.emp, AV.s (SV.ro (Con.typ cN ([(ByteArray.mk #[(97 : UInt8)], (11 : Int), (-1 : Int), (-1 : Int), (0 : Int), ByteArray.empty, ByteArray.empty, ByteArray.empty, false, [], [], ()), (ByteArray.mk #[(98 : UInt8)], (15 : Int), (-1 : Int), (0 : Int), (4 : Int), ByteArray.mk #[(107 : UInt8)], ByteArray.empty, ByteArray.empty, true, [], [], ()), (ByteArray.mk #[(99 : UInt8)], (3 : Int), (0 : Int), (-1 : Int), (0 : Int), ByteArray.empty, ByteArray.empty, ByteArray.empty, false, [], [], ())] ++ [(ByteArray.mk #[(100 : UInt8)], (13 : Int), (0 : Int), (-1 : Int), (0 : Int), ByteArray.empty, ByteArray.empty, ByteArray.empty, false, [], [], ()), (ByteArray.mk #[(101 : UInt8)], (1 : Int), (3 : Int), (-1 : Int), (4 : Int), ByteArray.empty, ByteArray.empty, ByteArray.empty, true, [], [], ())]))), AV.emp] (43 : Nat), AObj.vec (Con.typ cN [(ByteArray.mk #[(100 : UInt8)], (13 : Int), (0 : Int), (-1 : Int), (0 : Int), ByteArray.empty, ByteArray.empty, ByteArray.empty, false, [], [], ()), (ByteArray.mk #[(101 : UInt8)], (1 : Int), (3 : Int), (-1 : Int), (4 : Int), ByteArray.empty, ByteArray.empty, ByteArray.empty, true, [], [], ())]) (39 : Nat), AObj.dead, AObj.vec (Con.typ cP [(ByteArray.mk #[(112 : UInt8)], [], [(ByteArray.mk #[(97 : UInt8)], (11 : Int), (-1 : Int), (-1 : Int), (0 : Int), ByteArray.empty, ByteArray.empty, ByteArray.empty, false, [], [], ()), (ByteArray.mk #[(98 : UInt8)], (15 : Int), (-1 : Int), (0 : Int), (4 : Int), ByteArray.mk #[(107 : UInt8)], ByteArray.empty, ByteArray.empty, true, [], [], ()), (ByteArray.mk #[(99 : UInt8)], (3 : Int), (0 : Int), (-1 : Int), (0 : Int), ByteArray.empty, ByteArray.empty, ByteArray.empty, false, [], [], ())] ++ [(ByteArray.mk #[(100 : UInt8)], (13 : Int), (0 : Int), (-1 : Int), (0 : Int), ByteArray.empty, ByteArray.empty, ByteArray.empty, false, [], [], ()), (ByteArray.mk #[(101 : UInt8)], (1 : Int), (3 : Int), (-1 : Int), (4 : Int), ByteArray.empty, ByteArray.empty, ByteArray.empty, true, [], [], ())], [], ())]) (43 : Nat), AObj.vec (Con.typ cI [((1 : Int), (0 : Int), (1 : Int), ByteArray.mk #[(112 : UInt8)], (-1 : Int), (-1 : Int), (0 : Int), ByteArray.empty, ()), ((2 : Int), (1 : Int), (2 : Int), ByteArray.mk #[(112 : UInt8)], (0 : Int), (-1 : Int), (3 : Int), ByteArray.empty, ()), ((3 : Int), (2 : Int), (1 : Int), ByteArray.mk #[(112 : UInt8)], (0 : Int), (-1 : Int), (0 : Int), ByteArray.empty, ()), ((4 : Int), (3 : Int), (2 : Int), ByteArray.mk #[(112 : UInt8)], (2 : Int), (-1 : Int), (2 : Int), ByteArray.empty, ())]) (45 : Nat)] (AV.agg [AV.s (SV.ilit IntKind.i64 (0 : Int)), AV.s (SV.ilit IntKind.i64 (4 : Int)), AV.vec (5 : Nat), AV.vec (6 : Nat), AV.emp, AV.emp])))
    (Tree.need (((3 : Nat) + (2 : Nat)) * (152 : Nat) ≤ (140737488355328 : Nat)) (Tree.ret [AObj.own [AV.s (SV.ilit IntKind.i64 (0 : Int)), AV.s (SV.ilit IntKind.i64 (4 : Int)), AV.vec (5 : Nat), AV.vec (6 : Nat), AV.emp, AV.emp] (27 : Nat), AObj.dead, AObj.own [AV.s (SV.str (ByteArray.mk #[(112 : UInt8)])), AV.emp, AV.s (SV.ro (Con.typ cN ([(ByteArray.mk #[(97 : UInt8)], (11 : Int), (-1 : Int), (-1 : Int), (0 : Int), ByteArray.empty, ByteArray.empty, ByteArray.empty, false, [], [], ()), (ByteArray.mk #[(98 : UInt8)], (15 : Int), (-1 : Int), (0 : Int), (4 : Int), ByteArray.mk #[(107 : UInt8)], ByteArray.empty, ByteArray.empty, true, [], [], ()), (ByteArray.mk #[(99 : UInt8)], (3 : Int), (0 : Int), (-1 : Int), (0 : Int), ByteArray.empty, ByteArray.empty, ByteArray.empty, false, [], [], ())] ++ [(ByteArray.mk #[(100 : UInt8)], (13 : Int), (0 : Int), (-1 : Int), (0 : Int), ByteArray.empty, ByteArray.empty, ByteArray.empty, false, [], [], ()), (ByteArray.mk #[(101 : UInt8)], (1 : Int), (3 : Int), (-1 : Int), (4 : Int), key, ByteArray.empty, ByteArray.empty, true, [], [], ())]))), AV.emp] (43 : Nat), AObj.vec (Con.typ cN [(ByteArray.mk #[(100 : UInt8)], (13 : Int), (0 : Int), (-1 : Int), (0 : Int), ByteArray.empty, ByteArray.empty, ByteArray.empty, false, [], [], ()), (ByteArray.mk #[(101 : UInt8)], (1 : Int), (3 : Int), (-1 : Int), (4 : Int), key, ByteArray.empty, ByteArray.empty, true, [], [], ())]) (39 : Nat), AObj.dead, AObj.vec (Con.typ cP [(ByteArray.mk #[(112 : UInt8)], [], [(ByteArray.mk #[(97 : UInt8)], (11 : Int), (-1 : Int), (-1 : Int), (0 : Int), ByteArray.empty, ByteArray.empty, ByteArray.empty, false, [], [], ()), (ByteArray.mk #[(98 : UInt8)], (15 : Int), (-1 : Int), (0 : Int), (4 : Int), ByteArray.mk #[(107 : UInt8)], ByteArray.empty, ByteArray.empty, true, [], [], ()), (ByteArray.mk #[(99 : UInt8)], (3 : Int), (0 : Int), (-1 : Int), (0 : Int), ByteArray.empty, ByteArray.empty, ByteArray.empty, false, [], [], ())] ++ [(ByteArray.mk #[(100 : UInt8)], (13 : Int), (0 : Int), (-1 : Int), (0 : Int), ByteArray.empty, ByteArray.empty, ByteArray.empty, false, [], [], ()), (ByteArray.mk #[(101 : UInt8)], (1 : Int), (3 : Int), (-1 : Int), (4 : Int), key, ByteArray.empty, ByteArray.empty, true, [], [], ())], [], ())]) (43 : Nat), AObj.vec (Con.typ cI [((1 : Int), (0 : Int), (1 : Int), ByteArray.mk #[(112 : UInt8)], (-1 : Int), (-1 : Int), (0 : Int), ByteArray.empty, ()), ((2 : Int), (1 : Int), (2 : Int), ByteArray.mk #[(112 : UInt8)], (0 : Int), (-1 : Int), (3 : Int), ByteArray.empty, ()), ((3 : Int), (2 : Int), (1 : Int), ByteArray.mk #[(112 : UInt8)], (0 : Int), (-1 : Int), (0 : Int), ByteArray.empty, ()), ((4 : Int), (3 : Int), (2 : Int), ByteArray.mk #[(112 : UInt8)], (2 : Int), (-1 : Int), (2 : Int), ByteArray.empty, ())]) (45 : Nat)] (AV.agg [AV.s (SV.ilit IntKind.i64 (0 : Int)), AV.s (SV.ilit IntKind.i64 (4 : Int)), AV.vec (5 : Nat), AV.vec (6 : Nat), AV.emp, AV.emp]))))
  (Tree.ret [AObj.own [AV.s (SV.ilit IntKind.i64 (0 : Int)), AV.s (SV.ilit IntKind.i64 (4 : Int)), AV.vec (3 : Nat), AV.vec (4 : Nat), AV.emp, AV.emp] (27 : Nat), AObj.dead, AObj.own [AV.s (SV.str (ByteArray.mk #[(112 : UInt8)])), AV.emp, AV.s (SV.ro (Con.typ cN [(ByteArray.mk #[(97 : UInt8)], (11 : Int), (-1 : Int), (-1 : Int), (0 : Int), ByteArray.empty, ByteArray.empty, ByteArray.empty, false, [], [], ()), (ByteArray.mk #[(98 : UInt8)], (15 : Int), (-1 : Int), (0 : Int), (4 : Int), ByteArray.mk #[(107 : UInt8)], ByteArray.empty, ByteArray.empty, true, [], [], ()), (ByteArray.mk #[(99 : UInt8)], (3 : Int), (0 : Int), (-1 : Int), (0 : Int), ByteArray.empty, ByteArray.empty, ByteArray.empty, false, [], [], ())])), AV.emp] (43 : Nat), AObj.vec (Con.typ cP [(ByteArray.mk #[(112 : UInt8)], [], [(ByteArray.mk #[(97 : UInt8)], (11 : Int), (-1 : Int), (-1 : Int), (0 : Int), ByteArray.empty, ByteArray.empty, ByteArray.empty, false, [], [], ()), (ByteArray.mk #[(98 : UInt8)], (15 : Int), (-1 : Int), (0 : Int), (4 : Int), ByteArray.mk #[(107 : UInt8)], ByteArray.empty, ByteArray.empty, true, [], [], ()), (ByteArray.mk #[(99 : UInt8)], (3 : Int), (0 : Int), (-1 : Int), (0 : Int), ByteArray.empty, ByteArray.empty, ByteArray.empty, false, [], [], ())], [], ())]) (43 : Nat), AObj.vec (Con.typ cI [((1 : Int), (0 : Int), (1 : Int), ByteArray.mk #[(112 : UInt8)], (-1 : Int), (-1 : Int), (0 : Int), ByteArray.empty, ()), ((2 : Int), (1 : Int), (2 : Int), ByteArray.mk #[(112 : UInt8)], (0 : Int), (-1 : Int), (3 : Int), ByteArray.empty, ()), ((3 : Int), (2 : Int), (1 : Int), ByteArray.mk #[(112 : UInt8)], (0 : Int), (-1 : Int), (0 : Int), ByteArray.empty, ()), ((4 : Int), (3 : Int), (2 : Int), ByteArray.mk #[(112 : UInt8)], (2 : Int), (-1 : Int), (2 : Int), ByteArray.empty, ())]) (45 : Nat)] (AV.agg [AV.s (SV.ilit IntKind.i64 (0 : Int)), AV.s (SV.ilit IntKind.i64 (4 : Int)), AV.vec (3 : Nat), AV.vec (4 : Nat), AV.emp, AV.emp])) := by kernel_rfl
theorem trAw  : run P tabAw.sum Try.f8 [] (start Try.f8 [] []) =
  Tree.need (okN (nePs ByteArray.empty)) (Tree.need (okN (nePs ByteArray.empty)) (Tree.need (okN (nePs (ByteArray.mk #[(42 : UInt8)]))) (Tree.ite true (Tree.ite true (Tree.ite true (Tree.ite true (Tree.ret [AObj.own [AV.s (SV.int IntKind.i64 (2 : Int)), AV.s (SV.int IntKind.i64 (1 : Int))] (30 : Nat), AObj.own [AV.s (SV.int IntKind.i64 (0 : Int)), AV.s (SV.int IntKind.i64 (0 : Int))] (30 : Nat), AObj.own [AV.s (SV.int IntKind.i64 (3 : Int)), AV.s (SV.int IntKind.i64 (4 : Int))] (30 : Nat)] (AV.s (SV.bool true))) (Tree.ret [AObj.own [AV.s (SV.int IntKind.i64 (2 : Int)), AV.s (SV.int IntKind.i64 (1 : Int))] (30 : Nat), AObj.own [AV.s (SV.int IntKind.i64 (0 : Int)), AV.s (SV.int IntKind.i64 (0 : Int))] (30 : Nat), AObj.own [AV.s (SV.int IntKind.i64 (3 : Int)), AV.s (SV.int IntKind.i64 (4 : Int))] (30 : Nat)] (AV.s (SV.blit false)))) (Tree.ret [AObj.own [AV.s (SV.int IntKind.i64 (2 : Int)), AV.s (SV.int IntKind.i64 (1 : Int))] (30 : Nat), AObj.own [AV.s (SV.int IntKind.i64 (0 : Int)), AV.s (SV.int IntKind.i64 (0 : Int))] (30 : Nat), AObj.own [AV.s (SV.int IntKind.i64 (3 : Int)), AV.s (SV.int IntKind.i64 (4 : Int))] (30 : Nat)] (AV.s (SV.blit false)))) (Tree.ret [AObj.own [AV.s (SV.int IntKind.i64 (2 : Int)), AV.s (SV.int IntKind.i64 (1 : Int))] (30 : Nat), AObj.own [AV.s (SV.int IntKind.i64 (0 : Int)), AV.s (SV.int IntKind.i64 (0 : Int))] (30 : Nat), AObj.own [AV.s (SV.int IntKind.i64 (3 : Int)), AV.s (SV.int IntKind.i64 (4 : Int))] (30 : Nat)] (AV.s (SV.blit false)))) (Tree.ret [AObj.own [AV.s (SV.int IntKind.i64 (2 : Int)), AV.s (SV.int IntKind.i64 (1 : Int))] (30 : Nat), AObj.own [AV.s (SV.int IntKind.i64 (0 : Int)), AV.s (SV.int IntKind.i64 (0 : Int))] (30 : Nat), AObj.own [AV.s (SV.int IntKind.i64 (3 : Int)), AV.s (SV.int IntKind.i64 (4 : Int))] (30 : Nat)] (AV.s (SV.blit false)))))) := by kernel_rfl
theorem nested_ok {Z : Glob} : FnOk P Z 4 [tStr] [tSr] (fun _ => []) (fun (key, ()) => neS key) := by
  refine fnOk_of_safe Try.func4 (by kernel_rfl) (by kernel_rfl) ?_
  rintro ⟨(key : ByteArray), ⟨⟩⟩ _ _ X hX hz
  show Safe P 4 X (Ends [tSr] (neS key)) _
  refine go hz hX Tab.Ok.nil Try.func4 (trNe key) ⟨fun h => ⟨fun h2 => ⟨by decide, ?_⟩, fun h2 => ⟨by decide, ?_⟩⟩, fun h => ?_⟩
  · have h2 : key = star := of_decide_eq_true h2
    subst h2
    exact ends_eq _ rfl (by kernel_rfl)
  · have h : ¬ key = ByteArray.empty := by simpa using h
    have h2 : ¬ key = star := of_decide_eq_false h2
    have e : neNs key = [mkN 97 11 (-1) (-1) 0 ByteArray.empty false, mkN 98 15 (-1) 0 4 (tx1 107) true, mkN 99 3 0 (-1) 0 ByteArray.empty false] ++ [mkN 100 13 0 (-1) 0 ByteArray.empty false, mkN 101 1 3 (-1) 4 key true] := by unfold neNs; rw [if_neg h, if_neg h2]
    have e2 : nePs key = [(tx1 112, ([] : List (CL cV)), [mkN 97 11 (-1) (-1) 0 ByteArray.empty false, mkN 98 15 (-1) 0 4 (tx1 107) true, mkN 99 3 0 (-1) 0 ByteArray.empty false] ++ [mkN 100 13 0 (-1) 0 ByteArray.empty false, mkN 101 1 3 (-1) 4 key true], ([] : List (CL cF)), ())] := by unfold nePs; rw [e]; rfl
    rw [show neS key = (((0 : Int), (4 : Int), nePs key, neIs, ([] : Cs), ([] : Ws), ()), ()) from rfl, e2]
    exact ends_eq _ rfl (by kernel_rfl)
  · have h : key = ByteArray.empty := by simpa using h
    subst h
    exact ends_eq _ rfl (by kernel_rfl)
theorem tabAw_ok {Z : Glob} : tabAw.Ok P Z := Tab.Ok.cons nested_ok.sumR (Tab.Ok.cons rfind_ok.sum Tab.Ok.nil)
end Ds

namespace Ds
open Go Go.Sx Go.Proofs Lf
theorem okN_ne (key : ByteArray) : okN (nePs key) := fun p hp => by
  have : p = (tx1 112, ([] : List (CL cV)), neNs key, ([] : List (CL cF)), ()) := List.mem_singleton.1 hp
  rw [this]
  show (neNs key).length ≤ 1000000
  unfold neNs
  rw [List.length_append]
  split <;> simp
theorem awake_ok {Z : Glob} : FnOk P Z 8 [] [tBool] (fun _ => []) (fun _ => (true, ())) := by
  refine fnOk_of_safe Try.func8 (by kernel_rfl) (by kernel_rfl) ?_
  rintro ⟨⟩ _ _ X hX hz
  exact go hz hX tabAw_ok Try.func8 trAw ⟨okN_ne _, okN_ne _, okN_ne _, yes_and rfl (yes_and rfl (yes_and rfl (yes_and rfl (ends_eq _ rfl (by kernel_rfl)))))⟩
end Ds
