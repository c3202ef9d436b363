/- Lemmas: SxFnR, SxLoop, SxWrap, SxDen, SxCut, Hd, SxSpec, SxAuto, Lb, SxRange, D0, B0, D3, SxFrz, SxRoom, SxLit, G0, G1, G2, G3, G4, G5, G6, G7, H0, H1, H2, H3, H4, H5, SxGlob, SxWeak, SxTup, SxPan, H6, SxPan2, H7. -/
import Derived.ProofKit
import Derived.Carry
import Derived.OpenShut
import Derived.Deep.DeepHandedRow
import Derived.JoinedOf
import Derived.Test.YtlpahmfhaljjkaaRows
import Derived.LaidMore
import Derived.Stop.Joined
import Derived.Lib.Bytealg
import Derived.Maps.RangeRun
import Derived.Test.YtlpahmfhaljjkaaProg
import Derived.Lib.Walk
import Derived.WalkKit
import Derived.Laws.Externs
import Derived.Shelf.SortM.Plain
import Derived.Shelf.SortM.SortNone
import Derived.Ground.SlgmProg
import Derived.Recover
import Derived.Test.YtlpahmfhaljjkaaPC

/-! Functions that may hand out rows they were handed: what they are handed stands still from then on. -/
namespace Go.Sx
open Go

def frzP1 (a : AV) (ids : List Nat) (k : AV → List Nat → RM Res) : RM Res :=
  match a with
  | .vec id => .look id fun
    | some (.vec c _) => k (.s (.ro c)) (id :: ids)
    | _ => .fail "frz"
  | a => k a ids

def frzPL : List AV → List Nat → (List AV → List Nat → RM Res) → RM Res
  | [], ids, k => k [] ids
  | a :: azs, ids, k => frzP1 a ids fun a' ids => frzPL azs ids fun azs' ids => k (a' :: azs') ids

def frzPV (a : AV) (ids : List Nat) (k : AV → List Nat → RM Res) : RM Res :=
  match a with
  | .agg segs => frzPL segs ids fun s ids => k (.agg s) ids
  | a => frzP1 a ids k

def frzPA : List AV → List Nat → (List AV → List Nat → RM Res) → RM Res
  | [], ids, k => k [] ids
  | a :: azs, ids, k => frzPV a ids fun a' ids => frzPA azs ids fun azs' ids => k (a' :: azs') ids

/-- The summary of a contract whose answers may share memory with what it was handed. -/
def sumR (ts rs : List Ty) (pre : AL ts → List Prop) (F : AL ts → AL rs) : Nat → List AV → RM Res := fun _ args =>
  frzPA args [] fun args ids => match allM (rn (fun _ => none) 20) args with
    | some args => (match AL.rd ts args with
      | some x => bif rs.all Ty.flatR then .ret ⟨pre x, ids.map fun i => (i, .dead), (AL.res rs (F x)).1, fun base => oneOf (AL.out base rs (F x)).1⟩ else .fail "sum: not flat"
      | none => .fail "sum: arguments")
    | none => .fail "sum: names"

section
variable {ρ ρ' : Nat → Value} {H H' : AHeap} {G O O' : Nat → Prop} {w w' : World} {P : Program} {Z : Glob}

/-- What is frozen on the way. -/
structure Frzn (ρ : Nat → Value) (H : AHeap) (G : Nat → Prop) (ids ids' : List Nat) : Prop where
  sub : ∀ i ∈ ids, i ∈ ids'
  vec : ∀ i ∈ ids', i ∈ ids ∨ ∃ c e, H i = some (.vec c e)

abbrev Colder (ρ : Nat → Value) (H : AHeap) (G : Nat → Prop) (ids : List Nat) (O : Nat → Prop) : Prop := (∀ b, O b → Hot ρ H G b) ∧ ∀ i ∈ ids, ∀ b, blk (ρ i) = some b → ¬ O b

theorem Frzn.trans {a b c : List Nat} (h : Frzn ρ H G a b) (k : Frzn ρ H G b c) : Frzn ρ H G a c :=
  ⟨fun i hi => k.sub i (h.sub i hi), fun i hi => (k.vec i hi).elim (fun h1 => h.vec i h1) .inr⟩

theorem frzP1_ok {a : AV} {ids : List Nat} {k : AV → List Nat → RM Res} {q : Res} (h : (frzP1 a ids k).eval H = some q) (hs : Sat ρ H G w) :
    ∃ a' ids', (k a' ids').eval H = some q ∧ Frzn ρ H G ids ids' ∧ ∀ O, Colder ρ H G ids' O → (∀ v, DenV ρ H (Hot ρ H G) w a v → DenV ρ H O w a' v) ∧ (∀ cs, DenC ρ H (Hot ρ H G) w a cs → DenC ρ H O w a' cs) := by
  have stp : ∀ O, Colder ρ H G ids O → Step ρ H (Hot ρ H G) w ρ H O w := fun O hO => ⟨fun _ _ _ => rfl, fun _ o h => ⟨o, h, fun c' e' e => ⟨c', e', e, rfl, rfl⟩⟩, fun b hb => .inl (hO.1 b hb), fun _ _ _ => rfl, Nat.le_refl _⟩
  unfold frzP1 at h
  split at h
  · rename_i id
    simp only [RM.eval] at h
    split at h
    · rename_i c e hc
      obtain ⟨r, cap, h0, h1, h2, h3⟩ := hs.obj id _ hc
      refine ⟨_, _, h, ⟨fun i hi => by simp [hi], fun i hi => ?_⟩, fun O hO => ?_⟩
      · rcases List.mem_cons.1 hi with rfl | hi
        · exact .inr ⟨c, e, hc⟩
        · exact .inl hi
      · have key : ∀ v, Den1 ρ H (Hot ρ H G) w (.vec id) v → DenS O w (.ro c) v := by
          intro v hv
          unfold Den1 at hv
          obtain ⟨_, o, ho, h4⟩ := hv
          rw [hc] at ho
          cases ho
          rw [h4 c e rfl]
          have hcold := hO.2 id (by simp)
          rw [h0] at hcold ⊢
          rcases h3 with h3 | ⟨b, f, cells, fr, us, rfl, h5, h6, h7, h8⟩
          · exact .ro c r cap (fun _ _ => undef) 0 0 h1 h2 (fun h => by omega) (fun i j hi hj => by omega) (fun i j hi hj => by omega)
          · by_cases hcap : cap = 0
            · exact .ro c _ cap (fun _ _ => undef) 0 0 h1 h2 (fun h => by omega) (fun i j hi hj => by omega) (fun i j hi hj => by omega)
            · refine .ro c _ cap us b f h1 h2 (fun _ => ⟨rfl, hcold b (by simp [blk, hcap]), (Array.getElem?_eq_some_iff.1 h5).1⟩) (fun i j hi hj => ?_) (fun i j hi hj => (h8 i j hi hj).2.less hO.1)
              have := (h8 i j hi hj).1
              simp only [World.cell?, h5]
              simpa using this
        exact ⟨fun v hv => DenV_s (key v (by unfold DenV at hv; exact hv)), fun cs hv => by unfold DenC at *; obtain ⟨u, rfl, h9⟩ := hv; exact ⟨u, rfl, key u h9⟩⟩
    · simp [RM.eval] at h
  · exact ⟨_, _, h, ⟨fun i hi => hi, fun i hi => .inl hi⟩, fun O hO => ⟨fun v hv => DenV.step (stp O hO) _ v hv, fun cs hv => DenC.step (stp O hO) _ cs hv⟩⟩

theorem Colder.sub {a b : List Nat} (h : ∀ i ∈ a, i ∈ b) (k : Colder ρ H G b O) : Colder ρ H G a O := ⟨k.1, fun i hi => k.2 i (h i hi)⟩

theorem frzPL_ok : ∀ {azs : List AV} {ids : List Nat} {k : List AV → List Nat → RM Res} {q : Res}, (frzPL azs ids k).eval H = some q → Sat ρ H G w →
    ∃ azs' ids', (k azs' ids').eval H = some q ∧ Frzn ρ H G ids ids' ∧ ∀ O, Colder ρ H G ids' O → ∀ cs, DenSegs ρ H (Hot ρ H G) w azs cs → DenSegs ρ H O w azs' cs
  | [], ids, k, q, h, hs => ⟨[], ids, h, ⟨fun _ h => h, fun _ h => .inl h⟩, fun O _ cs hd => by rw [DenSegs_nil.1 hd]; exact DenSegs_nil.2 rfl⟩
  | a :: azs, ids, k, q, h, hs => by
    obtain ⟨a', i1, h1, f1, h2⟩ := frzP1_ok h hs
    obtain ⟨azs', i2, h3, f2, h4⟩ := frzPL_ok h1 hs
    refine ⟨a' :: azs', i2, h3, f1.trans f2, fun O hO cs hd => ?_⟩
    obtain ⟨c1, c2, rfl, h6, h7⟩ := DenSegs_cons.1 hd
    exact DenSegs_cons.2 ⟨c1, c2, rfl, (h2 O (Colder.sub f2.sub hO)).2 c1 h6, h4 O hO c2 h7⟩

theorem frzPV_ok {a : AV} {ids : List Nat} {k : AV → List Nat → RM Res} {q : Res} (h : (frzPV a ids k).eval H = some q) (hs : Sat ρ H G w) :
    ∃ a' ids', (k a' ids').eval H = some q ∧ Frzn ρ H G ids ids' ∧ ∀ O, Colder ρ H G ids' O → ∀ v, DenV ρ H (Hot ρ H G) w a v → DenV ρ H O w a' v := by
  unfold frzPV at h
  split at h
  · obtain ⟨azs', i1, h1, f1, h2⟩ := frzPL_ok h hs
    refine ⟨_, i1, h1, f1, fun O hO v hd => ?_⟩
    unfold DenV at *
    obtain ⟨cs, h3, h4⟩ := hd
    exact ⟨cs, h3, h2 O hO cs h4⟩
  · obtain ⟨a', i1, h1, f1, h2⟩ := frzP1_ok h hs
    exact ⟨a', i1, h1, f1, fun O hO => (h2 O hO).1⟩

theorem frzPA_ok : ∀ {azs : List AV} {ids : List Nat} {k : List AV → List Nat → RM Res} {q : Res}, (frzPA azs ids k).eval H = some q → Sat ρ H G w →
    ∃ azs' ids', (k azs' ids').eval H = some q ∧ Frzn ρ H G ids ids' ∧ ∀ O, Colder ρ H G ids' O → ∀ cs, DenL ρ H (Hot ρ H G) w azs cs → DenL ρ H O w azs' cs
  | [], ids, k, q, h, hs => ⟨[], ids, h, ⟨fun _ h => h, fun _ h => .inl h⟩, fun O _ cs hd => by rw [DenL_nil.1 hd]; exact DenL_nil.2 rfl⟩
  | a :: azs, ids, k, q, h, hs => by
    obtain ⟨a', i1, h1, f1, h2⟩ := frzPV_ok h hs
    obtain ⟨azs', i2, h3, f2, h4⟩ := frzPA_ok h1 hs
    refine ⟨a' :: azs', i2, h3, f1.trans f2, fun O hO cs hd => ?_⟩
    obtain ⟨c1, c2, rfl, h6, h7⟩ := DenL_cons.1 hd
    exact DenL_cons.2 ⟨c1, c2, rfl, h2 O (Colder.sub f2.sub hO) c1 h6, h4 O hO c2 h7⟩

theorem findUp_dead : ∀ (ids : List Nat) (j : Nat), findUp (ids.map fun i => (i, AObj.dead)) j = if j ∈ ids then some .dead else none
  | [], j => rfl
  | i :: ids, j => by
    simp only [List.map_cons, findUp, findUp_dead ids j]
    by_cases h : j ∈ ids
    · simp [h]
    · by_cases h2 : j = i
      · subst h2; simp [h]
      · simp [h, h2]

theorem FnOk.sumR {f : FuncId} {ts rs : List Ty} {pre : AL ts → List Prop} {F : AL ts → AL rs} (h : FnOk P Z f ts rs pre F) : SOk1 P Z f (sumR ts rs pre F) := by
  intro base args H q hq hn ρ G w vs hfresh hz hs hd
  unfold Sx.sumR at hq
  obtain ⟨args1, ids, hq, hf, h1⟩ := frzPA_ok hq hs
  split at hq
  · rename_i args2 h2
    split at hq
    · rename_i x h3
      rw [Bool.cond_eq_ite] at hq
      split at hq
      · rename_i hflat
        simp only [RM.eval, Option.some.injEq] at hq
        subst hq
        have hvec : ∀ i ∈ ids, ∃ c e, H i = some (.vec c e) := fun i hi => (hf.vec i hi).elim (fun h => by simp at h) (fun h => h)
        let Gc : Nat → Prop := fun b => Hot ρ H G b ∧ ∀ i ∈ ids, blk (ρ i) ≠ some b
        have hot0 : ∀ b, Hot (fun _ => undef) (fun _ => none) Gc b → Gc b := by
          rintro b (⟨id, o, ho, _⟩ | hb)
          · cases ho
          · exact hb
        have hcold : Colder ρ H G ids (Hot (fun _ => undef) (fun _ => none) Gc) := ⟨fun b hb => (hot0 b hb).1, fun i hi b hb hO => (hot0 b hO).2 i hi hb⟩
        have E : Emb (fun _ => none) ρ H (Hot (fun _ => undef) (fun _ => none) Gc) (fun _ => undef) (fun _ => none) (Hot (fun _ => undef) (fun _ => none) Gc) := ⟨fun i j hij => (by cases hij), fun b hb => hb⟩
        have hd2 := rnL_den E h2 (h1 _ hcold vs hd)
        have hd3 : DenL (fun _ => undef) (fun _ => none) (Hot (fun _ => undef) (fun _ => none) Gc) w (AL.av ts x) vs := AL.rd_ok h3 hd2
        refine (h x (AL.okL hd3) hn Gc w vs (fun b hb => hot_lt hs hb.1) hz.1 hd3).mono ?_
        rintro e w' ⟨v, he, ρ1, g1, g2, g3, g4⟩
        refine ⟨v, he, ?_⟩
        simp only []
        have hpl := AL.out_plain hflat (x := F x) (base := 0)
        have hobjs : (AL.res rs (F x)).1 = (AL.out 0 rs (F x)).2 := rfl
        rw [← hobjs] at hpl
        generalize hL : (AL.res rs (F x)).1 = L at *
        have hnew : ∀ b, Own ρ1 (lk L) b → w.heap.size ≤ b := fun b hb => by
          rcases g3.hot b (.inl hb) with h5 | h5
          · exact (g1.apart b hb (hot0 b h5)).elim
          · exact h5
        let ρ2 : Nat → Value := fun id => if base ≤ id ∧ id < base + L.length then ρ1 (id - base) else ρ id
        let H2 := resH H (ids.map fun i => (i, AObj.dead)) base L
        have hold : ∀ {id : Nat} {o : AObj}, H id = some o → ¬ (base ≤ id ∧ id < base + L.length) := fun {id o} ho hc => by
          have := hfresh (id - base) (by simp only []; omega)
          rw [show base + (id - base) = id from by omega, ho] at this
          cases this
        have hH2 : ∀ id, H2 id = if id ∈ ids then some .dead else if base ≤ id ∧ id < base + L.length then L[id - base]? else H id := fun id => by
          simp only [H2, resH, findUp_dead]
          split
          · rename_i hx
            split at hx
            · rename_i hi; cases hx; rw [if_pos hi]
            · cases hx
          · rename_i hx
            split at hx
            · cases hx
            · rename_i hi; rw [if_neg hi]
        have hidn : ∀ id, id ∈ ids → ¬ (base ≤ id ∧ id < base + L.length) := fun id hi => by
          obtain ⟨c, e, hce⟩ := hvec id hi
          exact hold hce
        have sh : Shift base L.length ρ1 (lk L) ρ2 H2 := ⟨fun i hi => by simp only [ρ2]; rw [if_pos (by omega)]; congr 1; omega, fun i hi => by
          rw [hH2, if_neg (fun hm => hidn _ hm ⟨by omega, by omega⟩), if_pos (by omega)]; simp [lk]⟩
        have cases2 : ∀ {id : Nat} {o : AObj}, H2 id = some o → o.alive = true → (base ≤ id ∧ id < base + L.length ∧ L[id - base]? = some o ∧ ρ2 id = ρ1 (id - base)) ∨ (id ∉ ids ∧ H id = some o ∧ ρ2 id = ρ id) := by
          intro id o ho ha
          rw [hH2] at ho
          split at ho
          · cases ho; cases ha
          · rename_i hi
            split at ho
            · rename_i hc
              exact .inl ⟨hc.1, hc.2, ho, by simp only [ρ2]; rw [if_pos hc]⟩
            · rename_i hc
              exact .inr ⟨hi, ho, by simp only [ρ2]; rw [if_neg hc]⟩
        have notf : ∀ {id : Nat} {o : AObj} {b : Nat}, id ∉ ids → H id = some o → o.alive = true → blk (ρ id) = some b → ∀ i ∈ ids, blk (ρ i) ≠ some b := by
          intro id o b hid ho ha hb i hi hb2
          obtain ⟨c, e, hce⟩ := hvec i hi
          have := hs.inj id i o _ b ho hce ha rfl hb hb2
          exact hid (this ▸ hi)
        have hown2 : ∀ b, Own ρ2 H2 b → Own ρ1 (lk L) b ∨ (Own ρ H b ∧ ∀ i ∈ ids, blk (ρ i) ≠ some b) := by
          rintro b ⟨id, o, ho, ha, hb⟩
          rcases cases2 ho ha with ⟨_, _, h5, h6⟩ | ⟨h5, h6, h7⟩
          · rw [h6] at hb
            exact .inl ⟨id - base, o, h5, ha, hb⟩
          · rw [h7] at hb
            exact .inr ⟨⟨id, o, h6, ha, hb⟩, notf h5 h6 ha hb⟩
        have hhot2 : ∀ b, Hot ρ2 H2 G b → Hot ρ1 (lk L) Gc b := by
          rintro b (hb | hb)
          · rcases hown2 b hb with h5 | h5
            · exact .inl h5
            · exact .inr ⟨.inl h5.1, h5.2⟩
          · refine .inr ⟨.inr hb, fun i hi hbk => ?_⟩
            obtain ⟨c, e, hce⟩ := hvec i hi
            exact hs.apart b ⟨i, _, hce, rfl, hbk⟩ hb
        have heap : ∀ b, b < w.heap.size → w'.heap[b]? = w.heap[b]? := fun b hb => g4.heap b hb (fun ⟨id, o, ho, _⟩ => by cases ho)
        have hsize : w.heap.size ≤ w'.heap.size := g3.size
        have st : Step ρ H (Hot ρ H G) w ρ2 H2 (Hot ρ2 H2 G) w' := by
          refine ⟨fun id o ho => ?_, fun id o ho => ?_, fun b hb => ?_, fun b hb _ => heap b hb, hsize⟩
          · simp only [ρ2]; rw [if_neg (hold ho)]
          · by_cases hi : id ∈ ids
            · exact ⟨.dead, by rw [hH2, if_pos hi], fun c' e' hc => by cases hc⟩
            · exact ⟨o, by rw [hH2, if_neg hi, if_neg (hold ho)]; exact ho, fun c' e' hc => ⟨c', e', hc, rfl, rfl⟩⟩
          · rcases hb with hb | hb
            · rcases hown2 b hb with h5 | h5
              · exact .inr (hnew b h5)
              · exact .inl (.inl h5.1)
            · exact .inl (.inr hb)
        refine ⟨ρ2, ⟨fun id o ho => ?_, fun i j oi oj b hi hj ai aj bi bj => ?_, fun b hb hG => ?_, fun b hb => Nat.lt_of_lt_of_le (hs.low b hb) hsize⟩, res_shift (.inr hhot2) (O := Hot ρ1 (lk L) Gc) (hL ▸ sh) (by rw [hL]; exact g2), st, ⟨g4.os, g4.tape, g4.output, fun b hb _ => heap b hb⟩⟩
        · cases hal : o.alive
          · cases o with
            | dead => trivial
            | own _ _ => cases hal
            | vec _ _ => cases hal
            | map _ _ => cases hal
            | mapb _ _ _ => cases hal
            | iter _ _ _ _ _ => cases hal
          · rcases cases2 ho hal with ⟨_, _, h5, h6⟩ | ⟨h5, h6, h7⟩
            · rw [h6]
              have hobj := g1.obj (id - base) o h5
              obtain ⟨r, y, e', hr, rfl⟩ := hpl o (List.mem_of_getElem? h5)
              obtain ⟨a0, cap, k0, k1, k2, k3⟩ := hobj
              refine ⟨a0, cap, k0, k1, k2, k3.imp (fun h => h) ?_⟩
              rintro ⟨b, f0, cells, fr, us, k4, k5, k6, k7, k8⟩
              exact ⟨b, f0, cells, fr, us, k4, k5, k6, k7, fun i j hi hj => ⟨(k8 i j hi hj).1, RK.flat_den hr hj (k8 i j hi hj).2⟩⟩
            · rw [h7]
              exact (hs.obj id o h6).step st (fun b ha hb => heap b (own_lt hs ⟨id, o, h6, ha, hb⟩))
        · rcases cases2 hi ai with ⟨i1, i2, i3, i4⟩ | ⟨i1, i2, i3⟩
          · rw [i4] at bi
            rcases cases2 hj aj with ⟨j1, j2, j3, j4⟩ | ⟨j1, j2, j3⟩
            · rw [j4] at bj
              have := g1.inj (i - base) (j - base) oi oj b i3 j3 ai aj bi bj
              omega
            · rw [j3] at bj
              have := own_lt hs ⟨j, oj, j2, aj, bj⟩
              have := hnew b ⟨_, oi, i3, ai, bi⟩
              omega
          · rw [i3] at bi
            rcases cases2 hj aj with ⟨j1, j2, j3, j4⟩ | ⟨j1, j2, j3⟩
            · rw [j4] at bj
              have := own_lt hs ⟨i, oi, i2, ai, bi⟩
              have := hnew b ⟨_, oj, j3, aj, bj⟩
              omega
            · rw [j3] at bj
              exact hs.inj i j oi oj b i2 j2 ai aj bi bj
        · rcases hown2 b hb with h5 | h5
          · have := hnew b h5
            have := hs.low b hG
            omega
          · exact hs.apart b h5.1 hG
      · simp [RM.eval] at hq
    · simp [RM.eval] at hq
  · simp [RM.eval] at hq
end
end Go.Sx

/-! Loops, and the whole of a function. -/
namespace Go.Sx
open Go

/-- Slots, those that are not told being of no matter. -/
def slF : Nat → Nat → List (Nat × AV) → List AV
  | 0, _, _ => []
  | n + 1, i, [] => .s .junk :: slF n (i + 1) []
  | n + 1, i, (j, a) :: l => bif j.beq i then a :: slF n (i + 1) l else .s .junk :: slF n (i + 1) ((j, a) :: l)
def sl (n : Nat) (l : List (Nat × AV)) : List AV := slF n 0 l

def firstRegion : Code → Option Nat
  | .region id _ _ => some id
  | .seq a b => match firstRegion a with
    | some i => some i
    | none => firstRegion b
  | .cond _ a b => match firstRegion a with
    | some i => some i
    | none => firstRegion b
  | .block _ c | .loop c | .scope c => firstRegion c
  | _ => none

/-- A loop's head, by its first region. -/
def headOf (key : Nat) : Code → List Item → Option (List Item)
  | .seq a b, k => match headOf key a (.code b :: k) with
    | some r => some r
    | none => headOf key b k
  | .cond _ a b, k => match headOf key a k with
    | some r => some r
    | none => headOf key b k
  | .block id c, k => headOf key c (.inBlock id :: k)
  | .scope c, k => headOf key c (.inScope c :: k)
  | .loop c, k => match firstRegion c with
    | some i => bif i.beq key then some (.code c :: .inLoop c :: k) else headOf key c (.inLoop c :: k)
    | none => headOf key c (.inLoop c :: k)
  | _, _ => none

def hd (fn : Func) (key : Nat) : List Item := (headOf key (fn.body.getD .skip) []).getD []

/-- A region, and what stands behind it. -/
def regionAt (key : Nat) : Code → List Item → Option (List Item)
  | .region id ops d, k => bif id.beq key then some (.code (.region id ops d) :: k) else none
  | .seq a b, k => match regionAt key a (.code b :: k) with
    | some r => some r
    | none => regionAt key b k
  | .cond _ a b, k => match regionAt key a k with
    | some r => some r
    | none => regionAt key b k
  | .block id c, k => regionAt key c (.inBlock id :: k)
  | .scope c, k => regionAt key c (.inScope c :: k)
  | .loop c, k => regionAt key c (.inLoop c :: k)
  | _, _ => none

def hr (fn : Func) (key : Nat) : List Item := (regionAt key (fn.body.getD .skip) []).getD []

def keyOf (c : Cfg) : Nat := match c.todo with
  | .code x :: _ => keyIn c.stk ((firstRegion x).getD 0)
  | .inRegion ops todo :: _ => midAt c.stk c.stk.rid (ops.size - todo.length)
  | _ => 0

def nsOf : List (Nat × Norm) → Nat → Option Norm
  | [], _ => none
  | (i, n) :: l, k => bif i.beq k then some n else nsOf l k

def inReg : List Item → Bool
  | .inRegion _ _ :: _ => true
  | _ => false

def Tree.norm (ns : List (Nat × Norm)) : Tree → Tree
  | .need p t => .need p (t.norm ns)
  | .ite b t e => .ite b (t.norm ns) (e.norm ns)
  | .both p q t e => .both p q (t.norm ns) (e.norm ns)
  | .ret H v => .ret H v
  | .stuck w => .stuck w
  | .at c => bif inReg c.todo && (nsOf ns (keyOf c)).isNone then .at c else match nsOf ns (keyOf c) with
    | some N => (match N.run c with
      | some c' => .at c'
      | none => .stuck "norm")
    | none => .stuck "no norm"

def stopOf : List (Nat × Norm) → Nat → Bool
  | [], _ => false
  | (i, _) :: l, k => i.beq k || stopOf l k

def inlOf : List FuncId → FuncId → Bool
  | [], _ => false
  | f :: l, g => f.beq g || inlOf l g

def run (P : Program) (S : SummB) (fn : Func) (ns : List (Nat × Norm)) (c : Cfg) (inl : List FuncId := []) : Tree := (exec P S fn (stopOf ns) (inlOf inl) 1000 true c).norm ns

/-! ### frames that wait -/
/-- A region's place, from an operation on. -/
def cal (fn : Func) (key i : Nat) : List Item :=
  match hr fn key with
  | .code (.region _ ops _) :: k => .inRegion ops (List.range' i (ops.size - i)) :: k
  | _ => []

/-- A frame that waits in a call. -/
def inCall (fn : Func) (f : Option FuncId) (key i : Nat) (round : Bool) (marks : Nat) : FrD := ⟨f, fn.ntmps, round, marks, none, cal fn key i, (key, i)⟩

/-- A range over a function, by its body's first region. -/
def rangeAt (key : Nat) : Code → List Item → Option (Lp × List Item)
  | .rangeFunc _ ps asg body, k => match firstReg body with
    | some i => bif i.beq key then some (⟨ps.toList, asg, body⟩, k) else none
    | none => bif key.beq 0 then some (⟨ps.toList, asg, body⟩, k) else none
  | .seq a b, k => match rangeAt key a (.code b :: k) with
    | some r => some r
    | none => rangeAt key b k
  | .cond _ a b, k => match rangeAt key a k with
    | some r => some r
    | none => rangeAt key b k
  | .block id c, k => rangeAt key c (.inBlock id :: k)
  | .scope c, k => rangeAt key c (.inScope c :: k)
  | .loop c, k => rangeAt key c (.inLoop c :: k)
  | _, _ => none

/-- A frame that ranges over a function. -/
def inRange (fn : Func) (f : Option FuncId) (key : Nat) (marks : Nat) : FrD :=
  match rangeAt key (fn.body.getD .skip) [] with
  | some p => ⟨f, fn.ntmps, false, marks, some (p.1, .ready), p.2, (key, 0)⟩
  | none => ⟨f, fn.ntmps, false, marks, none, [], (key, 0)⟩

section
variable {P : Program} {S : SummB} {Z : Glob} {X : Ctx} {K : List AObj → AV → Prop} {C C' : Cfg → Prop}

theorem nsOf_mem : ∀ {l : List (Nat × Norm)} {k : Nat} {N : Norm}, nsOf l k = some N → ∃ i, (i, N) ∈ l
  | [], k, N, h => by simp [nsOf] at h
  | (i, n) :: l, k, N, h => by
    simp only [nsOf, Bool.cond_eq_ite] at h
    split at h
    · cases h; exact ⟨i, by simp⟩
    · obtain ⟨j, hj⟩ := nsOf_mem h
      exact ⟨j, by simp [hj]⟩

theorem norm_holds {ns : List (Nat × Norm)} {f : FuncId} (h0 : ∀ x ∈ ns, ∀ id, x.2.m ≤ id → X.H id = none) : ∀ (t : Tree), (t.norm ns).Holds K (Safe P f X K) → t.Holds K (Safe P f X K)
  | .need p t, h => ⟨h.1, norm_holds h0 t h.2⟩
  | .ite b t e, h => ⟨fun hb => norm_holds h0 t (h.1 hb), fun hb => norm_holds h0 e (h.2 hb)⟩
  | .both _ _ t e, h => ⟨fun hp => norm_holds h0 t (h.1 hp), fun hq => norm_holds h0 e (h.2 hq)⟩
  | .ret H v, h => h
  | .stuck w, h => h
  | .at c, h => by
    unfold Tree.norm at h
    rw [Bool.cond_eq_ite] at h
    split at h
    · exact h
    split at h
    · rename_i N hN
      split at h
      · rename_i c' hc
        obtain ⟨i, hi⟩ := nsOf_mem hN
        exact Norm.safe (h0 _ hi) hc h
      · exact h.elim
    · exact h.elim

theorem Tree.mono {t : Tree} (h : t.Holds K C) (hC : ∀ c, C c → C' c) : t.Holds K C' := by
  induction t with
  | need p t ih => exact ⟨h.1, ih h.2⟩
  | ite b t e ih1 ih2 => exact ⟨fun hb => ih1 (h.1 hb), fun hb => ih2 (h.2 hb)⟩
  | both p q t e ih1 ih2 => exact ⟨fun hp => ih1 (h.1 hp), fun hq => ih2 (h.2 hq)⟩
  | ret H v => exact h
  | stuck w => exact h
  | _ c => exact hC c h

theorem ends_eq {rs : List Ty} {y : AL rs} (y' : AL rs) {L : List AObj} {r : AV} (h : y = y') (hc : canR (rs.flatMap Ty.ces) L r = some (AL.res rs y')) : Ends rs y L r := by
  subst h; exact hc

/-- From a state on, till the end or a loop's head. -/
theorem safe_of_run {f : FuncId} {fn : Func} {ns : List (Nat × Norm)} {c : Cfg} {t : Tree} (hS : SOk P S Z) (hzc : ZCtx Z X) (hm : P.follows .mixedOrders = true) (hf : P.funcs[f]? = some fn) (h0 : ∀ x ∈ ns, ∀ id, x.2.m ≤ id → X.H id = none)
    {inl : List FuncId} (ht : run P S fn ns c inl = t) (h : t.Holds K (Safe P f X K)) : Safe P f X K c := by
  subst ht
  exact exec_ok hS hzc hm hf 1000 true c (norm_holds h0 _ h)

end
end Go.Sx

/-! A contract that says 'true', carried to what a row asks. -/
namespace Go.Sx
open Go Go.RowKit Go.ChangeShapes Go.WideShapes Go.ChangeAt

section
variable {H : Type} {enc : TypeId × Value → H} {P : Program} {W W' : World} {Z : Glob} {base : Nat} {ρ : Nat → Value} {Hh : AHeap} {O : Nat → Prop}

/-- Nothing that was there has turned. -/
structure Same (W W' : World) : Prop where
  os : W'.os = W.os
  output : W'.output = W.output
  heap : ∀ b, b < W.heap.size → W'.heap[b]? = W.heap[b]?

theorem Same.at (h : Same W W') {p : MemPlace} (hp : p.block < W.heap.size) : W.sameAt W' p := by
  have e := h.heap p.block hp
  cases p with
  | cell b o => exact (cell?_same (o := o) e)
  | map b => exact e

theorem trodAll_same {ts : List TypeId} (hl : laidOutB P = true) (hp : ts.all (fun t => P.readableRec t && decide (t < P.types.size)) = true) {sp' : Nat → Bool} (hs : Same W W') : ∀ {vs : List Value} {ds : List (DataW H)} {ps : List MemPlace},
    DataW.TrodAll enc P W 0 (fun _ => true) true ts vs ds ps → (∀ p ∈ ps, p.block < W.heap.size) → (∀ p ∈ ps, sp' p.block = true) → DataW.TrodAll enc P W' 0 sp' true ts vs ds ps := by
  induction ts with
  | nil => intro vs ds ps h _ _; cases vs <;> cases ds <;> simp [DataW.TrodAll] at h ⊢; exact h
  | cons t ts ih =>
    intro vs ds ps h hlt hsp
    simp only [List.all_cons, Bool.and_eq_true, decide_eq_true_eq] at hp
    obtain ⟨v, vs', d, ds', p, q, rfl, rfl, rfl, h1, h2⟩ := trodAll_cons h
    refine ⟨p, q, ?_, ih hp.2 h2 (fun x hx => hlt x (by simp [hx])) (fun x hx => hsp x (by simp [hx])), rfl⟩
    exact WideElems.Trod_stays hl hp.1.1 hp.1.2 h1 (fun x hx => hs.at (hlt x (by simp [hx]))) (fun x hx => hsp x (by simp [hx]))

theorem kept_same (hs : Same W W') (may : MemPlace → Prop) : W.keptBut W' may := by
  refine ⟨hs.os, hs.output, fun i hi => ?_⟩
  rw [hs.heap i hi, Array.getElem?_eq_getElem hi]
  cases h : W.heap[i] with
  | cells c t fr => exact ⟨rfl, rfl, rfl, fun _ _ => rfl⟩
  | map es clock => exact .inr ⟨rfl, rfl⟩
  | _ => rfl

/-- What a law's row owes behind the call. -/
theorem post_true {fn : Func} {s : ChangeSpec} {apart fresh handsOn : Bool} {args : Array Value} {ds gs : List (DataW H)} {before : List MemPlace} {tb : TypeId}
    (hl : laidOutB P = true) (hp : fn.params.toList.all (fun t => P.readableRec t && decide (t < P.types.size)) = true)
    (hr : fn.resultTypes = #[tb]) (hb : P.underlying tb = some .bool) (hv : s.vars = [])
    (hs : s.fn H ds = { results := [.lit (.bool true)], args := ds })
    (hW : DataW.Whole enc P fn.params.toList s.vars apart W args.toList ds gs before) (hsame : Same W W') :
    s.post enc P fn apart fresh handsOn false W args (.bool true) W' := by
  have hW' := hW
  obtain ⟨p, q, h1, h2, rfl, _, _⟩ := hW
  rw [hv] at h2
  obtain ⟨rfl, rfl⟩ := trodVars_none h2
  have hlt : ∀ x ∈ p, x.block < W.heap.size := fun x hx => hW'.lt x (by simp [hx])
  refine ⟨ds, [], p ++ [], [], p, [], hW', ?_, ?_, ?_, kept_same hsame _, fun h => by cases h⟩
  · rw [List.append_nil, hs, hr]
    exact trodAll_mk1 (shut_bool hb true)
  · rw [List.append_nil, hs]
    exact trodAll_same hl hp hsame h1 hlt (fun x hx => by simpa using hlt x hx)
  · rw [hv, List.append_nil, hs]
    rfl

end
end Go.Sx

/-! What a row's reading of an argument says: a value of plain data. -/
namespace Go.Sx
open Go Go.RowKit Go.ChangeShapes Go.WideShapes Go.ChangeAt


section
variable {H : Type} {enc : TypeId × Value → H} {P : Program} {W : World} {base : Nat} {ρ : Nat → Value} {Hh : AHeap}

/-! ### values of an argument's type -/
def RK.ck : RK → CK
  | .ints k => .ints k
  | .strs => .strs
  | .bools => .bools
  | .typ cs => .rows cs
def B.ck : B → CK
  | .int k => .int k
  | .bool => .bool
  | .str => .str
  | .row r _ => r.ck
  | .rrow r _ => r.ck
  | .arr k n => .arr k n
  | .fn => .bool
def RK.of : (r : RK) → r.ck.V → r.V
  | .ints _, y => y
  | .strs, y => y
  | .bools, y => y
  | .typ _, y => y
def B.of : (b : B) → b.ck.V → b.V
  | .int _, y => y
  | .bool, y => y
  | .str, y => y
  | .row r _, y => r.of y
  | .rrow r _, y => r.of y
  | .arr _ _, y => y
  | .fn, _ => (0 : Nat)
def BL.of : (bs : List B) → CL (bs.map B.ck) → BL bs
  | [], _ => ()
  | b :: bs, y => (b.of y.1, BL.of bs y.2)

/-- A contract that says 'true', under what the reading gives: the call's end. -/
theorem calls_true_pre {Z : Glob} {f : FuncId} {ts : List Ty} {pre : AL ts → List Prop} (h : FnOk P Z f ts [.b .bool] pre (fun _ => (true, ()))) (hz : Z.ok W) {x : AL ts} {vs : List Value} (hp : Needs (pre x))
    (hd : DenL (fun _ => undef) (fun _ => none) (fun _ => False) W (AL.av ts x) vs) : Calls P f vs.toArray W fun e W' => e = .returned (.bool true) ∧ Same W W' := by
  have e0 : Hot (fun _ => undef) (fun _ => none) (fun _ => False) = fun _ => False := by
    funext b
    refine propext ⟨fun h => ?_, False.elim⟩
    rcases h with ⟨id, o, ho, _⟩ | h
    · cases ho
    · exact h
  refine (h x (AL.okL hd) hp (fun _ => False) W vs (fun _ h => h.elim) hz (by rw [e0]; exact hd)).mono ?_
  rintro e W' ⟨v, rfl, ρ', _, h2, _, h4⟩
  have h5 : DenV ρ' (lk []) (Hot ρ' (lk []) fun _ => False) W' (.s (.bool true)) v := h2
  have h6 := DenS_of_V (by simp) h5
  cases h6
  exact ⟨rfl, h4.os, h4.output, fun b hb => h4.heap b hb (fun ⟨id, o, ho, _⟩ => by cases ho)⟩
end
end Go.Sx

/-! The last facts of a row whose program is a cut: its head word is read once. -/
namespace Go.Sx
open Go

theorem make_cut (P : Program) (r : List (List Char)) (h : behindMainWord (wordsSigns P.initOrder.toList) = [(Char.ofNat 99), (Char.ofNat 117), (Char.ofNat 116)] :: r) : P.make = some .cut := by
  unfold Program.make; rw [h]; kernel_rfl
theorem lifts_cut (P : Program) (r : List (List Char)) (h : behindMainWord (wordsSigns P.initOrder.toList) = [(Char.ofNat 99), (Char.ofNat 117), (Char.ofNat 116)] :: r) (hs : stripLifts liftWords ([(Char.ofNat 99), (Char.ofNat 117), (Char.ofNat 116)] :: r) = ([], [(Char.ofNat 99), (Char.ofNat 117), (Char.ofNat 116)] :: r)) : P.liftsFinal = false := by
  unfold Program.liftsFinal Program.headLifts; rw [h]; dsimp only; rw [hs]; kernel_rfl
theorem enter_cut (P : Program) (r : List (List Char)) (h : behindMainWord (wordsSigns P.initOrder.toList) = [(Char.ofNat 99), (Char.ofNat 117), (Char.ofNat 116)] :: r) (hs : stripLifts liftWords ([(Char.ofNat 99), (Char.ofNat 117), (Char.ofNat 116)] :: r) = ([], [(Char.ofNat 99), (Char.ofNat 117), (Char.ofNat 116)] :: r))
    (h1 : P.laysLater = false) (h2 : P.bearsReflect = false) (h3 : P.doorFits [] = true) : P.mayEnter = true := by
  unfold Program.mayEnter; rw [h]; dsimp only; rw [hs, h1, h2]; dsimp only; rw [h3]; kernel_rfl

def joinedRest (P : Program) (f : FuncId) (fn : Func) (s : ChangeSpec) (c : OpenClaim) : {b : Bool // P.mayEnter = true → P.liftsFinal = false → P.make = some .cut → joinedFacts P f fn s c = b} := by
  refine ⟨?b, fun h1 h2 h3 => ?h⟩
  case h =>
    unfold joinedFacts
    rw [h1, h2, h3]

theorem joined_cut {P : Program} {f : FuncId} {fn : Func} {s : ChangeSpec} {c : OpenClaim} (r : List (List Char)) (h : behindMainWord (wordsSigns P.initOrder.toList) = [(Char.ofNat 99), (Char.ofNat 117), (Char.ofNat 116)] :: r) (hs : stripLifts liftWords ([(Char.ofNat 99), (Char.ofNat 117), (Char.ofNat 116)] :: r) = ([], [(Char.ofNat 99), (Char.ofNat 117), (Char.ofNat 116)] :: r))
    (h1 : P.laysLater = false) (h2 : P.bearsReflect = false) (h3 : P.doorFits [] = true) (hr : (joinedRest P f fn s c).1 = true) : joinedFacts P f fn s c = true :=
  ((joinedRest P f fn s c).2 (enter_cut P r h hs h1 h2 h3) (lifts_cut P r h hs) (make_cut P r h)).trans hr
end Go.Sx

/- The head of the program's text, read once. -/
/-! The head. -/
namespace Go.Proofs.Ytlpahmfhaljjkaa.Hd
set_option maxRecDepth 100000 in
def ioL : List Char := [104, 97, 114, 110, 101, 115, 115, 32, 98, 50, 56, 97, 98, 97, 49, 57, 100, 55, 100, 99, 54, 50, 57, 101, 49, 48, 56, 56, 50, 51, 100, 55, 56, 56, 55, 56, 54, 49, 56, 56, 54, 54, 55, 57, 51, 52, 55, 53, 101, 98, 102, 52, 49, 48, 101, 50, 99, 98, 48, 101, 53, 51, 98, 53, 98, 49, 51, 101, 55, 51, 102, 56, 32, 99, 117, 116, 32, 97, 116, 32, 99, 97, 108, 108, 98, 111, 97, 114, 100, 47, 99, 97, 108, 108, 98, 111, 97, 114, 100, 108, 97, 119, 49, 55, 46, 71, 114, 97, 112, 104, 82, 101, 97, 99, 104, 101, 100, 32, 99, 97, 108, 108, 98, 111, 97, 114, 100, 47, 99, 97, 108, 108, 98, 111, 97, 114, 100, 108, 97, 119, 49, 55, 46, 71, 114, 97, 112, 104, 78, 97, 109, 101, 115].map Char.ofNat
set_option maxRecDepth 100000 in
theorem ioE : Try.prog.initOrder = String.ofList ioL := by kernel_rfl
theorem ioT : Try.prog.initOrder.toList = ioL := by rw [ioE]; exact String.toList_ofList
def restL : List (List Char) := (wordsSigns ioL).drop 3
theorem hb : behindMainWord (wordsSigns Try.prog.initOrder.toList) = [Char.ofNat 99, Char.ofNat 117, Char.ofNat 116] :: restL := by rw [ioT]; kernel_rfl
theorem a1 : Try.prog.laysLater = false := by kernel_rfl
theorem a2 : Try.prog.bearsReflect = false := by kernel_rfl
theorem a3 : stripLifts liftWords ([Char.ofNat 99, Char.ofNat 117, Char.ofNat 116] :: restL) = ([], [Char.ofNat 99, Char.ofNat 117, Char.ofNat 116] :: restL) := by kernel_rfl
theorem a5 : Try.prog.doorFits [] = true := by kernel_rfl
theorem own : ownKnob Try.prog.godebug = none := by kernel_rfl
theorem laidOut : laidOutB Try.prog = true := by kernel_rfl
end Go.Proofs.Ytlpahmfhaljjkaa.Hd

/-! Contracts of functions that are handed own objects: what they find in them, and what they leave. -/
namespace Go.Sx
open Go

/-- By plain data: the arguments over objects 0, 1, .., what these bear, what is owed, what they bear behind the call (new ones behind them), and the answer. -/
structure Spec (X : Type) where
  args : X → List AV
  heap : X → List AObj
  pre : X → List Prop
  outH : X → List AObj
  out : X → AV

def FnS (P : Program) (Z : Glob) (f : FuncId) {X : Type} (S : Spec X) : Prop :=
  ∀ x, Needs (S.pre x) → ∀ (ρ : Nat → Value) (G : Nat → Prop) (w : World) (vs : List Value), ZAt Z ρ (lk (S.heap x)) w → Sat ρ (lk (S.heap x)) G w →
    DenL ρ (lk (S.heap x)) (Hot ρ (lk (S.heap x)) G) w (S.args x) vs →
    Calls P f vs.toArray w fun e w' => ∃ v, e = .returned v ∧ Good ρ (lk (S.heap x)) G w (lk (S.outH x)) (S.out x) v w'

/-- The run's end, seen by a Norm. -/
def EndS {X : Type} (S : Spec X) (x : X) (L : List AObj) (r : AV) : Prop :=
  ∃ N : Norm, (S.heap x).length ≤ N.m ∧ N.run ⟨[r], L, [], {}⟩ = some ⟨[S.out x], S.outH x, [], {}⟩

def RM.bind {α β : Type} : RM α → (α → RM β) → RM β
  | .ret a, k => k a
  | .look id f, k => .look id fun o => (f o).bind k
  | .fail w, _ => .fail w

def lookAll : List Nat → (List AObj → RM Res) → RM Res
  | [], k => k []
  | i :: is, k => .look i fun o => match o with
    | some o => lookAll is fun os => k (o :: os)
    | none => .fail "no object"

/-- The callee's numbers, seen by the caller. -/
def back (σ : List Nat) (base n : Nat) (j : Nat) : Option Nat := bif j.blt σ.length then σ[j]? else bif j.blt n then some (base + (j - σ.length)) else none

/-- The summary: M tells the data and the objects; that it is right is owed. -/
def sumS {X : Type} (S : Spec X) (M : List AV → RM (X × List Nat)) : Nat → List AV → RM Res := fun base args =>
  (M args).bind fun (x, σ) => bif nodupB σ then lookAll σ fun os =>
    (match allM (rnO (back σ base (S.outH x).length)) (S.outH x), rn (back σ base (S.outH x).length) 20 (S.out x) with
     | some L', some r => bif σ.length.ble L'.length then
        .ret ⟨(allM (rn (idx σ) 20) args = some (S.args x)) :: (allM (rnO (idx σ)) os = some (S.heap x)) :: S.pre x, σ.zip L', L'.drop σ.length, fun _ => r⟩ else .fail "sum: objects are gone"
     | _, _ => .fail "sum: names")
   else .fail "sum: one object twice"

section
variable {ρ ρ' : Nat → Value} {H H' : AHeap} {G O O' : Nat → Prop} {w w' : World} {P : Program} {Z : Glob} {X : Type} {S : Spec X}

theorem RM.bind_eval {α β : Type} : ∀ {m : RM α} {k : α → RM β} {q : β}, (m.bind k).eval H = some q → ∃ a, m.eval H = some a ∧ (k a).eval H = some q
  | .ret a, k, q, h => ⟨a, rfl, h⟩
  | .look id f, k, q, h => by
    simp only [RM.bind, RM.eval] at h ⊢
    exact RM.bind_eval h
  | .fail w, k, q, h => by simp [RM.bind, RM.eval] at h

theorem lookAll_eval : ∀ {is : List Nat} {k : List AObj → RM Res} {q : Res}, (lookAll is k).eval H = some q → ∃ os : List AObj, (k os).eval H = some q ∧ os.length = is.length ∧ ∀ (j id : Nat), is[j]? = some id → H id = os[j]? ∧ os[j]?.isSome = true
  | [], k, q, h => ⟨[], h, rfl, fun j id hj => by simp at hj⟩
  | i :: is, k, q, h => by
    simp only [lookAll, RM.eval] at h
    split at h
    · rename_i o ho
      obtain ⟨os, h1, h2, h3⟩ := lookAll_eval h
      refine ⟨o :: os, h1, by simp [h2], fun j id hj => ?_⟩
      cases j with
      | zero => simp only [List.getElem?_cons_zero, Option.some.injEq] at hj; subst hj; exact ⟨by simpa using ho, rfl⟩
      | succ j => simpa using h3 j id (by simpa using hj)
    · simp [RM.eval] at h

theorem fnS_of_safe {f : FuncId} {fn : Func} (hf : P.funcs[f]? = some fn) (hb : fn.body.isSome = true) (hn : ∀ x, (S.args x).length ≤ fn.ntmps)
    (h : ∀ x, Needs (S.pre x) → ∀ X : Ctx, X.H = lk (S.heap x) → ZCtx Z X → Safe P f X (EndS S x) (start fn (S.args x) (S.heap x))) : FnS P Z f S := by
  intro x hpre ρ G w vs hz hs hd
  obtain ⟨c, hb⟩ := Option.isSome_iff_exists.1 hb
  have hlenV : vs.length = (S.args x).length := by
    have : ∀ {azs : List AV} {vs : List Value}, DenL ρ (lk (S.heap x)) (Hot ρ (lk (S.heap x)) G) w azs vs → vs.length = azs.length := by
      intro azs
      induction azs with
      | nil => intro vs h; rw [DenL_nil.1 h]; rfl
      | cons a azs ih => intro vs h; obtain ⟨v, rest, rfl, _, h2⟩ := DenL_cons.1 h; simp [ih h2]
    exact this hd
  refine (calls_of_goes (R := Post ⟨ρ, lk (S.heap x), G, w, [], fun _ _ => False⟩ (EndS S x)) hf hb ?_).mono ?_
  · have := (h x hpre ⟨ρ, lk (S.heap x), G, w, [], fun _ _ => False⟩ rfl hz).goes rfl rfl (ρ := ρ) (a := { tmps := vs.toArray ++ Array.replicate (fn.ntmps - vs.toArray.size) undef, defers := [] }) (w := w)
    simp only [start, hb, Option.getD_some] at this
    refine this ⟨hs, ?_, fun t => ?_, rfl, Step.refl _ _ _ _, ⟨rfl, rfl, rfl, fun _ _ _ => rfl⟩, fun x hx => by cases hx⟩
    · simp [hlenV]
    · have e1 : ∀ (azs : List AV) (vs : List Value), DenL ρ (lk (S.heap x)) (Hot ρ (lk (S.heap x)) G) w azs vs → ∀ t, DenV ρ (lk (S.heap x)) (Hot ρ (lk (S.heap x)) G) w (azs.getD t (.tup [])) (vs.getD t undef) := by
        intro azs
        induction azs with
        | nil => intro vs h t; rw [DenL_nil.1 h]; simp only [List.getD, List.getElem?_nil, Option.getD_none]; exact den_undef
        | cons a azs ih =>
          intro vs h t
          obtain ⟨v, rest, rfl, h1, h2⟩ := DenL_cons.1 h
          cases t with
          | zero => simpa using h1
          | succ t => simpa using ih rest h2 t
      have h1 := e1 _ _ hd t
      simp only [List.getD_eq_getElem?_getD, List.getElem?_append, List.getElem?_replicate, Array.getD_eq_getD_getElem?, Array.getElem?_append, List.getElem?_toArray, Array.getElem?_replicate, List.size_toArray] at h1 ⊢
      rw [hlenV]
      split
      · rename_i ht
        have hv : vs[t]? = some vs[t] := List.getElem?_eq_getElem (by omega)
        have ha : (S.args x)[t]? = some (S.args x)[t] := List.getElem?_eq_getElem ht
        rw [hv, ha] at h1 ⊢
        exact h1
      · split
        · exact den_undef
        · unfold DenV; trivial
  · rintro e w' (⟨v, rfl, L, r, ⟨N, hm, hN⟩, ρ1, g1, g2, g3, g4⟩ | hp)
    rotate_left
    exact False.elim hp
    refine ⟨v, rfl, ?_⟩
    have r0 : Rep ⟨ρ, lk (S.heap x), G, w, [], fun _ _ => False⟩ ρ1 ⟨[r], L⟩ { tmps := #[v], defers := [] } w' := by
      refine ⟨g1, rfl, fun t => ?_, rfl, g3, g4, fun x hx => by cases hx⟩
      cases t with
      | zero => exact g2
      | succ t => simp only [List.getD, Array.getD]; simp; unfold DenV; trivial
    have h0 : ∀ id, N.m ≤ id → (⟨ρ, lk (S.heap x), G, w, [], fun _ _ => False⟩ : Ctx).H id = none := fun id hid => by simp [lk]; omega
    unfold Norm.run at hN
    split at hN
    · rename_i t1 L1 h1
      simp only [] at hN
      split at hN
      · rename_i t2 L2 h2
        simp only [Option.some.injEq, Cfg.mk.injEq, and_true] at hN
        obtain ⟨rfl, rfl⟩ := hN
        obtain ⟨ρ1, r1⟩ := Rep.compact h0 h1 (Rep.keepOnly N.keep r0)
        obtain ⟨ρ2, r2⟩ := Rep.nilSlots N.nils r1
        obtain ⟨ρ3, r3⟩ := Rep.nilCells N.cells r2
        obtain ⟨ρ4, r4⟩ := Rep.compact h0 h2 r3
        exact ⟨ρ4, r4.sat, (by have h := r4.den 0; exact h), r4.from_, r4.frm⟩
      · cases hN
    · cases hN

theorem find_zip : ∀ {σ : List Nat} {L : List AObj} {j : Nat}, σ.Nodup → σ.length ≤ L.length →
    (∀ (i : Nat), σ[i]? = some j → findUp (σ.zip L) j = L[i]?) ∧ (j ∉ σ → findUp (σ.zip L) j = none)
  | [], L, j, hn, hl => ⟨fun i h => by simp at h, fun _ => rfl⟩
  | x :: xs, [], j, hn, hl => by simp at hl
  | x :: xs, l :: ls, j, hn, hl => by
    obtain ⟨h1, h2⟩ := find_zip (σ := xs) (L := ls) (j := j) (List.nodup_cons.1 hn).2 (by simpa using hl)
    constructor
    · intro i hi
      simp only [List.zip_cons_cons, findUp]
      cases i with
      | zero =>
        simp only [List.getElem?_cons_zero, Option.some.injEq] at hi
        subst hi
        rw [h2 (List.nodup_cons.1 hn).1]
        simp
      | succ i =>
        simp only [List.getElem?_cons_succ] at hi ⊢
        rw [h1 i hi]
        have hlt : i < xs.length := (List.getElem?_eq_some_iff.1 hi).1
        simp only [List.length_cons] at hl
        rw [List.getElem?_eq_getElem (show i < ls.length by omega)]
    · intro hj
      simp only [List.mem_cons, not_or] at hj
      simp only [List.zip_cons_cons, findUp]
      rw [h2 hj.2]
      simp [hj.1]

theorem FnS.sum {f : FuncId} (h : FnS P Z f S) (M : List AV → RM (X × List Nat)) : SOk1 P Z f (sumS S M) := by
  intro base args H q hq hn ρ G w vs hfresh hz hs hd
  unfold sumS at hq
  obtain ⟨⟨x, σ⟩, _, hq⟩ := RM.bind_eval hq
  simp only [Bool.cond_eq_ite] at hq
  split at hq
  · rename_i hnd
    have hnd := nodupB_spec hnd
    obtain ⟨os, hq, hlen, hos⟩ := lookAll_eval hq
    split at hq
    · rename_i L' r hL' hr
      split at hq
      · rename_i hle
        have hle := Nat.le_of_ble_eq_true hle
        simp only [RM.eval, Option.some.injEq] at hq
        subst hq
        obtain ⟨hargs, hheap, hpre⟩ := hn
        simp only [] at hfresh ⊢
        -- the view
        have hin : ∀ {j : Nat} {o' : AObj}, (S.heap x)[j]? = some o' → ∃ (id : Nat) (o : AObj), σ[j]? = some id ∧ H id = some o ∧ rnO (idx σ) o = some o' := by
          intro j o' ho'
          have hl := allM_length hheap
          have hj : j < os.length := by rw [← hl]; exact (List.getElem?_eq_some_iff.1 ho').1
          obtain ⟨b, g1, g2⟩ := allM_get hheap j os[j] (List.getElem?_eq_getElem hj)
          rw [ho'] at g2
          cases g2
          have hj2 : j < σ.length := by omega
          have := (hos j σ[j] (List.getElem?_eq_getElem hj2)).1
          exact ⟨σ[j], os[j], List.getElem?_eq_getElem hj2, by rw [this, List.getElem?_eq_getElem hj], g1⟩
        have hout : ∀ {j id : Nat}, σ[j]? = some id → ∃ o o', H id = some o ∧ rnO (idx σ) o = some o' ∧ (S.heap x)[j]? = some o' := by
          intro j id hj
          obtain ⟨g1, g2⟩ := hos j id hj
          obtain ⟨o, ho⟩ := Option.isSome_iff_exists.1 g2
          obtain ⟨b, g3, g4⟩ := allM_get hheap j o ho
          exact ⟨o, b, g1.trans ho, g3, g4⟩
        have hpull : ∀ {j id : Nat}, σ[j]? = some id → pull σ ρ j = ρ id := fun h1 => by simp [pull, List.getD, h1]
        have hown : ∀ {b : Nat}, Own (pull σ ρ) (lk (S.heap x)) b → ∃ (j id : Nat) (o : AObj), σ[j]? = some id ∧ H id = some o ∧ o.alive = true ∧ blk (ρ id) = some b := by
          rintro b ⟨j, o', ho', ha, hb⟩
          obtain ⟨id, o, h1, h2, h3⟩ := hin ho'
          rw [hpull h1] at hb
          exact ⟨j, id, o, h1, h2, by rw [← (rnO_alive h3).1]; exact ha, hb⟩
        let G' : Nat → Prop := fun b => Hot ρ H G b ∧ ¬ Own (pull σ ρ) (lk (S.heap x)) b
        have E : Emb (idx σ) ρ H (Hot ρ H G) (pull σ ρ) (lk (S.heap x)) (Hot (pull σ ρ) (lk (S.heap x)) G') := by
          refine ⟨fun i j hij => ?_, fun b hb => ?_⟩
          · have h1 := idx_spec hij
            refine ⟨hpull h1, fun o ho => ?_⟩
            obtain ⟨o1, o', h2, h3, h4⟩ := hout h1
            rw [ho] at h2
            cases h2
            exact ⟨o', h4, (rnO_alive h3).2⟩
          · rcases hb with hb | hb
            · obtain ⟨j, id, o, h1, h2, h3, h4⟩ := hown hb
              exact .inl ⟨id, o, h2, h3, h4⟩
            · exact hb.1
        have hsat : Sat (pull σ ρ) (lk (S.heap x)) G' w := by
          refine ⟨fun j o' ho' => ?_, fun i j oi oj b hi hj ai aj bi bj => ?_, fun b hb hG => hG.2 hb, fun b hb => hot_lt hs hb.1⟩
          · obtain ⟨id, o, h1, h2, h3⟩ := hin ho'
            rw [hpull h1]
            exact rnO_sat E h3 (hs.obj id o h2)
          · obtain ⟨id, o, h1, h2, h3⟩ := hin hi
            obtain ⟨id', o', h1', h2', h3'⟩ := hin hj
            rw [hpull h1] at bi
            rw [hpull h1'] at bj
            have := hs.inj id id' o o' b h2 h2' (by rw [← (rnO_alive h3).1]; exact ai) (by rw [← (rnO_alive h3').1]; exact aj) bi bj
            subst this
            obtain ⟨hi1, hi2⟩ := List.getElem?_eq_some_iff.1 h1
            obtain ⟨hj1, hj2⟩ := List.getElem?_eq_some_iff.1 h1'
            exact (List.getElem_inj hnd).1 (hi2.trans hj2.symm)
        have hz' : ZAt Z (pull σ ρ) (lk (S.heap x)) w := ⟨hz.1, fun b hb ho => by
          obtain ⟨j, id, o, h1, h2, h3, h4⟩ := hown ho
          exact hz.2 b hb ⟨id, o, h2, h3, h4⟩⟩
        have hd' := rnL_den E hargs hd
        refine (h x hpre (pull σ ρ) G' w vs hz' hsat hd').mono ?_
        rintro e w' ⟨v, he, ρ1, g1, g2, g3, g4⟩
        refine ⟨v, he, ?_⟩
        -- back again
        have hlenL := allM_length hL'
        generalize hn0 : (S.outH x).length = n0 at *
        have hnew : ∀ {j : Nat}, σ.length ≤ j → j < n0 → H (base + (j - σ.length)) = none := by
          intro j h1 h2
          exact hfresh (j - σ.length) (by simp; omega)
        have hnin : ∀ {id : Nat} {o : AObj}, H id = some o → ¬ (base ≤ id ∧ id < base + (L'.length - σ.length)) := by
          intro id o ho hc
          have := hnew (j := σ.length + (id - base)) (by omega) (by omega)
          rw [show base + (σ.length + (id - base) - σ.length) = id from by omega, ho] at this
          cases this
        let ρ2 : Nat → Value := fun id => if base ≤ id ∧ id < base + (L'.length - σ.length) then ρ1 (σ.length + (id - base)) else ρ id
        let H2 := resH H (σ.zip L') base (L'.drop σ.length)
        have hL1 : ∀ {j : Nat} {o2 : AObj}, L'[j]? = some o2 → ∃ o, (S.outH x)[j]? = some o ∧ rnO (back σ base n0) o = some o2 := by
          intro j o2 h1
          have hj : j < (S.outH x).length := by have := (List.getElem?_eq_some_iff.1 h1).1; omega
          obtain ⟨b, h2, h3⟩ := allM_get hL' j (S.outH x)[j] (List.getElem?_eq_getElem hj)
          rw [h1] at h3
          cases h3
          exact ⟨_, List.getElem?_eq_getElem hj, h2⟩
        have hρσ : ∀ {j id : Nat}, σ[j]? = some id → ρ2 id = ρ id ∧ ρ1 j = ρ id := by
          intro j id hj
          obtain ⟨o, o', h1, h2, h3⟩ := hout hj
          refine ⟨?_, ?_⟩
          · simp only [ρ2]; rw [if_neg (hnin h1)]
          · rw [g3.rho j o' h3, hpull hj]
        have hH2a : ∀ {j id : Nat}, σ[j]? = some id → H2 id = L'[j]? := by
          intro j id hj
          have hlt : j < σ.length := (List.getElem?_eq_some_iff.1 hj).1
          have := (find_zip (σ := σ) (L := L') (j := id) hnd hle).1 j hj
          simp only [H2, resH, this]
          rw [List.getElem?_eq_getElem (show j < L'.length by omega)]
        have hni : ∀ {id : Nat}, (base ≤ id ∧ id < base + (L'.length - σ.length)) → id ∉ σ := by
          intro id hc hm
          obtain ⟨i, hi⟩ := List.getElem?_of_mem hm
          obtain ⟨o, _, h3, _⟩ := hout hi
          exact hnin h3 hc
        have hH2b : ∀ {id : Nat}, (base ≤ id ∧ id < base + (L'.length - σ.length)) → H2 id = L'[σ.length + (id - base)]? := by
          intro id hc
          simp only [H2, resH, (find_zip (σ := σ) (L := L') hnd hle).2 (hni hc)]
          rw [if_pos (by simp only [List.length_drop]; exact hc)]
          simp only [List.getElem?_drop]
        have hH2c : ∀ {id : Nat}, id ∉ σ → ¬ (base ≤ id ∧ id < base + (L'.length - σ.length)) → H2 id = H id := by
          intro id h1 h2
          simp only [H2, resH, (find_zip (σ := σ) (L := L') hnd hle).2 h1]
          rw [if_neg (by simp only [List.length_drop]; exact h2)]
        have cls : ∀ {id : Nat} {o2 : AObj}, H2 id = some o2 → (∃ (j : Nat) (o : AObj), (S.outH x)[j]? = some o ∧ rnO (back σ base n0) o = some o2 ∧ ρ2 id = ρ1 j ∧ back σ base n0 j = some id) ∨ (id ∉ σ ∧ H id = some o2 ∧ ρ2 id = ρ id) := by
          intro id o2 ho
          by_cases hm : id ∈ σ
          · obtain ⟨j, hj⟩ := List.getElem?_of_mem hm
            rw [hH2a hj] at ho
            obtain ⟨o, h1, h2⟩ := hL1 ho
            obtain ⟨h3, h4⟩ := hρσ hj
            exact .inl ⟨j, o, h1, h2, by rw [h3, h4], by simp only [back, blt_t (List.getElem?_eq_some_iff.1 hj).1, cond_true]; exact hj⟩
          · by_cases hc : base ≤ id ∧ id < base + (L'.length - σ.length)
            · rw [hH2b hc] at ho
              obtain ⟨o, h1, h2⟩ := hL1 ho
              refine .inl ⟨_, o, h1, h2, by simp only [ρ2]; rw [if_pos hc], ?_⟩
              simp only [back, blt_f (show σ.length ≤ σ.length + (id - base) by omega), cond_false, blt_t (show σ.length + (id - base) < n0 by omega), cond_true]
              congr 1; omega
            · rw [hH2c hm hc] at ho
              exact .inr ⟨hm, ho, by simp only [ρ2]; rw [if_neg hc]⟩
        have view_not : ∀ {id b : Nat} {o : AObj}, id ∉ σ → H id = some o → o.alive = true → blk (ρ id) = some b → ¬ Own (pull σ ρ) (lk (S.heap x)) b := by
          intro id b o hm ho ha hb hv
          obtain ⟨j, id', o', h1, h2, h3, h4⟩ := hown hv
          have := hs.inj id id' o o' b ho h2 ha h3 hb h4
          subst this
          exact hm (List.mem_of_getElem? h1)
        have g_in : ∀ {b : Nat}, G b → G' b := fun {b} hb => ⟨.inr hb, fun hv => by
          obtain ⟨j, id', o', h1, h2, h3, h4⟩ := hown hv
          exact hs.apart b ⟨id', o', h2, h3, h4⟩ hb⟩
        have own2 : ∀ {b : Nat}, Own ρ2 H2 b → Own ρ1 (lk (S.outH x)) b ∨ (Own ρ H b ∧ G' b) := by
          rintro b ⟨id, o2, ho, ha, hb⟩
          rcases cls ho with ⟨j, o, h1, h2, h3, _⟩ | ⟨h1, h2, h3⟩
          · exact .inl ⟨j, o, h1, by rw [← (rnO_alive h2).1]; exact ha, by rw [← h3]; exact hb⟩
          · rw [h3] at hb
            exact .inr ⟨⟨id, o2, h2, ha, hb⟩, .inl ⟨id, o2, h2, ha, hb⟩, view_not h1 h2 ha hb⟩
        have E2 : Emb (back σ base n0) ρ1 (lk (S.outH x)) (Hot ρ1 (lk (S.outH x)) G') ρ2 H2 (Hot ρ2 H2 G) := by
          refine ⟨fun i j hij => ?_, fun b hb => ?_⟩
          · simp only [back, Bool.cond_eq_ite] at hij
            split at hij
            · rename_i hlt
              obtain ⟨h3, h4⟩ := hρσ hij
              refine ⟨by rw [h3, h4], fun o ho => ?_⟩
              obtain ⟨b, h5, h6⟩ := allM_get hL' i o ho
              exact ⟨b, by rw [hH2a hij]; exact h6, (rnO_alive h5).2⟩
            · rename_i hge
              split at hij
              · rename_i hlt
                have hlt : i < n0 := Nat.le_of_ble_eq_true hlt
                have hge : σ.length ≤ i := by
                  rcases Nat.lt_or_ge i σ.length with h5 | h5
                  · exact absurd (blt_t h5) hge
                  · exact h5
                simp only [Option.some.injEq] at hij
                have hc : base ≤ j ∧ j < base + (L'.length - σ.length) := by omega
                have hi : σ.length + (j - base) = i := by omega
                refine ⟨by simp only [ρ2]; rw [if_pos hc, hi], fun o ho => ?_⟩
                obtain ⟨b, h5, h6⟩ := allM_get hL' i o ho
                exact ⟨b, by rw [hH2b hc, hi]; exact h6, (rnO_alive h5).2⟩
              · cases hij
          · rcases hb with hb | hb
            · exact (own2 hb).imp (fun h => h) (fun h => h.2)
            · exact .inr (g_in hb)
        have st : Step ρ H (Hot ρ H G) w ρ2 H2 (Hot ρ2 H2 G) w' := by
          refine ⟨fun id o ho => by simp only [ρ2]; rw [if_neg (hnin ho)], fun id o ho => ?_, fun b hb => ?_, fun b hb hO => g3.heap b hb (fun hv => hO (E.hot b hv)), g3.size⟩
          · by_cases hm : id ∈ σ
            · obtain ⟨j, hj⟩ := List.getElem?_of_mem hm
              obtain ⟨o1, o', h1, h2, h3⟩ := hout hj
              rw [ho] at h1
              cases h1
              obtain ⟨o'', h4, h5⟩ := g3.keep j o' h3
              obtain ⟨o3, h6, h7⟩ := allM_get hL' j o'' h4
              refine ⟨o3, by rw [hH2a hj]; exact h7, fun c' e' hc => ?_⟩
              obtain ⟨c, e1, h8, h9, h10⟩ := h5 c' e' ((rnO_alive h6).2 c' e' hc)
              exact ⟨c, e1, (rnO_alive h2).2 c e1 h8, h9, h10⟩
            · exact ⟨o, by rw [hH2c hm (hnin ho)]; exact ho, fun c' e' hc => ⟨c', e', hc, rfl, rfl⟩⟩
          · rcases g3.hot b (E2.hot b hb) with h5 | h5
            · exact .inl (E.hot b h5)
            · exact .inr h5
        refine ⟨ρ2, ⟨fun id o2 ho => ?_, fun i j oi oj b hi hj ai aj bi bj => ?_, fun b hb hG => ?_, fun b hb => Nat.lt_of_lt_of_le (hs.low b hb) g3.size⟩, (rn_den E2 20).1 _ _ _ hr g2, st, ⟨g4.os, g4.tape, g4.output, fun b hb hO => g4.heap b hb (fun hv => ?_)⟩⟩
        · rcases cls ho with ⟨j, o, h1, h2, h3, _⟩ | ⟨h1, h2, h3⟩
          · rw [h3]
            exact rnO_sat E2 h2 (g1.obj j o h1)
          · rw [h3]
            refine (hs.obj id o2 h2).step st (fun b ha hb => ?_)
            exact g4.heap b (own_lt hs ⟨id, o2, h2, ha, hb⟩) (view_not h1 h2 ha hb)
        · have mixed : ∀ {b : Nat}, Own ρ1 (lk (S.outH x)) b → ∀ {id : Nat} {o : AObj}, id ∉ σ → H id = some o → o.alive = true → blk (ρ id) = some b → False := by
            intro b h1 id o h2 h3 h4 h5
            have hG : G' b := ⟨.inl ⟨id, o, h3, h4, h5⟩, view_not h2 h3 h4 h5⟩
            exact g1.apart b h1 hG
          rcases cls hi with ⟨j1, o1, p1, p2, p3, p4⟩ | ⟨p1, p2, p3⟩
          · rw [p3] at bi
            have a1 : o1.alive = true := by rw [← (rnO_alive p2).1]; exact ai
            rcases cls hj with ⟨j2, o2, q1, q2, q3, q4⟩ | ⟨q1, q2, q3⟩
            · rw [q3] at bj
              have := g1.inj j1 j2 o1 o2 b p1 q1 a1 (by rw [← (rnO_alive q2).1]; exact aj) bi bj
              subst this
              rw [p4] at q4
              exact Option.some.inj q4
            · rw [q3] at bj
              exact (mixed ⟨j1, o1, p1, a1, bi⟩ q1 q2 aj bj).elim
          · rw [p3] at bi
            rcases cls hj with ⟨j2, o2, q1, q2, q3, q4⟩ | ⟨q1, q2, q3⟩
            · rw [q3] at bj
              exact (mixed ⟨j2, o2, q1, by rw [← (rnO_alive q2).1]; exact aj, bj⟩ p1 p2 ai bi).elim
            · rw [q3] at bj
              exact hs.inj i j oi oj b p2 q2 ai aj bi bj
        · rcases own2 hb with h5 | h5
          · exact g1.apart b h5 (g_in hG)
          · exact hs.apart b h5.1 hG
        · obtain ⟨j, id, o, h1, h2, h3, h4⟩ := hown hv
          exact hO ⟨id, o, h2, h3, h4⟩
      · simp [RM.eval] at hq
    · simp [RM.eval] at hq
  · simp [RM.eval] at hq
end
end Go.Sx

/-! A tree gone through by rules. -/
namespace Go.Sx
open Go
instance {k : IntKind} {n : Nat} : DecidableEq (CK.arr k n).V := inferInstanceAs (DecidableEq (List Int))
instance {k : IntKind} : DecidableEq (CK.ints k).V := inferInstanceAs (DecidableEq (List Int))
instance {k : IntKind} : DecidableEq (CK.int k).V := inferInstanceAs (DecidableEq Int)
instance : DecidableEq CK.str.V := inferInstanceAs (DecidableEq ByteArray)
instance : DecidableEq CK.bool.V := inferInstanceAs (DecidableEq Bool)
/-- A record of a row. -/
abbrev el {cs : List CK} (l : List (CL cs)) (i : Int) : CL cs := l.getD i.toNat (CL.d cs)
abbrev Slf {α : Type} (a : α) : Prop := a = a
section
variable {K : List AObj → AV → Prop} {C : Cfg → Prop} {t e : Tree} {p q : Prop}
theorem h_eq {α : Type} {a : α} (h : t.Holds K C) : (Tree.need (a = a) t).Holds K C := ⟨rfl, h⟩
theorem h_need (hp : p) (h : t.Holds K C) : (Tree.need p t).Holds K C := ⟨hp, h⟩
theorem h_dec {d : Decidable p} (h1 : p → t.Holds K C) (h2 : ¬ p → e.Holds K C) : (Tree.ite (@decide p d) t e).Holds K C := ⟨fun h => h1 (of_decide_eq_true h), fun h => h2 (of_decide_eq_false h)⟩
theorem h_beq {a b : Int} (h1 : a = b → t.Holds K C) (h2 : a ≠ b → e.Holds K C) : (Tree.ite (a == b) t e).Holds K C := ⟨fun h => h1 (by simpa using h), fun h => h2 (by simpa using h)⟩
theorem h_bne {a b : Int} (h1 : a ≠ b → t.Holds K C) (h2 : a = b → e.Holds K C) : (Tree.ite (a != b) t e).Holds K C := ⟨fun h => h1 (by simpa using h), fun h => h2 (by simpa using h)⟩
theorem h_not {b : Bool} (h : (Tree.ite b e t).Holds K C) : (Tree.ite (!b) t e).Holds K C := ⟨fun hb => h.2 (by simpa using hb), fun hb => h.1 (by simpa using hb)⟩
theorem h_tt (h : t.Holds K C) : (Tree.ite true t e).Holds K C := ⟨fun _ => h, fun x => (by cases x)⟩
theorem h_ff (h : e.Holds K C) : (Tree.ite false t e).Holds K C := ⟨fun x => (by cases x), fun _ => h⟩
theorem h_ite {b : Bool} (h1 : b = true → t.Holds K C) (h2 : b = false → e.Holds K C) : (Tree.ite b t e).Holds K C := ⟨h1, h2⟩
theorem h_both (h1 : p → t.Holds K C) (h2 : q → e.Holds K C) : (Tree.both p q t e).Holds K C := ⟨h1, h2⟩
theorem h_ret {H : List AObj} {v : AV} (h : K H v) : (Tree.ret H v).Holds K C := h
theorem h_at {c : Cfg} (h : C c) : (Tree.at c).Holds K C := h
theorem endS {X : Type} {S : Spec X} {x : X} {L : List AObj} {r : AV} {o : AV} {h : List AObj} (m : Nat) (e : Norm.run ⟨[], [0], m, []⟩ ⟨[r], L, [], {}⟩ = some ⟨[o], h, [], {}⟩) (hm : (S.heap x).length ≤ m) (ho : S.out x = o) (hh : S.outH x = h) : EndS S x L r :=
  ⟨⟨[], [0], m, []⟩, hm, by rw [ho, hh]; exact e⟩
end
end Go.Sx

/-! What all texts share: ends, orders of texts, bytes. -/
namespace Lf
open Go Go.Sx

section
variable {L : List AObj}
theorem ends_is {b : Bool} {b' : Bool} (h : b = b') : Ends [.b .bool] (b, ()) L (.s (.bool b')) := by subst h; rfl
theorem ends_isl {b : Bool} {b' : Bool} (h : b = b') : Ends [.b .bool] (b, ()) L (.s (.blit b')) := by subst h; rfl
end

theorem getD_lt {α : Type} {l : List α} {i : Nat} {d : α} (h : i < l.length) : l.getD i d = l[i] := by simp [List.getD, h]

/-! ### the order of texts -/
end Lf

/-! Ranges over maps: how one begins, and how it goes on. -/
namespace Go.Sx
open Go

section
variable {ρ ρ' : Nat → Value} {H H' H1 H2 : AHeap} {G O O' : Nat → Prop} {w w' w1 w2 : World} {P : Program} {X : Ctx} {K : List AObj → AV → Prop}

theorem Frm.seq (f1 : Frm ρ H w w1) {ρ1 : Nat → Value} (t1 : Step ρ H (Hot ρ H G) w ρ1 H1 (Hot ρ1 H1 G) w1) (s1 : Sat ρ1 H1 G w1) (f2 : Frm ρ1 H1 w1 w2) : Frm ρ H w w2 := by
  refine ⟨f2.os.trans f1.os, f2.tape.trans f1.tape, f2.output.trans f1.output, fun b hb hO => ?_⟩
  have hno : ¬ Own ρ1 H1 b := fun ho => by
    rcases t1.hot b (.inl ho) with hh | hh
    · exact hh.elim hO (s1.apart b ho)
    · omega
  rw [f2.heap b (by have := t1.size; omega) hno, f1.heap b hb hO]

/-- A value that is kept in mind. -/
theorem Good.ghost (hs : Sat ρ H G w) {n : Nat} (hn : H n = none) (g : Value) : ∃ ρ', ρ' n = g ∧ Sat ρ' (updH H n .dead) G w ∧ Step ρ H (Hot ρ H G) w ρ' (updH H n .dead) (Hot ρ' (updH H n .dead) G) w ∧ Frm ρ H w w := by
  have ne : ∀ j x, H j = some x → j ≠ n := fun j x hx e => by subst e; rw [hn] at hx; cases hx
  have own' : ∀ b, Own (fun j => if j = n then g else ρ j) (updH H n .dead) b → Own ρ H b := by
    rintro b ⟨j, x, hx, h1, h2⟩
    by_cases hj : j = n
    · subst hj
      simp only [updH, if_true, Option.some.injEq] at hx
      subst hx
      cases h1
    · simp only [updH, hj, if_false] at hx h2
      exact ⟨j, x, hx, h1, h2⟩
  have st : Step ρ H (Hot ρ H G) w (fun j => if j = n then g else ρ j) (updH H n .dead) (Hot (fun j => if j = n then g else ρ j) (updH H n .dead) G) w := by
    refine ⟨fun j x hx => by simp [ne j x hx], fun j x hx => ⟨x, by simp [updH, ne j x hx, hx], fun c' e' hc => ⟨c', e', hc, rfl, rfl⟩⟩, fun b hb => .inl (hb.imp (own' b) id), fun b hb _ => rfl, Nat.le_refl _⟩
  refine ⟨_, by simp, ⟨fun j x hx => ?_, fun i j oi oj b h1 h2 h3 h4 h5 h6 => ?_, fun b hb => hs.apart b (own' b hb), hs.low⟩, st, rfl, rfl, rfl, fun _ _ _ => rfl⟩
  · by_cases hj : j = n
    · subst hj
      simp only [updH, if_true, Option.some.injEq] at hx
      subst hx
      trivial
    · simp only [updH, hj, if_false] at hx
      simp only [hj, if_false]
      exact (hs.obj j x hx).step st (fun _ _ _ => rfl)
  · have f : ∀ i oi, updH H n .dead i = some oi → oi.alive = true → blk ((fun j => if j = n then g else ρ j) i) = some b → H i = some oi ∧ blk (ρ i) = some b := by
      intro i oi hi hal hb
      by_cases hi' : i = n
      · subst hi'
        simp only [updH, if_true, Option.some.injEq] at hi
        subst hi
        cases hal
      · simp only [updH, hi', if_false] at hi hb
        exact ⟨hi, hb⟩
    obtain ⟨x1, x2⟩ := f i oi h1 h3 h5
    obtain ⟨y1, y2⟩ := f j oj h2 h4 h6
    exact hs.inj i j oi oj b x1 y1 h3 h4 x2 y2

/-! ### the next entry -/
theorem erase_filter {L : List MapEntry} (hb : (L.map (·.born)).Nodup) {i : Nat} (hi : i < L.length) : L.filter (fun x => x.born != L[i].born) = L.eraseIdx i := by
  induction L generalizing i with
  | nil => simp at hi
  | cons x L ih =>
    simp only [List.map_cons, List.nodup_cons] at hb
    cases i with
    | zero =>
      simp only [List.getElem_cons_zero, List.eraseIdx_cons_zero]
      rw [List.filter_cons]
      simp only [bne_self_eq_false, Bool.false_eq_true, if_false]
      refine List.filter_eq_self.2 fun e he => ?_
      rw [bne_iff_ne]
      exact fun h => hb.1 (List.mem_map.2 ⟨e, he, h⟩)
    | succ i =>
      simp only [List.length_cons] at hi
      have hi' : i < L.length := by omega
      simp only [List.getElem_cons_succ, List.eraseIdx_cons_succ]
      rw [List.filter_cons, if_pos, ih hb.2 hi']
      rw [bne_iff_ne]
      exact fun h => hb.1 (List.mem_map.2 ⟨_, List.getElem_mem hi', h.symm⟩)

/-- What is left when one more was seen. -/
theorem IterIs.next {ck : CK} {left : List (Int × ck.V)} {cur : Option (Int × ck.V)} {es : Array MapEntry} {clock : Nat} {seen : Array Nat} (h : IterIs ck left cur es clock seen) {e : MapEntry} (he : e ∈ (leftOf es seen).toList) :
    ∃ i, ∃ hi : i < left.length, e.key = .int .i64 left[i].1 ∧ e.val = ck.val left[i].2 ∧ IterIs ck (left.eraseIdx i) (some left[i]) es clock (seen.push e.born) := by
  have hL : (leftOf es seen).toList = es.toList.filter fun e => !seen.contains e.born := by simp [leftOf]
  rw [hL] at he
  obtain ⟨i, hi, rfl⟩ := List.getElem_of_mem he
  generalize hF : (es.toList.filter fun e => !seen.contains e.born) = F at *
  have heq := h.eq
  rw [hF] at heq
  have hlen : F.length = left.length := by have := congrArg List.length heq; simpa only [List.length_map] using this
  have h1 := congrArg (fun l => l[i]?) heq
  have hil : i < left.length := by omega
  simp only [List.getElem?_map, List.getElem?_eq_getElem hi, List.getElem?_eq_getElem hil, Option.map_some, Option.some.injEq, Prod.mk.injEq] at h1
  have hmem : F[i] ∈ es.toList := by
    have := List.getElem_mem hi
    exact (List.mem_filter.1 (show F[i] ∈ es.toList.filter (fun e => !seen.contains e.born) from by rw [hF]; exact this)).1
  refine ⟨i, hil, h1.1, h1.2, ⟨?_, fun p hp => h.fits p (List.mem_of_mem_eraseIdx hp), h.borns, h.old, fun p hp => ?_⟩⟩
  · have e1 : (es.toList.filter fun e => !(seen.push F[i].born).contains e.born) = F.filter (fun x => x.born != F[i].born) := by
      generalize F[i].born = z
      rw [← hF, List.filter_filter]
      refine List.filter_congr fun x _ => ?_
      by_cases hz : x.born = z <;> simp [hz, bne]
    have hnd : (F.map (·.born)).Nodup := by
      rw [← hF]
      exact (List.Sublist.map _ List.filter_sublist).nodup h.borns
    rw [e1, erase_filter hnd hi, ChangeMaps.map_eraseIdx, heq, ← ChangeMaps.map_eraseIdx]
  · cases hp
    exact ⟨h.fits _ (List.getElem_mem hil), F[i], hmem, by simp, h1.1, h1.2⟩

/-! ### the same of a whole run -/
theorem Rep.good {s : St} {a : Act} (h : Rep X ρ s a w) {dst : Option Tmp} {q : Res} {v : Value} (hw : w1 = w ∨ w1 = w.drew) (hg : Good ρ s.look X.G w1 (s.put dst q).look (q.r s.H.length) v w') : ∃ ρ', Rep X ρ' (s.put dst q) (a.put dst v) w' := by
  have h1 : Rep X ρ s a w1 := by
    rcases hw with rfl | rfl
    · exact h
    · exact h.drew
  obtain ⟨ρ', g1, g2, g3, g4⟩ := hg
  obtain ⟨arr, df⟩ := a
  have hp := put_den (ρ := ρ') (H := (s.put dst q).look) (O := Hot ρ' (s.put dst q).look X.G) (w := w') h1.size (fun t => DenV.step g3 _ _ (h1.den t)) dst g2 df
  exact ⟨ρ', g1, hp.1, hp.2, by have := h1.defers; cases dst <;> exact this, h1.from_.trans g3, Frm.trans h1 g4, h1.kept.frm h1.sat g4⟩

def opAt (fn : Func) (key i : Nat) : Option (Array Oper × Oper × List Item) := match hr fn key with
  | .code (.region _ ops _) :: k => (ops[i]?).map fun o => (ops, o, k)
  | _ => none

theorem Yields.congr {o : Oper} {e e' : Operand → Value} {R : Value → World → Prop} (he : execOp e' o = execOp e o) (h : Yields P o e w R) : Yields P o e' w R := by
  unfold Yields at *
  rw [he]; exact h

end
end Go.Sx

namespace Ds
open Go Go.Sx Go.Proofs Lf
noncomputable abbrev P : Program := Try.prog
theorem mixed : P.follows .mixedOrders = true := by kernel_rfl
abbrev tInt : Ty := .b (.int .i64)
abbrev tBool : Ty := .b .bool
abbrev tStr : Ty := .b .str
theorem go {Z : Glob} {X : Ctx} {t : Tab} {f : FuncId} {fn : Func} {ns : List (Nat × Norm)} {c : Cfg} {tr : Tree} {K : List AObj → AV → Prop} {inl : List FuncId} (hz : ZCtx Z X) (hX : ∀ id, X.H id = none) (hT : t.Ok P Z) (hf : P.funcs[f]? = some fn)
    (e : run P t.sum fn ns c inl = tr) (h : tr.Holds K (Safe P f X K)) : Safe P f X K c := safe_of_run (Tab.sOk hT) hz mixed hf (fun _ _ id _ => hX id) e h
theorem goS {Z : Glob} {X : Ctx} {t : Tab} {f : FuncId} {fn : Func} {ns : List (Nat × Norm)} {c : Cfg} {tr : Tree} {K : List AObj → AV → Prop} {L : List AObj} {inl : List FuncId} (hz : ZCtx Z X) (hX : X.H = lk L) (hm : ∀ x ∈ ns, L.length ≤ x.2.m) (hT : t.Ok P Z) (hf : P.funcs[f]? = some fn)
    (e : run P t.sum fn ns c inl = tr) (h : tr.Holds K (Safe P f X K)) : Safe P f X K c :=
  safe_of_run (Tab.sOk hT) hz mixed hf (fun x hx id hid => by rw [hX]; exact List.getElem?_eq_none (Nat.le_trans (hm x hx) hid)) e h
theorem yes_and {A B : Prop} {b : Bool} (hb : b = true) (h : A) : (b = true → A) ∧ (b = false → B) := ⟨fun _ => h, fun e => absurd (hb.symm.trans e) (by simp)⟩
theorem no_and {A B : Prop} {b : Bool} (hb : b = false) (h : B) : (b = true → A) ∧ (b = false → B) := ⟨fun e => absurd (hb.symm.trans e) (by simp), fun _ => h⟩

end Ds

/-! Lists of numbers, and what is below what: plain laws. -/
namespace Ds
open Go Go.Sx Lf
def cmpG (x : Int) : List Int → List Int
  | [] => []
  | y :: l => if y = x then cmpG y l else y :: cmpG y l
def cmpF : List Int → List Int
  | [] => []
  | x :: l => x :: cmpG x l
def insS (x : Int) : List Int → List Int
  | [] => [x]
  | y :: l => if x < y then x :: y :: l else if x = y then y :: l else y :: insS x l
def setS : List Int → List Int
  | [] => []
  | x :: l => insS x (setS l)
abbrev Rises (l : List Int) : Prop := l.Pairwise (fun x y => x < y)
theorem cmpG_snoc (y : Int) : ∀ (l : List Int) (x : Int), cmpG x (l ++ [y]) = cmpG x l ++ (if y = (x :: l).getLast (by simp) then [] else [y])
  | [], x => by by_cases h : y = x <;> simp [cmpG, h]
  | z :: l, x => by
    have ih := cmpG_snoc y l z
    simp only [List.cons_append, cmpG]
    rw [show (x :: z :: l).getLast (by simp) = (z :: l).getLast (by simp) from by simp [List.getLast_cons]]
    split
    · exact ih
    · rw [ih]; rfl
theorem cmpF_snoc (y : Int) {l : List Int} (h : l ≠ []) : cmpF (l ++ [y]) = cmpF l ++ (if y = l.getLast h then [] else [y]) := by
  cases l with
  | nil => exact absurd rfl h
  | cons x l => simp only [List.cons_append, cmpF]; rw [cmpG_snoc]
theorem mem_cmpG {y : Int} : ∀ {l : List Int} {x : Int}, y ∈ x :: cmpG x l ↔ y ∈ x :: l
  | [], x => by simp [cmpG]
  | z :: l, x => by
    simp only [cmpG]
    split
    · rename_i e; subst e
      rw [mem_cmpG (l := l) (x := z)]
      simp
    · have := mem_cmpG (y := y) (l := l) (x := z)
      rw [List.mem_cons, this, List.mem_cons (a := y) (b := x)]
theorem mem_cmpF {y : Int} {l : List Int} : y ∈ cmpF l ↔ y ∈ l := by
  cases l with
  | nil => exact Iff.rfl
  | cons x l => exact mem_cmpG
theorem cmpG_lt : ∀ {l : List Int} {x : Int}, (x :: l).Pairwise (fun a b => decide (a ≤ b) = true) → Rises (x :: cmpG x l)
  | [], x, _ => by simp [cmpG]
  | z :: l, x, h => by
    have h1 := List.pairwise_cons.1 h
    have ih := cmpG_lt h1.2
    simp only [cmpG]
    split
    · rename_i e; subst e; exact ih
    · rename_i e
      refine List.pairwise_cons.2 ⟨fun a ha => ?_, ih⟩
      have ha := mem_cmpG.1 ha
      have hz := of_decide_eq_true (h1.1 z List.mem_cons_self)
      rcases List.mem_cons.1 ha with rfl | ha
      · omega
      · have := of_decide_eq_true ((List.pairwise_cons.1 h1.2).1 a ha)
        omega
theorem cmpF_lt {l : List Int} (h : l.Pairwise (fun a b => decide (a ≤ b) = true)) : Rises (cmpF l) := by
  cases l with
  | nil => exact List.Pairwise.nil
  | cons x l => exact cmpG_lt h
theorem mem_insS {y x : Int} : ∀ {l : List Int}, y ∈ insS x l ↔ y = x ∨ y ∈ l
  | [] => by simp [insS]
  | z :: l => by
    simp only [insS]
    split
    · simp
    · split
      · rename_i e; subst e; simp
      · rw [List.mem_cons, mem_insS, List.mem_cons]
        exact ⟨fun h => h.elim (fun a => .inr (.inl a)) (fun b => b.elim .inl (fun c => .inr (.inr c))), fun h => h.elim (fun a => .inr (.inl a)) (fun b => b.elim .inl (fun c => .inr (.inr c)))⟩
theorem insS_lt {x : Int} : ∀ {l : List Int}, Rises l → Rises (insS x l)
  | [], _ => by simp [insS]
  | z :: l, h => by
    have h1 := List.pairwise_cons.1 h
    simp only [insS]
    split
    · rename_i hz
      refine List.pairwise_cons.2 ⟨fun a ha => ?_, h⟩
      rcases List.mem_cons.1 ha with rfl | ha
      · exact hz
      · have := h1.1 a ha; omega
    · split
      · exact h
      · refine List.pairwise_cons.2 ⟨fun a ha => ?_, insS_lt h1.2⟩
        rcases mem_insS.1 ha with rfl | ha
        · omega
        · exact h1.1 a ha
theorem mem_setS {y : Int} : ∀ {l : List Int}, y ∈ setS l ↔ y ∈ l
  | [] => Iff.rfl
  | x :: l => by rw [setS, mem_insS, mem_setS, List.mem_cons]
theorem setS_lt : ∀ l : List Int, Rises (setS l)
  | [] => List.Pairwise.nil
  | x :: l => insS_lt (setS_lt l)
theorem lt_ext : ∀ {a b : List Int}, Rises a → Rises b → (∀ x, x ∈ a ↔ x ∈ b) → a = b
  | [], [], _, _, _ => rfl
  | [], y :: b, _, _, h => absurd ((h y).2 List.mem_cons_self) (by simp)
  | x :: a, [], _, _, h => absurd ((h x).1 List.mem_cons_self) (by simp)
  | x :: a, y :: b, ha, hb, h => by
    have ha1 := List.pairwise_cons.1 ha
    have hb1 := List.pairwise_cons.1 hb
    have e : x = y := by
      rcases List.mem_cons.1 ((h x).1 List.mem_cons_self) with e | hx
      · exact e
      · rcases List.mem_cons.1 ((h y).2 List.mem_cons_self) with e | hy
        · exact e.symm
        · have := hb1.1 x hx
          have := ha1.1 y hy
          omega
    subst e
    rw [lt_ext ha1.2 hb1.2 fun z => ?_]
    have hz := h z
    rw [List.mem_cons, List.mem_cons] at hz
    constructor
    · intro h1
      have := ha1.1 z h1
      exact (hz.1 (.inr h1)).elim (fun e => by omega) (fun x => x)
    · intro h1
      have := hb1.1 z h1
      exact (hz.2 (.inr h1)).elim (fun e => by omega) (fun x => x)
/-! what is below what -/
abbrev Es : Type := List (Int × Int)
def kidsL (es : Es) (id : Int) : List Int := (es.filter fun e => e.2 == id && e.1 != id).map (·.1)
def kidsF (es : Es) (id : Int) : List Int := setS (kidsL es id)
inductive Reach (es : Es) : Int → Int → Prop
  | kid {a b : Int} : b ∈ kidsF es a → Reach es a b
  | more {a b c : Int} : Reach es a b → c ∈ kidsF es b → Reach es a c
theorem Reach.trans {es : Es} {a b c : Int} (h : Reach es a b) (k : Reach es b c) : Reach es a c := by
  induction k with
  | kid h1 => exact .more h h1
  | more _ h1 ih => exact .more ih h1
end Ds

namespace Go.Proofs
open Go.RowKit Go.Maps Go.Sort Go.Shelf
def Try.sortA_ren : Go.Shelf.Ren := ⟨fun | 5 => 54 | 8 => 69 | 7 => 68 | 19 => 81 | 20 => 82 | 10 => 72 | 11 => 73 | 12 => 74 | 13 => 75 | 14 => 76 | 15 => 77 | 16 => 78 | 17 => 79 | 18 => 80 | 30 => 83 | 31 => 84 | 32 => 85 | 33 => 86 | 34 => 87 | 35 => 88 | 40 => 89 | n => n, fun | 23 => 30 | 25 => 3 | 3 => 3 | 32 => 90 | 22 => 30 | 0 => 0 | 44 => 102 | 46 => 104 | 4 => 4 | 36 => 95 | 35 => 94 | 41 => 48 | 5 => 5 | 9 => 9 | 53 => 105 | 57 => 109 | 63 => 111 | 64 => 112 | n => n, fun | n => n⟩
theorem Try.sortA : Go.Proofs.SlLaysM.n5 Try.prog Try.sortA_ren := {
  mixed := by kernel_rfl
  f5 := ⟨Try.f54.name, by decide, Try.func54.trans (congrArg some (by kernel_rfl))⟩
  f7 := ⟨Try.f68.name, by decide, Try.func68.trans (congrArg some (by kernel_rfl))⟩
  f8 := Try.func69.trans (congrArg some (by kernel_rfl))
  f10 := ⟨Try.f72.name, by decide, Try.func72.trans (congrArg some (by kernel_rfl))⟩
  f11 := ⟨Try.f73.name, by decide, Try.func73.trans (congrArg some (by kernel_rfl))⟩
  f12 := ⟨Try.f74.name, by decide, Try.func74.trans (congrArg some (by kernel_rfl))⟩
  f13 := ⟨Try.f75.name, by decide, Try.func75.trans (congrArg some (by kernel_rfl))⟩
  f14 := ⟨Try.f76.name, by decide, Try.func76.trans (congrArg some (by kernel_rfl))⟩
  f15 := ⟨Try.f77.name, by decide, Try.func77.trans (congrArg some (by kernel_rfl))⟩
  f16 := ⟨Try.f78.name, by decide, Try.func78.trans (congrArg some (by kernel_rfl))⟩
  f17 := ⟨Try.f79.name, by decide, Try.func79.trans (congrArg some (by kernel_rfl))⟩
  f18 := ⟨Try.f80.name, by decide, Try.func80.trans (congrArg some (by kernel_rfl))⟩
  f19 := Try.func81.trans (congrArg some (by kernel_rfl))
  f20 := Try.func82.trans (congrArg some (by kernel_rfl))
  f30 := ⟨Try.f83.name, by decide, Try.func83.trans (congrArg some (by kernel_rfl))⟩
  f31 := Try.func84.trans (congrArg some (by kernel_rfl))
  f32 := Try.func85.trans (congrArg some (by kernel_rfl))
  f33 := ⟨Try.f86.name, by decide, Try.func86.trans (congrArg some (by kernel_rfl))⟩
  f34 := ⟨Try.f87.name, by decide, Try.func87.trans (congrArg some (by kernel_rfl))⟩
  f35 := ⟨Try.f88.name, by decide, Try.func88.trans (congrArg some (by kernel_rfl))⟩
  f40 := ⟨Try.f89.name, by decide, Try.func89.trans (congrArg some (by kernel_rfl))⟩
  t0 := Try.underlying0
  a0 := Try.isAgg0
  z0 := Try.sizeOf0
  v0 := Try.zeroValue0
  t3 := Try.underlying3
  a3 := Try.isAgg3
  z3 := Try.sizeOf3
  v3 := Try.zeroValue3
  t4 := Try.underlying4
  a4 := Try.isAgg4
  z4 := Try.sizeOf4
  v4 := Try.zeroValue4
  t5 := Try.underlying5
  a5 := Try.isAgg5
  z5 := Try.sizeOf5
  v5 := Try.zeroValue5
  t9 := Try.underlying9
  a9 := Try.isAgg9
  z9 := Try.sizeOf9
  v9 := Try.zeroValue9
  t22 := Try.underlying30
  a22 := Try.isAgg30
  z22 := Try.sizeOf30
  v22 := Try.zeroValue30
  t23 := Try.underlying30
  a23 := Try.isAgg30
  z23 := Try.sizeOf30
  v23 := Try.zeroValue30
  t25 := Try.underlying3
  a25 := Try.isAgg3
  z25 := Try.sizeOf3
  v25 := Try.zeroValue3
  t32 := Try.underlying90
  a32 := Try.isAgg90
  z32 := Try.sizeOf90
  v32 := Try.zeroValue90
  t35 := Try.underlying94
  a35 := Try.isAgg94
  z35 := Try.sizeOf94
  v35 := Try.zeroValue94
  t36 := Try.underlying95
  a36 := Try.isAgg95
  z36 := Try.sizeOf95
  v36 := Try.zeroValue95
  t41 := Try.underlying48
  a41 := Try.isAgg48
  z41 := Try.sizeOf48
  v41 := Try.zeroValue48
  t44 := Try.underlying102
  a44 := Try.isAgg102
  z44 := Try.sizeOf102
  v44 := Try.zeroValue102
  t46 := Try.underlying104
  a46 := Try.isAgg104
  z46 := Try.sizeOf104
  v46 := Try.zeroValue104
  t53 := Try.underlying105
  a53 := Try.isAgg105
  z53 := Try.sizeOf105
  v53 := Try.zeroValue105
  t57 := Try.underlying109
  a57 := Try.isAgg109
  z57 := Try.sizeOf109
  v57 := Try.zeroValue109
  t63 := Try.underlying111
  a63 := Try.isAgg111
  z63 := Try.sizeOf111
  v63 := Try.zeroValue111
  t64 := Try.underlying112
  a64 := Try.isAgg112
  z64 := Try.sizeOf112
  v64 := Try.zeroValue112 }


end Go.Proofs
namespace Ds
open Go Go.Sx Go.Proofs Lf
section
variable {ρ : Nat → Value} {H H' : AHeap} {G : Nat → Prop} {w w1 w2 : World}
/-- More blocks, that nobody owns. -/
theorem good_grow {r : AV} {v : Value} (h : Good ρ H G w H' r v w1) (os : Array Obj) (hh : w2.heap = w1.heap ++ os) (ht : w2.tape = w1.tape) (ho : w2.os = w1.os) (hu : w2.output = w1.output) : Good ρ H G w H' r v w2 := by
  obtain ⟨ρ', s, d, t, f⟩ := h
  have hsz : w1.heap.size ≤ w2.heap.size := by rw [hh, Array.size_append]; omega
  have hold : ∀ i, i < w1.heap.size → w2.heap[i]? = w1.heap[i]? := fun i hi => by rw [hh, Array.getElem?_append_left hi]
  have st : Step ρ' H' (Hot ρ' H' G) w1 ρ' H' (Hot ρ' H' G) w2 :=
    ⟨fun _ _ _ => rfl, fun _ o ho => ⟨o, ho, fun c' e' e => ⟨c', e', e, rfl, rfl⟩⟩, fun b hb => .inl hb, fun b hb _ => hold b hb, hsz⟩
  exact ⟨ρ', ⟨fun j x hx => (s.obj j x hx).step st (fun b ha hb => hold b (own_lt s ⟨j, x, hx, ha, hb⟩)), s.inj, s.apart, fun b hb => Nat.lt_of_lt_of_le (s.low b hb) hsz⟩, DenV.step st _ _ d, t.trans st,
    ⟨ho.trans f.os, ht.trans f.tape, hu.trans f.output, fun b hb hO => by rw [hold b (Nat.lt_of_lt_of_le hb t.size), f.heap b hb hO]⟩⟩
end
def srtZ (zs : List Int) : List Int := zs.mergeSort fun x y => decide (x ≤ y)
abbrev sSort : Spec (List Int) := ⟨fun _ => [.vec 0], fun zs => [.vec (.ints .i64 zs) 3], fun zs => [zs.length ≤ 1000000], fun zs => [.vec (.ints .i64 (srtZ zs)) 3], fun _ => .tup []⟩
theorem srtZ_len (zs : List Int) : (srtZ zs).length = zs.length := List.length_mergeSort _
theorem sort_ok {Z : Glob} : FnS P Z 54 sSort := by
  rintro (zs : List Int) ⟨(hl : zs.length ≤ 1000000), _⟩ ρ G w vs hz hs hd
  obtain ⟨v, rest, rfl, hv, h0⟩ := DenL_cons.1 hd
  obtain rfl := DenL_nil.1 h0
  obtain ⟨a, cap, rfl, hroot, hle, hmax⟩ := vec_val hs (show lk [.vec (.ints .i64 zs) 3] 0 = some _ from rfl) hv
  have hobj := hs.obj 0 _ (show lk [.vec (.ints .i64 zs) 3] 0 = some _ from rfl)
  rw [hroot] at hobj
  obtain ⟨a2, cap2, g1, g2, g3, g4⟩ := hobj
  cases g1
  have hn : (Con.ints .i64 zs).n = zs.length := rfl
  have hH : lk (sSort.outH zs) = updH (lk [.vec (.ints .i64 zs) 3]) 0 (.vec (.ints .i64 (srtZ zs)) 3) := by
    funext j
    cases j with
    | zero => rfl
    | succ j => rfl
  by_cases hc0 : cap = 0
  · have hz0 : zs = [] := List.eq_nil_of_length_eq_zero (by rw [hn] at g2; omega)
    subst hz0
    refine (AnyM.slices_Sort_int_none Try.sortA a cap w).mono ?_
    rintro e w' ⟨rfl, rfl⟩
    have e0 : srtZ [] = [] := by simp [srtZ]
    refine ⟨_, rfl, ?_⟩
    show Sx.Good ρ (lk [.vec (.ints .i64 []) 3]) G w' (lk [.vec (.ints .i64 (srtZ [])) 3]) (.tup []) undef w'
    rw [e0]
    exact Good.val hs den_undef
  · obtain ⟨b, o, cells, fr, us, rfl, g5, g6, g7, g8⟩ := g4.resolve_left hc0
    have hcell : ∀ j, j < zs.length → cells[o + j]? = some (Value.int .i64 (zs.getD j 0)) := fun j hj => by
      obtain ⟨k1, k2⟩ := g8 j 0 hj Nat.one_pos
      simp only [Con.size, Nat.mul_one, Nat.add_zero, Con.cell] at k1 k2
      rw [k1]
      generalize us j 0 = u at k2 ⊢
      cases k2
      rfl
    have hroom : o + zs.length ≤ cells.length := by
      simp only [Con.size, Nat.mul_one] at g7
      rw [hn] at g2
      omega
    have hholds : Sort.Holds (Value.int .i64) w b o zs.toArray := fun j hj => by
      have hj : j < zs.length := by simpa using hj
      refine ⟨?_, unm_frozen g5 (by simpa using g6.unm) (by simp; omega)⟩
      rw [cell_of_blk g5, hcell j hj]
      simp [getD_lt hj, hj]
    refine (AnyM.slices_Sort_int Try.sortA b o cap zs w hholds (Array.getElem?_eq_some_iff.1 g5).1 (by omega)).mono ?_
    rintro e w' ⟨rfl, n, os, rfl⟩
    refine ⟨_, rfl, ?_⟩
    rw [hH]
    have hput : (Sort.putCells (Value.int .i64) o (srtZ zs).toArray cells.toArray).toList.toArray = Sort.putCells (Value.int .i64) o (srtZ zs).toArray cells.toArray := by simp
    have hheap : (Sort.putRow (Value.int .i64) (Sort.ahead w n) b o (srtZ zs).toArray).heap = (World.setBlk w b (.cells (Sort.putCells (Value.int .i64) o (srtZ zs).toArray cells.toArray).toList.toArray 3 fr)).heap := by
      rw [hput]
      show w.heap.modify b _ = w.heap.setIfInBounds b _
      apply Array.ext_getElem?
      intro i
      rw [Array.getElem?_modify, Array.getElem?_setIfInBounds]
      by_cases hi : b = i
      · subst hi
        have hlt := (Array.getElem?_eq_some_iff.1 g5).1
        rw [if_pos rfl, if_pos rfl, if_pos hlt, g5]
        rfl
      · rw [if_neg hi, if_neg hi]
    have hbk : blk (ρ 0) = some b := by
      rw [hroot]
      simp only [blk]
      rw [if_neg hc0]
    refine good_grow (w1 := World.setBlk w b (.cells (Sort.putCells (Value.int .i64) o (srtZ zs).toArray cells.toArray).toList.toArray 3 fr)) (Good.write hs (show lk [.vec (.ints .i64 zs) 3] 0 = some _ from rfl) rfl rfl hbk (fun c' e' hc => by cases hc; exact ⟨_, _, rfl, srtZ_len zs, rfl⟩) ?_ den_undef) os (by rw [← hheap]; rfl) rfl rfl rfl
    refine ⟨some ⟨b, o, none⟩, cap, by rw [hroot]; show Value.slice _ zs.length cap = .slice _ (srtZ zs).length cap; rw [srtZ_len], by show (srtZ zs).length ≤ cap; rw [srtZ_len]; exact g2, g3, .inr ⟨b, o, _, fr, fun i _ => .int .i64 ((srtZ zs).getD i 0), rfl, setBlk_get g5, ?_, ?_, ?_⟩⟩
    · refine ⟨fun off ho => g6.1 off (by simpa [Sort.putCells] using ho), fun u hu => ?_⟩
      simp only [Sort.putCells, List.mem_iff_getElem?, Array.toList_mapIdx, List.getElem?_mapIdx] at hu
      obtain ⟨k, hk⟩ := hu
      rw [Option.map_eq_some_iff] at hk
      obtain ⟨x, hx, rfl⟩ := hk
      split
      · rfl
      · exact g6.2 _ (List.mem_of_getElem? hx)
    · show o + cap * 1 ≤ _
      simp only [Sort.putCells, Array.length_toList, Array.size_mapIdx, List.size_toArray]
      exact g7
    · intro i j hi hj
      have hi : i < zs.length := by have hi : i < (srtZ zs).length := hi; rwa [srtZ_len] at hi
      simp only [Con.size] at hj
      obtain rfl : j = 0 := by omega
      refine ⟨?_, .int _ _⟩
      have hlt : o + i < cells.length := by omega
      have hi2 : i < (srtZ zs).length := by rw [srtZ_len]; exact hi
      simp [Sort.putCells, Con.size, hlt, srtZ_len, hi, getD_lt hi2, hi2]
end Ds

/-! Arguments that stand still from the call on: own rows handed over for good, and nil rows. -/
namespace Go.Sx
open Go

/-- A summary whose argument number i may be an own row, or nil: the row is given up. -/
def sumFrz (i : Nat) (c0 : Con) (s : Nat → List AV → RM Res) : Nat → List AV → RM Res := fun base args =>
  match args[i]? with
  | some (.vec id) => .look id fun o => match o with
    | some (.vec c _) => ((s base (args.set i (.s (.ro c)))).hide id).bind fun q => .ret ⟨q.need, (id, .dead) :: q.up, q.new, q.r⟩
    | _ => .fail "frz: no row"
  | some .emp => bif c0.n.beq 0 then s base (args.set i (.s (.ro c0))) else .fail "frz: nil"
  | _ => s base args

section
variable {ρ ρ' : Nat → Value} {H H' : AHeap} {G O O' : Nat → Prop} {w w' : World} {P : Program} {Z : Glob}

theorem DenL_set {azs : List AV} : ∀ {vs : List Value} {i : Nat} {a b : AV}, DenL ρ H O w azs vs → azs[i]? = some a → (∀ v, DenV ρ H O w a v → DenV ρ H O w b v) → DenL ρ H O w (azs.set i b) vs := by
  induction azs with
  | nil => intro vs i a b h hi; simp at hi
  | cons x azs ih =>
    intro vs i a b h hi hab
    obtain ⟨v, rest, rfl, h1, h2⟩ := DenL_cons.1 h
    cases i with
    | zero =>
      simp only [List.getElem?_cons_zero, Option.some.injEq] at hi
      subst hi
      exact DenL_cons.2 ⟨v, rest, rfl, hab v h1, h2⟩
    | succ i => exact DenL_cons.2 ⟨v, rest, rfl, h1, ih h2 (by simpa using hi) hab⟩

theorem sumFrz_ok {f : FuncId} {s : Nat → List AV → RM Res} (h : SOk1 P Z f s) (i : Nat) (c0 : Con) : SOk1 P Z f (sumFrz i c0 s) := by
  intro base args H q hq hn ρ G w vs hfresh hz hs hd
  unfold sumFrz at hq
  split at hq
  · rename_i id hi
    simp only [RM.eval] at hq
    split at hq
    · rename_i c e ho
      obtain ⟨q', h1, h2⟩ := RM.bind_eval hq
      simp only [RM.eval, Option.some.injEq] at h2
      subst h2
      rw [RM.hide_eval] at h1
      have st := kill_step (ρ := ρ) (G := G) (w := w) ho
      have hd1 := DenL.step st _ _ hd
      have hd2 : DenL ρ (updH H id .dead) (Hot ρ (updH H id .dead) G) w (args.set i (.s (.ro c))) vs := by
        have key : ∀ (azs : List AV) (vs : List Value) (i : Nat), DenL ρ H (Hot ρ H G) w azs vs → DenL ρ (updH H id .dead) (Hot ρ (updH H id .dead) G) w azs vs → azs[i]? = some (.vec id) → DenL ρ (updH H id .dead) (Hot ρ (updH H id .dead) G) w (azs.set i (.s (.ro c))) vs := by
          intro azs
          induction azs with
          | nil => intro vs i h1 h2 hi; simp at hi
          | cons x azs ih =>
            intro vs i h1 h2 hi
            obtain ⟨v, rest, rfl, h3, h4⟩ := DenL_cons.1 h1
            obtain ⟨v', rest', e1, h5, h6⟩ := DenL_cons.1 h2
            cases e1
            cases i with
            | zero =>
              simp only [List.getElem?_cons_zero, Option.some.injEq] at hi
              subst hi
              obtain ⟨a, cap, rfl, hr, _⟩ := vec_val hs ho h3
              have := given_up hs ho
              rw [hr] at this
              exact DenL_cons.2 ⟨_, rest, rfl, DenV_s this, h6⟩
            | succ i => exact DenL_cons.2 ⟨v, rest, rfl, h5, ih rest i h4 h6 (by simpa using hi)⟩
        exact key args vs i hd hd1 hi
      have hz1 : ZAt Z ρ (updH H id .dead) w := ⟨hz.1, fun b hb hO => hz.2 b hb (own_kill hO)⟩
      have hfresh1 : ∀ j, j < q'.new.length → updH H id .dead (base + j) = none := fun j hj => by
        have := hfresh j hj
        simp only [updH]
        split
        · rename_i e1; rw [e1, ho] at this; cases this
        · exact this
      refine (h base _ _ q' h1 hn ρ G w vs hfresh1 hz1 (hs.kill ho) hd2).mono ?_
      rintro en w' ⟨v, he, hg⟩
      refine ⟨v, he, ?_⟩
      have hres : resH H ((id, .dead) :: q'.up) base q'.new = resH (updH H id .dead) q'.up base q'.new := by
        funext j
        simp only [resH, findUp, updH]
        cases findUp q'.up j with
        | some x => rfl
        | none =>
          simp only []
          by_cases hj : j = id
          · subst hj
            have hno : ¬ (base ≤ j ∧ j < base + q'.new.length) := by
              rintro ⟨k1, k2⟩
              have := hfresh (j - base) (by simp only []; omega)
              rw [show base + (j - base) = j from by omega, ho] at this
              cases this
            simp [hno]
          · simp [hj]
      simp only []
      rw [hres]
      exact Good.after st (fun b hb => own_kill hb) hg
    · cases hq
  · rename_i hi
    rw [Bool.cond_eq_ite] at hq
    split at hq
    · rename_i hc
      have hc : c0.n = 0 := by simpa using hc
      refine h base _ H q hq hn ρ G w vs hfresh hz hs (DenL_set hd hi fun v hv => ?_)
      unfold DenV at hv
      obtain ⟨a, rfl⟩ := hv
      exact DenV_s (emp_ro' hc a)
    · cases hq
  · exact h base _ H q hq hn ρ G w vs hfresh hz hs hd

variable {X : Type} {S : Spec X}
/-- One summary or another one, by the arguments. -/
def sumIf (c : List AV → Bool) (s1 s2 : Nat → List AV → RM Res) : Nat → List AV → RM Res := fun b a => bif c a then s1 b a else s2 b a
theorem sumIf_ok {f : FuncId} {c : List AV → Bool} {s1 s2 : Nat → List AV → RM Res} (h1 : SOk1 P Z f s1) (h2 : SOk1 P Z f s2) : SOk1 P Z f (sumIf c s1 s2) := by
  intro base args H q hq
  unfold sumIf at hq
  rw [Bool.cond_eq_ite] at hq
  split at hq
  · exact h1 base args H q hq
  · exact h2 base args H q hq
end
end Go.Sx

/-! A row seen with its room, or as one that has none. -/
namespace Go.Sx
open Go
section
variable {ρ ρ' : Nat → Value} {H H' : AHeap} {G O O' : Nat → Prop} {w w' : World} {P : Program} {X : Ctx} {L : List AObj} {K : List AObj → AV → Prop}

theorem slot_set {tmps : List AV} {t : Nat} {y x : AV} (ht : tmps.getD t (.s .junk) = y) (hy : y ≠ .s .junk) (u : Nat) : (tmps.set t x).getD u (.s .junk) = if u = t then x else tmps.getD u (.s .junk) := by
  have hlt : t < tmps.length := by
    rcases Nat.lt_or_ge t tmps.length with h | h
    · exact h
    · rw [List.getD, List.getElem?_eq_none h] at ht
      exact absurd ht.symm hy
  by_cases hu : u = t
  · subst hu; rw [if_pos rfl]; simp [List.getD, hlt]
  · rw [if_neg hu]; simp [List.getD, List.getElem?_set_ne (Ne.symm hu)]

end
end Go.Sx

/-! An own object told in other words; a number told as a literal (its sums wrap, and nothing is owed). -/
namespace Go.Sx
open Go

section
variable {P : Program} {X : Ctx} {K : List AObj → AV → Prop} {L : List AObj}

/-- A part of an own row, alone from then on. -/
theorem cut_safe {f : FuncId} {tmps : List AV} {L : List AObj} {todo : List Item} {stk : Stk} {t id lo n : Nat} {c : Con} {e : TypeId} (ht : tmps.getD t (.s .junk) = .part id lo n) (hid : L[id]? = some (.vec c e))
    (h : Safe P f X K ⟨tmps.set t (.vec L.length), L.set id .dead ++ [.vec (conSub c lo (lo + n)) e], todo, stk⟩) : Safe P f X K ⟨tmps, L, todo, stk⟩ := by
  intro G E ρ a w hG1 hG2 hr b tf fs hw
  have hs : Sat ρ (lk L) G w := hr.sat
  have hd : DenV ρ (lk L) (Hot ρ (lk L) G) w (.part id lo n) (a.tmps.getD t undef) := by
    have := hr.den t
    rw [show (St.tmps ⟨tmps, L⟩).getD t (.s .junk) = .part id lo n from ht] at this
    exact this
  obtain ⟨ρ', s', st, hv⟩ := retract hs hid hd
  refine h G E ρ' a w hG1 hG2 ⟨s', by rw [List.length_set]; exact hr.size, fun u => ?_, hr.defers, hr.from_.trans st, hr.frm, hr.kept⟩ b tf fs hw
  show DenV ρ' _ _ w ((tmps.set t (.vec L.length)).getD u (.s .junk)) _
  rw [slot_set ht (by simp)]
  by_cases hu : u = t
  · subst hu
    rw [if_pos rfl]
    unfold DenV
    exact hv _
  · rw [if_neg hu]
    exact DenV.step st _ _ (hr.den u)
/-- A row under another number. -/
theorem vec_cut_safe {f : FuncId} {tmps : List AV} {L : List AObj} {todo : List Item} {stk : Stk} {t id : Nat} {c : Con} {e : TypeId} (ht : tmps.getD t (.s .junk) = .vec id) (hid : L[id]? = some (.vec c e)) {c' : Con} (hc : conSub c 0 (0 + c.n) = c')
    (h : Safe P f X K ⟨tmps.set t (.vec L.length), L.set id .dead ++ [.vec c' e], todo, stk⟩) : Safe P f X K ⟨tmps, L, todo, stk⟩ := by
  subst hc
  have hlt : t < tmps.length := by
    rcases Nat.lt_or_ge t tmps.length with h3 | h3
    · exact h3
    · rw [List.getD, List.getElem?_eq_none h3] at ht
      simp at ht
  have key : Safe P f X K ⟨tmps.set t (.part id 0 c.n), L, todo, stk⟩ := by
    refine cut_safe (t := t) (id := id) (lo := 0) (n := c.n) (by simp [List.getD, hlt]) hid ?_
    rw [List.set_set]
    exact h
  intro G E ρ a w hG1 hG2 hr b tf fs hw
  have hs : Sat ρ (lk L) G w := hr.sat
  have hd := hr.den t
  rw [show (St.tmps ⟨tmps, L⟩).getD t (.s .junk) = .vec id from ht] at hd
  refine key G E ρ a w hG1 hG2 (hr.refine1 ht ?_) b tf fs hw
  unfold DenV Den1 at hd ⊢
  obtain ⟨h1, o, ho, hv⟩ := hd
  refine ⟨h1, o, ho, fun c2 e2 he => ?_⟩
  have h2 : (St.look ⟨tmps, L⟩) id = some (.vec c e) := hid
  rw [h2] at ho
  cases ho
  cases he
  obtain ⟨a2, cap, g1, g2, g3, _⟩ := hs.obj id _ hid
  refine ⟨by omega, a2, cap, a2, g1, g2, by rw [hv c e rfl, g1, Nat.sub_zero], fun hcap => ?_⟩
  rw [Nat.zero_mul]
  cases a2 with
  | none => rfl
  | some y => simp [Addr.add]
end
end Go.Sx

/-! Processes, nodes, flows: as records and rows. -/
namespace Ds
open Go Go.Sx Go.Proofs Lf
abbrev cV : List CK := [.str, .int .u8, .int .i64, .str]
abbrev cN : List CK := [.str, .int .u8, .int .i64, .int .i64, .int .u8, .str, .str, .str, .bool, .rows cV, .strs]
abbrev cF : List CK := [.int .i64, .int .i64, .str, .bool]
abbrev cP : List CK := [.str, .rows cV, .rows cN, .rows cF]
abbrev cSi : List CK := [.str, .int .i64]
abbrev eP : TypeId := 26
abbrev eSi : TypeId := 38
abbrev eCo : TypeId := 82
abbrev tNs : Ty := .b (.row (.ints .i64) 3)
abbrev avI (n : Int) : AV := .s (.int .i64 n)
abbrev avL (l : List Int) : AV := .s (.ro (.ints .i64 l))
abbrev avU (n : Int) : AV := .s (.int .u8 n)
abbrev Ps : Type := List (CL cP)
abbrev Ns : Type := List (CL cN)
abbrev Fs : Type := List (CL cF)
abbrev Vs : Type := List (CL cV)
abbrev Ss : Type := List (CL cSi)
abbrev tab0 : Tab := []
def idxF {α : Type} (p : α → Bool) (l : List α) : Int := match l.findIdx? p with
  | some i => (i : Int)
  | none => -1
abbrev nN (x : CL cN) : ByteArray := x.1
abbrev nK (x : CL cN) : Int := x.2.1
abbrev nI (x : CL cN) : Int := x.2.2.1
abbrev nO (x : CL cN) : Int := x.2.2.2.1
abbrev nE (x : CL cN) : Int := x.2.2.2.2.1
abbrev nY (x : CL cN) : ByteArray := x.2.2.2.2.2.1
abbrev nT (x : CL cN) : ByteArray := x.2.2.2.2.2.2.1
abbrev nS (x : CL cN) : ByteArray := x.2.2.2.2.2.2.2.1
abbrev nB (x : CL cN) : Bool := x.2.2.2.2.2.2.2.2.1
abbrev nV (x : CL cN) : List (CL cV) := x.2.2.2.2.2.2.2.2.2.1
abbrev nZ (x : CL cN) : List ByteArray := x.2.2.2.2.2.2.2.2.2.2.1
abbrev fA (x : CL cF) : Int := x.1
abbrev fB (x : CL cF) : Int := x.2.1
abbrev pN (x : CL cP) : ByteArray := x.1
abbrev pV (x : CL cP) : List (CL cV) := x.2.1
abbrev pO (x : CL cP) : List (CL cN) := x.2.2.1
abbrev pF (x : CL cP) : List (CL cF) := x.2.2.2.1
abbrev eV : TypeId := 132
abbrev eN : TypeId := 34
abbrev eF : TypeId := 46
abbrev tPr : Ty := .st [.str, .row (.typ cV) eV, .row (.typ cN) eN, .row (.typ cF) eF]
abbrev avPr (a : ByteArray) (vs : List (CL cV)) (ns : List (CL cN)) (fs : List (CL cF)) : AV := .agg [.s (.str a), .s (.ro (.typ cV vs)), .s (.ro (.typ cN ns)), .s (.ro (.typ cF fs))]
abbrev obPr (a : ByteArray) (vs : List (CL cV)) (ns : List (CL cN)) (fs : List (CL cF)) : AObj := .own [.s (.str a), .s (.ro (.typ cV vs)), .s (.ro (.typ cN ns)), .s (.ro (.typ cF fs))] eP
abbrev sP (x : CL cSi) : ByteArray := x.1
abbrev sN (x : CL cSi) : Int := x.2.1
abbrev tSi : Ty := .st [.str, .int .i64]
abbrev tSs : Ty := .b (.row (.typ cSi) eSi)
abbrev tDefs : Ty := .b (.row (.typ cP) eP)
abbrev tNo : Ty := .st [.str, .int .u8, .int .i64, .int .i64, .int .u8, .str, .str, .str, .bool, .row (.typ cV) eV, .row .strs 9]
abbrev tNoR : Ty := .st [.str, .int .u8, .int .i64, .int .i64, .int .u8, .str, .str, .str, .bool, .rrow (.typ cV) eV, .rrow .strs 9]
abbrev tPrr : Ty := .st [.str, .rrow (.typ cV) eV, .rrow (.typ cN) eN, .rrow (.typ cF) eF]
abbrev tU8 : Ty := .b (.int .u8)
abbrev avNo (x : CL cN) : AV := .agg [.s (.str (nN x)), .s (.int .u8 (nK x)), avI (nI x), avI (nO x), .s (.int .u8 (nE x)), .s (.str (nY x)), .s (.str (nT x)), .s (.str (nS x)), .s (.bool (nB x)), .s (.ro (.typ cV (nV x))), .s (.ro (.strs (nZ x)))]
abbrev obNo (x : CL cN) : AObj := .own [.s (.str (nN x)), .s (.int .u8 (nK x)), avI (nI x), avI (nO x), .s (.int .u8 (nE x)), .s (.str (nY x)), .s (.str (nT x)), .s (.str (nS x)), .s (.bool (nB x)), .s (.ro (.typ cV (nV x))), .s (.ro (.strs (nZ x)))] eN
theorem srtZ_sorted (zs : List Int) : (srtZ zs).Pairwise (fun x y => decide (x ≤ y) = true) :=
  List.pairwise_mergeSort (fun a b c h1 h2 => by simp at *; omega) (fun a b => by simp; omega) zs
theorem srtZ_perm (zs : List Int) : (srtZ zs).Perm zs := List.mergeSort_perm _ _
theorem srt_set (l : List Int) : cmpF (srtZ l) = setS l := lt_ext (cmpF_lt (srtZ_sorted l)) (setS_lt l) fun x => by rw [mem_cmpF, (srtZ_perm l).mem_iff, mem_setS]
theorem el_lt {cs : List CK} {l : List (CL cs)} {k : Nat} (h : k < l.length) : el l (k : Int) = l[k] := by
  show l.getD (k : Int).toNat _ = _
  rw [Int.toNat_natCast]; exact getD_lt h
theorem idxF_spec {α : Type} {p : α → Bool} : ∀ {l : List α}, (idxF p l = -1 ∧ ∀ x ∈ l, p x = false) ∨ ∃ i : Nat, idxF p l = (i : Int) ∧ ∃ h : i < l.length, p l[i] = true ∧ ∀ j (hj : j < i), p (l[j]'(by omega)) = false := by
  intro l
  unfold idxF
  cases h : l.findIdx? p with
  | none =>
    refine .inl ⟨rfl, fun x hx => ?_⟩
    have := List.findIdx?_eq_none_iff.1 h x hx
    simpa using this
  | some i =>
    obtain ⟨h1, h2, h3⟩ := List.findIdx?_eq_some_iff_getElem.1 h
    exact .inr ⟨i, rfl, h1, h2, fun j hj => by simpa using h3 j hj⟩
theorem idxF_at {α : Type} {p : α → Bool} {l : List α} {k : Nat} (hk : k < l.length) (h : p l[k] = true) (hl : ∀ j (hj : j < k), p (l[j]'(by omega)) = false) : idxF p l = (k : Int) := by
  rcases idxF_spec (p := p) (l := l) with ⟨_, h2⟩ | ⟨i, e, h1, h2, h3⟩
  · rw [h2 _ (List.getElem_mem hk)] at h; cases h
  · rw [e]
    rcases Nat.lt_trichotomy i k with h4 | h4 | h4
    · rw [hl i h4] at h2; cases h2
    · rw [h4]
    · rw [h3 k h4] at h; cases h
theorem idxF_none {α : Type} {p : α → Bool} {l : List α} (h : ∀ j (hj : j < l.length), p l[j] = false) : idxF p l = -1 := by
  rcases idxF_spec (p := p) (l := l) with ⟨e, _⟩ | ⟨i, e, h1, h2, _⟩
  · exact e
  · rw [h i h1] at h2; cases h2
end Ds

/-! Where the named process stands; nodes, and flows. -/
namespace Ds
open Go Go.Sx Go.Proofs Lf
abbrev fIp : FuncId := 59
abbrev inDf : List FuncId := [fIp, 60]
def nsDf : List (Nat × Norm) := [((fIp + 1) * 100000 + 2, ⟨[], [0, 1, 7, 8, 19, 23, 24], 0, []⟩)]
abbrev fNs : FuncId := 43
abbrev fFs : FuncId := 70
def nsBo : List (Nat × Norm) := [((fNs + 1) * 100000 + 3, ⟨[(5, .ints .i64 [], 3)], [1, 5, 9, 10, 11], 0, []⟩)]
def nsFr : List (Nat × Norm) := [((fFs + 1) * 100000 + 3, ⟨[(5, .ints .i64 [], 3)], [1, 5, 9, 10, 11], 0, []⟩)]
def nsSo : List (Nat × Norm) := [((fNs + 1) * 100000 + 3, ⟨[(5, .ints .i64 [], 3)], [1, 5, 9, 10, 11], 0, [(1, 9, true, .typ cV [], eV), (1, 10, true, .strs [], 9)]⟩)]
def nsLi : List (Nat × Norm) := [((fNs + 1) * 100000 + 3, ⟨[(5, .ints .i64 [], 3)], [1, 5, 9, 10, 11], 0, [(0, 9, true, .typ cV [], eV), (0, 10, true, .strs [], 9)]⟩)]
abbrev inBo : List FuncId := [fNs, 50]
abbrev inAs : List FuncId := [fNs, 52]
abbrev inWi : List FuncId := [fNs, 51]
abbrev inFr : List FuncId := [fFs, 71]
abbrev inSo : List FuncId := [fNs, 45, 25, 42]
abbrev inLi : List FuncId := [fNs, 44, 25, 42]
theorem trDf (ps : Ps) (id : ByteArray) : run P tab0.sum Try.f32 nsDf (start Try.f32 [.s (.ro (.typ cP ps)), .s (.str id)] []) inDf =
  Tree.at (Cfg.mk (sl (36 : Nat) [((0 : Nat), AV.s (SV.ro (Con.typ cP ps))), ((1 : Nat), AV.fn (60 : Nat) [AV.ptr (0 : Nat) (0 : Nat)]), ((7 : Nat), AV.s (SV.int IntKind.i64 (↑(List.length ps) : Int))), ((8 : Nat), AV.s (SV.int IntKind.i64 (0 : Int))), ((19 : Nat), AV.s (SV.ro (Con.typ cP ps))), ((23 : Nat), AV.ptr (1 : Nat) (0 : Nat)), ((24 : Nat), AV.s (SV.bool false))]) [AObj.own [AV.s (SV.str id)] (9 : Nat), AObj.own [AV.s (SV.str ByteArray.empty), AV.emp, AV.emp, AV.emp] (26 : Nat)] (hd Try.f59 (2 : Nat)) (Stk.mk (some (59 : Nat)) false (0 : Nat) [inCall Try.f32 none (1 : Nat) (2 : Nat) false (0 : Nat)] (0 : Nat))) := by kernel_rfl
theorem trBo (a : ByteArray) (vs : Vs) (ns : Ns) (fs : Fs) (id : Int) : run P tab0.sum Try.f20 nsBo (start Try.f20 [avPr a vs ns fs, avI id] []) inBo =
  Tree.at (Cfg.mk (sl (33 : Nat) [((1 : Nat), AV.fn (50 : Nat) [AV.ptr (0 : Nat) (0 : Nat)]), ((5 : Nat), AV.vec (1 : Nat)), ((9 : Nat), AV.s (SV.ro (Con.typ cN ns))), ((10 : Nat), AV.s (SV.int IntKind.i64 (↑(List.length ns) : Int))), ((11 : Nat), AV.s (SV.int IntKind.i64 (0 : Int)))]) [AObj.own [AV.s (SV.int IntKind.i64 id)] (3 : Nat), AObj.vec (Con.ints IntKind.i64 []) (3 : Nat)] (hd Try.f43 (3 : Nat)) (Stk.mk (some (43 : Nat)) false (0 : Nat) [inCall Try.f20 none (1 : Nat) (2 : Nat) false (0 : Nat)] (0 : Nat))) := by kernel_rfl
theorem trAs (a : ByteArray) (vs : Vs) (ns : Ns) (fs : Fs) (id : Int) : run P tab0.sum Try.f22 nsBo (start Try.f22 [avPr a vs ns fs, avI id] []) inAs =
  Tree.at (Cfg.mk (sl (33 : Nat) [((1 : Nat), AV.fn (52 : Nat) [AV.ptr (0 : Nat) (0 : Nat)]), ((5 : Nat), AV.vec (1 : Nat)), ((9 : Nat), AV.s (SV.ro (Con.typ cN ns))), ((10 : Nat), AV.s (SV.int IntKind.i64 (↑(List.length ns) : Int))), ((11 : Nat), AV.s (SV.int IntKind.i64 (0 : Int)))]) [AObj.own [AV.s (SV.int IntKind.i64 id)] (3 : Nat), AObj.vec (Con.ints IntKind.i64 []) (3 : Nat)] (hd Try.f43 (3 : Nat)) (Stk.mk (some (43 : Nat)) false (0 : Nat) [inCall Try.f22 none (1 : Nat) (2 : Nat) false (0 : Nat)] (0 : Nat))) := by kernel_rfl
theorem trWi (a : ByteArray) (vs : Vs) (ns : Ns) (fs : Fs) (id : Int) : run P tab0.sum Try.f21 nsBo (start Try.f21 [avPr a vs ns fs, avI id] []) inWi =
  Tree.at (Cfg.mk (sl (33 : Nat) [((1 : Nat), AV.fn (51 : Nat) [AV.ptr (0 : Nat) (0 : Nat)]), ((5 : Nat), AV.vec (1 : Nat)), ((9 : Nat), AV.s (SV.ro (Con.typ cN ns))), ((10 : Nat), AV.s (SV.int IntKind.i64 (↑(List.length ns) : Int))), ((11 : Nat), AV.s (SV.int IntKind.i64 (0 : Int)))]) [AObj.own [AV.s (SV.int IntKind.i64 id)] (3 : Nat), AObj.vec (Con.ints IntKind.i64 []) (3 : Nat)] (hd Try.f43 (3 : Nat)) (Stk.mk (some (43 : Nat)) false (0 : Nat) [inCall Try.f21 none (1 : Nat) (2 : Nat) false (0 : Nat)] (0 : Nat))) := by kernel_rfl
theorem trFr (a : ByteArray) (vs : Vs) (ns : Ns) (fs : Fs) (id : Int) : run P tab0.sum Try.f56 nsFr (start Try.f56 [avPr a vs ns fs, avI id] []) inFr =
  Tree.at (Cfg.mk (sl (33 : Nat) [((1 : Nat), AV.fn (71 : Nat) [AV.ptr (0 : Nat) (0 : Nat)]), ((5 : Nat), AV.vec (1 : Nat)), ((9 : Nat), AV.s (SV.ro (Con.typ cF fs))), ((10 : Nat), AV.s (SV.int IntKind.i64 (↑(List.length fs) : Int))), ((11 : Nat), AV.s (SV.int IntKind.i64 (0 : Int)))]) [AObj.own [AV.s (SV.int IntKind.i64 id)] (3 : Nat), AObj.vec (Con.ints IntKind.i64 []) (3 : Nat)] (hd Try.f70 (3 : Nat)) (Stk.mk (some (70 : Nat)) false (0 : Nat) [inCall Try.f56 none (1 : Nat) (2 : Nat) false (0 : Nat)] (0 : Nat))) := by kernel_rfl
theorem trSo (a : ByteArray) (vs : Vs) (ns : Ns) (fs : Fs) (id : Int) : run P tab0.sum Try.f17 nsSo (start Try.f17 [avPr a vs ns fs, avI id] []) inSo =
  Tree.ite (decide (id < (0 : Int))) (Tree.at (Cfg.mk (sl (45 : Nat) [((1 : Nat), AV.fn (45 : Nat) [AV.ptr (0 : Nat) (0 : Nat), AV.ptr (1 : Nat) (0 : Nat)]), ((5 : Nat), AV.vec (2 : Nat)), ((9 : Nat), AV.s (SV.ro (Con.typ cN ns))), ((10 : Nat), AV.s (SV.int IntKind.i64 (↑(List.length ns) : Int))), ((11 : Nat), AV.s (SV.int IntKind.i64 (0 : Int)))]) [AObj.own [AV.s (SV.int IntKind.i64 id)] (3 : Nat), AObj.own [AV.s (SV.str ByteArray.empty), AV.s (SV.int IntKind.u8 (0 : Int)), AV.s (SV.int IntKind.i64 (0 : Int)), AV.s (SV.int IntKind.i64 (0 : Int)), AV.s (SV.int IntKind.u8 (0 : Int)), AV.s (SV.str ByteArray.empty), AV.s (SV.str ByteArray.empty), AV.s (SV.str ByteArray.empty), AV.s (SV.bool false), AV.s (SV.ro (Con.typ cV [])), AV.s (SV.ro (Con.strs []))] (34 : Nat), AObj.vec (Con.ints IntKind.i64 []) (3 : Nat)] (hd Try.f43 (3 : Nat)) (Stk.mk (some (43 : Nat)) false (0 : Nat) [inCall Try.f17 none (2 : Nat) (2 : Nat) false (0 : Nat)] (0 : Nat)))) (Tree.ite (decide (id ≥ (↑(List.length ns) : Int))) (Tree.at (Cfg.mk (sl (45 : Nat) [((1 : Nat), AV.fn (45 : Nat) [AV.ptr (0 : Nat) (0 : Nat), AV.ptr (1 : Nat) (0 : Nat)]), ((5 : Nat), AV.vec (2 : Nat)), ((9 : Nat), AV.s (SV.ro (Con.typ cN ns))), ((10 : Nat), AV.s (SV.int IntKind.i64 (↑(List.length ns) : Int))), ((11 : Nat), AV.s (SV.int IntKind.i64 (0 : Int)))]) [AObj.own [AV.s (SV.int IntKind.i64 id)] (3 : Nat), AObj.own [AV.s (SV.str ByteArray.empty), AV.s (SV.int IntKind.u8 (0 : Int)), AV.s (SV.int IntKind.i64 (0 : Int)), AV.s (SV.int IntKind.i64 (0 : Int)), AV.s (SV.int IntKind.u8 (0 : Int)), AV.s (SV.str ByteArray.empty), AV.s (SV.str ByteArray.empty), AV.s (SV.str ByteArray.empty), AV.s (SV.bool false), AV.s (SV.ro (Con.typ cV [])), AV.s (SV.ro (Con.strs []))] (34 : Nat), AObj.vec (Con.ints IntKind.i64 []) (3 : Nat)] (hd Try.f43 (3 : Nat)) (Stk.mk (some (43 : Nat)) false (0 : Nat) [inCall Try.f17 none (2 : Nat) (2 : Nat) false (0 : Nat)] (0 : Nat)))) (Tree.need ((0 : Int) ≤ id) (Tree.need (id < (↑(List.length ns) : Int)) (Tree.at (Cfg.mk (sl (45 : Nat) [((1 : Nat), AV.fn (45 : Nat) [AV.ptr (0 : Nat) (0 : Nat), AV.ptr (1 : Nat) (0 : Nat)]), ((5 : Nat), AV.vec (2 : Nat)), ((9 : Nat), AV.s (SV.ro (Con.typ cN ns))), ((10 : Nat), AV.s (SV.int IntKind.i64 (↑(List.length ns) : Int))), ((11 : Nat), AV.s (SV.int IntKind.i64 (0 : Int)))]) [AObj.own [AV.s (SV.int IntKind.i64 id)] (3 : Nat), AObj.own [AV.s (SV.str (nN (el ns id))), AV.s (SV.int IntKind.u8 (nK (el ns id))), AV.s (SV.int IntKind.i64 (nI (el ns id))), AV.s (SV.int IntKind.i64 (nO (el ns id))), AV.s (SV.int IntKind.u8 (nE (el ns id))), AV.s (SV.str (nY (el ns id))), AV.s (SV.str (nT (el ns id))), AV.s (SV.str (nS (el ns id))), AV.s (SV.bool (nB (el ns id))), AV.s (SV.ro (Con.typ cV (nV (el ns id)))), AV.s (SV.ro (Con.strs (nZ (el ns id))))] (34 : Nat), AObj.vec (Con.ints IntKind.i64 []) (3 : Nat)] (hd Try.f43 (3 : Nat)) (Stk.mk (some (43 : Nat)) false (0 : Nat) [inCall Try.f17 none (2 : Nat) (2 : Nat) false (0 : Nat)] (0 : Nat))))))) := by kernel_rfl
theorem trLi (a : ByteArray) (vs : Vs) (ns : Ns) (fs : Fs) (id : Int) : run P tab0.sum Try.f16 nsLi (start Try.f16 [avPr a vs ns fs, avI id] []) inLi =
  Tree.ite (decide (id < (0 : Int))) (Tree.ret [AObj.own [AV.s (SV.str a), AV.s (SV.ro (Con.typ cV vs)), AV.s (SV.ro (Con.typ cN ns)), AV.s (SV.ro (Con.typ cF fs))] (26 : Nat), AObj.own [AV.s (SV.str a), AV.s (SV.ro (Con.typ cV vs)), AV.s (SV.ro (Con.typ cN ns)), AV.s (SV.ro (Con.typ cF fs))] (26 : Nat), AObj.own [AV.s (SV.str ByteArray.empty), AV.s (SV.ilit IntKind.u8 (0 : Int)), AV.s (SV.ilit IntKind.i64 (0 : Int)), AV.s (SV.ilit IntKind.i64 (0 : Int)), AV.s (SV.ilit IntKind.u8 (0 : Int)), AV.s (SV.str ByteArray.empty), AV.s (SV.str ByteArray.empty), AV.s (SV.str ByteArray.empty), AV.s (SV.blit false), AV.emp, AV.emp] (34 : Nat), AObj.own [AV.s (SV.str ByteArray.empty), AV.s (SV.ilit IntKind.u8 (0 : Int)), AV.s (SV.ilit IntKind.i64 (0 : Int)), AV.s (SV.ilit IntKind.i64 (0 : Int)), AV.s (SV.ilit IntKind.u8 (0 : Int)), AV.s (SV.str ByteArray.empty), AV.s (SV.str ByteArray.empty), AV.s (SV.str ByteArray.empty), AV.s (SV.blit false), AV.emp, AV.emp] (34 : Nat)] (AV.tup [AV.s (SV.ilit IntKind.i64 (0 : Int)), AV.s (SV.blit false)]))
  (Tree.ite (decide (id ≥ (↑(List.length ns) : Int))) (Tree.ret [AObj.own [AV.s (SV.str a), AV.s (SV.ro (Con.typ cV vs)), AV.s (SV.ro (Con.typ cN ns)), AV.s (SV.ro (Con.typ cF fs))] (26 : Nat), AObj.own [AV.s (SV.str a), AV.s (SV.ro (Con.typ cV vs)), AV.s (SV.ro (Con.typ cN ns)), AV.s (SV.ro (Con.typ cF fs))] (26 : Nat), AObj.own [AV.s (SV.str ByteArray.empty), AV.s (SV.ilit IntKind.u8 (0 : Int)), AV.s (SV.ilit IntKind.i64 (0 : Int)), AV.s (SV.ilit IntKind.i64 (0 : Int)), AV.s (SV.ilit IntKind.u8 (0 : Int)), AV.s (SV.str ByteArray.empty), AV.s (SV.str ByteArray.empty), AV.s (SV.str ByteArray.empty), AV.s (SV.blit false), AV.emp, AV.emp] (34 : Nat), AObj.own [AV.s (SV.str ByteArray.empty), AV.s (SV.ilit IntKind.u8 (0 : Int)), AV.s (SV.ilit IntKind.i64 (0 : Int)), AV.s (SV.ilit IntKind.i64 (0 : Int)), AV.s (SV.ilit IntKind.u8 (0 : Int)), AV.s (SV.str ByteArray.empty), AV.s (SV.str ByteArray.empty), AV.s (SV.str ByteArray.empty), AV.s (SV.blit false), AV.emp, AV.emp] (34 : Nat)] (AV.tup [AV.s (SV.ilit IntKind.i64 (0 : Int)), AV.s (SV.blit false)]))
    (Tree.need ((0 : Int) ≤ id) (Tree.need (id < (↑(List.length ns) : Int)) (Tree.ite (nK (el ns id) != (5 : Int)) (Tree.ret [AObj.own [AV.s (SV.str a), AV.s (SV.ro (Con.typ cV vs)), AV.s (SV.ro (Con.typ cN ns)), AV.s (SV.ro (Con.typ cF fs))] (26 : Nat), AObj.own [AV.s (SV.str a), AV.s (SV.ro (Con.typ cV vs)), AV.s (SV.ro (Con.typ cN ns)), AV.s (SV.ro (Con.typ cF fs))] (26 : Nat), AObj.own [AV.s (SV.str (nN (el ns id))), AV.s (SV.int IntKind.u8 (nK (el ns id))), AV.s (SV.int IntKind.i64 (nI (el ns id))), AV.s (SV.int IntKind.i64 (nO (el ns id))), AV.s (SV.int IntKind.u8 (nE (el ns id))), AV.s (SV.str (nY (el ns id))), AV.s (SV.str (nT (el ns id))), AV.s (SV.str (nS (el ns id))), AV.s (SV.bool (nB (el ns id))), AV.s (SV.ro (Con.typ cV (nV (el ns id)))), AV.s (SV.ro (Con.strs (nZ (el ns id))))] (34 : Nat), AObj.own [AV.s (SV.str (nN (el ns id))), AV.s (SV.int IntKind.u8 (nK (el ns id))), AV.s (SV.int IntKind.i64 (nI (el ns id))), AV.s (SV.int IntKind.i64 (nO (el ns id))), AV.s (SV.int IntKind.u8 (nE (el ns id))), AV.s (SV.str (nY (el ns id))), AV.s (SV.str (nT (el ns id))), AV.s (SV.str (nS (el ns id))), AV.s (SV.bool (nB (el ns id))), AV.s (SV.ro (Con.typ cV (nV (el ns id)))), AV.s (SV.ro (Con.strs (nZ (el ns id))))] (34 : Nat)] (AV.tup [AV.s (SV.ilit IntKind.i64 (0 : Int)), AV.s (SV.blit false)])) (Tree.ite (nE (el ns id) != (6 : Int)) (Tree.ret [AObj.own [AV.s (SV.str a), AV.s (SV.ro (Con.typ cV vs)), AV.s (SV.ro (Con.typ cN ns)), AV.s (SV.ro (Con.typ cF fs))] (26 : Nat), AObj.own [AV.s (SV.str a), AV.s (SV.ro (Con.typ cV vs)), AV.s (SV.ro (Con.typ cN ns)), AV.s (SV.ro (Con.typ cF fs))] (26 : Nat), AObj.own [AV.s (SV.str (nN (el ns id))), AV.s (SV.int IntKind.u8 (nK (el ns id))), AV.s (SV.int IntKind.i64 (nI (el ns id))), AV.s (SV.int IntKind.i64 (nO (el ns id))), AV.s (SV.int IntKind.u8 (nE (el ns id))), AV.s (SV.str (nY (el ns id))), AV.s (SV.str (nT (el ns id))), AV.s (SV.str (nS (el ns id))), AV.s (SV.bool (nB (el ns id))), AV.s (SV.ro (Con.typ cV (nV (el ns id)))), AV.s (SV.ro (Con.strs (nZ (el ns id))))] (34 : Nat), AObj.own [AV.s (SV.str (nN (el ns id))), AV.s (SV.int IntKind.u8 (nK (el ns id))), AV.s (SV.int IntKind.i64 (nI (el ns id))), AV.s (SV.int IntKind.i64 (nO (el ns id))), AV.s (SV.int IntKind.u8 (nE (el ns id))), AV.s (SV.str (nY (el ns id))), AV.s (SV.str (nT (el ns id))), AV.s (SV.str (nS (el ns id))), AV.s (SV.bool (nB (el ns id))), AV.s (SV.ro (Con.typ cV (nV (el ns id)))), AV.s (SV.ro (Con.strs (nZ (el ns id))))] (34 : Nat)] (AV.tup [AV.s (SV.ilit IntKind.i64 (0 : Int)), AV.s (SV.blit false)])) (Tree.at (Cfg.mk (sl (53 : Nat) [((1 : Nat), AV.fn (44 : Nat) [AV.ptr (0 : Nat) (0 : Nat)]), ((5 : Nat), AV.vec (1 : Nat)), ((9 : Nat), AV.s (SV.ro (Con.typ cN ns))), ((10 : Nat), AV.s (SV.int IntKind.i64 (↑(List.length ns) : Int))), ((11 : Nat), AV.s (SV.int IntKind.i64 (0 : Int)))]) [AObj.own [AV.s (SV.str (nN (el ns id))), AV.s (SV.int IntKind.u8 (nK (el ns id))), AV.s (SV.int IntKind.i64 (nI (el ns id))), AV.s (SV.int IntKind.i64 (nO (el ns id))), AV.s (SV.int IntKind.u8 (nE (el ns id))), AV.s (SV.str (nY (el ns id))), AV.s (SV.str (nT (el ns id))), AV.s (SV.str (nS (el ns id))), AV.s (SV.bool (nB (el ns id))), AV.s (SV.ro (Con.typ cV (nV (el ns id)))), AV.s (SV.ro (Con.strs (nZ (el ns id))))] (34 : Nat), AObj.vec (Con.ints IntKind.i64 []) (3 : Nat)] (hd Try.f43 (3 : Nat)) (Stk.mk (some (43 : Nat)) false (0 : Nat) [inCall Try.f16 none (4 : Nat) (2 : Nat) false (0 : Nat)] (0 : Nat))))))))) := by kernel_rfl
theorem trNo (a : ByteArray) (vs : Vs) (ns : Ns) (fs : Fs) (id : Int) : run P tab0.sum Try.f25 [] (start Try.f25 [avPr a vs ns fs, avI id] []) [] =
  Tree.ite (decide (id < (0 : Int))) (Tree.ret [AObj.own [AV.s (SV.str a), AV.s (SV.ro (Con.typ cV vs)), AV.s (SV.ro (Con.typ cN ns)), AV.s (SV.ro (Con.typ cF fs))] (26 : Nat), AObj.own [AV.s (SV.str ByteArray.empty), AV.s (SV.ilit IntKind.u8 (0 : Int)), AV.s (SV.ilit IntKind.i64 (0 : Int)), AV.s (SV.ilit IntKind.i64 (0 : Int)), AV.s (SV.ilit IntKind.u8 (0 : Int)), AV.s (SV.str ByteArray.empty), AV.s (SV.str ByteArray.empty), AV.s (SV.str ByteArray.empty), AV.s (SV.blit false), AV.emp, AV.emp] (34 : Nat)] (AV.tup [AV.agg [AV.s (SV.str ByteArray.empty), AV.s (SV.ilit IntKind.u8 (0 : Int)), AV.s (SV.ilit IntKind.i64 (0 : Int)), AV.s (SV.ilit IntKind.i64 (0 : Int)), AV.s (SV.ilit IntKind.u8 (0 : Int)), AV.s (SV.str ByteArray.empty), AV.s (SV.str ByteArray.empty), AV.s (SV.str ByteArray.empty), AV.s (SV.blit false), AV.emp, AV.emp], AV.s (SV.blit false)])) (Tree.ite (decide (id ≥ (↑(List.length ns) : Int))) (Tree.ret [AObj.own [AV.s (SV.str a), AV.s (SV.ro (Con.typ cV vs)), AV.s (SV.ro (Con.typ cN ns)), AV.s (SV.ro (Con.typ cF fs))] (26 : Nat), AObj.own [AV.s (SV.str ByteArray.empty), AV.s (SV.ilit IntKind.u8 (0 : Int)), AV.s (SV.ilit IntKind.i64 (0 : Int)), AV.s (SV.ilit IntKind.i64 (0 : Int)), AV.s (SV.ilit IntKind.u8 (0 : Int)), AV.s (SV.str ByteArray.empty), AV.s (SV.str ByteArray.empty), AV.s (SV.str ByteArray.empty), AV.s (SV.blit false), AV.emp, AV.emp] (34 : Nat)] (AV.tup [AV.agg [AV.s (SV.str ByteArray.empty), AV.s (SV.ilit IntKind.u8 (0 : Int)), AV.s (SV.ilit IntKind.i64 (0 : Int)), AV.s (SV.ilit IntKind.i64 (0 : Int)), AV.s (SV.ilit IntKind.u8 (0 : Int)), AV.s (SV.str ByteArray.empty), AV.s (SV.str ByteArray.empty), AV.s (SV.str ByteArray.empty), AV.s (SV.blit false), AV.emp, AV.emp], AV.s (SV.blit false)])) (Tree.need ((0 : Int) ≤ id) (Tree.need (id < (↑(List.length ns) : Int)) (Tree.ret [AObj.own [AV.s (SV.str a), AV.s (SV.ro (Con.typ cV vs)), AV.s (SV.ro (Con.typ cN ns)), AV.s (SV.ro (Con.typ cF fs))] (26 : Nat), AObj.own [AV.s (SV.str (nN (el ns id))), AV.s (SV.int IntKind.u8 (nK (el ns id))), AV.s (SV.int IntKind.i64 (nI (el ns id))), AV.s (SV.int IntKind.i64 (nO (el ns id))), AV.s (SV.int IntKind.u8 (nE (el ns id))), AV.s (SV.str (nY (el ns id))), AV.s (SV.str (nT (el ns id))), AV.s (SV.str (nS (el ns id))), AV.s (SV.bool (nB (el ns id))), AV.s (SV.ro (Con.typ cV (nV (el ns id)))), AV.s (SV.ro (Con.strs (nZ (el ns id))))] (34 : Nat)] (AV.tup [AV.agg [AV.s (SV.str (nN (el ns id))), AV.s (SV.int IntKind.u8 (nK (el ns id))), AV.s (SV.int IntKind.i64 (nI (el ns id))), AV.s (SV.int IntKind.i64 (nO (el ns id))), AV.s (SV.int IntKind.u8 (nE (el ns id))), AV.s (SV.str (nY (el ns id))), AV.s (SV.str (nT (el ns id))), AV.s (SV.str (nS (el ns id))), AV.s (SV.bool (nB (el ns id))), AV.s (SV.ro (Con.typ cV (nV (el ns id)))), AV.s (SV.ro (Con.strs (nZ (el ns id))))], AV.s (SV.blit true)]))))) := by kernel_rfl
theorem trWa (x : CL cN) : run P tab0.sum Try.f29 [] (start Try.f29 [avNo x] []) [] =
  Tree.ite (nK x == (3 : Int)) (Tree.ret [AObj.own [AV.s (SV.str (nN x)), AV.s (SV.int IntKind.u8 (nK x)), AV.s (SV.int IntKind.i64 (nI x)), AV.s (SV.int IntKind.i64 (nO x)), AV.s (SV.int IntKind.u8 (nE x)), AV.s (SV.str (nY x)), AV.s (SV.str (nT x)), AV.s (SV.str (nS x)), AV.s (SV.bool (nB x)), AV.s (SV.ro (Con.typ cV (nV x))), AV.s (SV.ro (Con.strs (nZ x)))] (34 : Nat)] (AV.s (SV.blit true))) (Tree.ite (nK x == (10 : Int)) (Tree.ret [AObj.own [AV.s (SV.str (nN x)), AV.s (SV.int IntKind.u8 (nK x)), AV.s (SV.int IntKind.i64 (nI x)), AV.s (SV.int IntKind.i64 (nO x)), AV.s (SV.int IntKind.u8 (nE x)), AV.s (SV.str (nY x)), AV.s (SV.str (nT x)), AV.s (SV.str (nS x)), AV.s (SV.bool (nB x)), AV.s (SV.ro (Con.typ cV (nV x))), AV.s (SV.ro (Con.strs (nZ x)))] (34 : Nat)] (AV.s (SV.blit true))) (Tree.ite (nK x == (6 : Int)) (Tree.ite (nE x == (1 : Int)) (Tree.ret [AObj.own [AV.s (SV.str (nN x)), AV.s (SV.int IntKind.u8 (nK x)), AV.s (SV.int IntKind.i64 (nI x)), AV.s (SV.int IntKind.i64 (nO x)), AV.s (SV.int IntKind.u8 (nE x)), AV.s (SV.str (nY x)), AV.s (SV.str (nT x)), AV.s (SV.str (nS x)), AV.s (SV.bool (nB x)), AV.s (SV.ro (Con.typ cV (nV x))), AV.s (SV.ro (Con.strs (nZ x)))] (34 : Nat)] (AV.s (SV.blit true))) (Tree.ite (nE x == (2 : Int)) (Tree.ret [AObj.own [AV.s (SV.str (nN x)), AV.s (SV.int IntKind.u8 (nK x)), AV.s (SV.int IntKind.i64 (nI x)), AV.s (SV.int IntKind.i64 (nO x)), AV.s (SV.int IntKind.u8 (nE x)), AV.s (SV.str (nY x)), AV.s (SV.str (nT x)), AV.s (SV.str (nS x)), AV.s (SV.bool (nB x)), AV.s (SV.ro (Con.typ cV (nV x))), AV.s (SV.ro (Con.strs (nZ x)))] (34 : Nat)] (AV.s (SV.blit true))) (Tree.ret [AObj.own [AV.s (SV.str (nN x)), AV.s (SV.int IntKind.u8 (nK x)), AV.s (SV.int IntKind.i64 (nI x)), AV.s (SV.int IntKind.i64 (nO x)), AV.s (SV.int IntKind.u8 (nE x)), AV.s (SV.str (nY x)), AV.s (SV.str (nT x)), AV.s (SV.str (nS x)), AV.s (SV.bool (nB x)), AV.s (SV.ro (Con.typ cV (nV x))), AV.s (SV.ro (Con.strs (nZ x)))] (34 : Nat)] (AV.s (SV.bool (nE x == (3 : Int))))))) (Tree.ret [AObj.own [AV.s (SV.str (nN x)), AV.s (SV.int IntKind.u8 (nK x)), AV.s (SV.int IntKind.i64 (nI x)), AV.s (SV.int IntKind.i64 (nO x)), AV.s (SV.int IntKind.u8 (nE x)), AV.s (SV.str (nY x)), AV.s (SV.str (nT x)), AV.s (SV.str (nS x)), AV.s (SV.bool (nB x)), AV.s (SV.ro (Con.typ cV (nV x))), AV.s (SV.ro (Con.strs (nZ x)))] (34 : Nat)] (AV.s (SV.blit false))))) := by kernel_rfl
theorem trAc (x : Int) : run P tab0.sum Try.f36 [] (start Try.f36 [avU x] []) [] =
  Tree.ite (x == (3 : Int)) (Tree.ret [] (AV.s (SV.blit true))) (Tree.ite (x == (11 : Int)) (Tree.ret [] (AV.s (SV.blit true))) (Tree.ite (x == (12 : Int)) (Tree.ret [] (AV.s (SV.blit true))) (Tree.ret [] (AV.s (SV.bool (x == (14 : Int))))))) := by kernel_rfl
end Ds

namespace Ds
open Go Go.Sx Go.Proofs Lf
noncomputable def cDf (ps : Ps) (id : ByteArray) (i : Int) : Cfg := ⟨sl 36 [(0, .s (.ro (.typ cP ps))), (1, .fn 60 [.ptr 0 0]), (7, avI (ps.length : Int)), (8, avI i), (19, .s (.ro (.typ cP ps))), (23, .ptr 1 0), (24, .s (.bool false))], [.own [.s (.str id)] 9, .own [.s (.str ByteArray.empty), .emp, .emp, .emp] eP], hd Try.f59 2, ⟨some fIp, false, 0, [inCall Try.f32 none 1 2 false 0], 0⟩⟩
noncomputable def cNd (b : FuncId) (fn : Func) (r j : Nat) (id : Int) (ns : List (CL cN)) (l : List Int) (i : Int) : Cfg := ⟨sl 33 [(1, .fn b [.ptr 0 0]), (5, .vec 1), (9, .s (.ro (.typ cN ns))), (10, avI (ns.length : Int)), (11, avI i)], [.own [avI id] 3, .vec (.ints .i64 l) 3], hd Try.f43 3, ⟨some fNs, false, 0, [inCall fn none r j false 0], 0⟩⟩
noncomputable def cFl (id : Int) (fs : Fs) (l : List Int) (i : Int) : Cfg := ⟨sl 33 [(1, .fn 71 [.ptr 0 0]), (5, .vec 1), (9, .s (.ro (.typ cF fs))), (10, avI (fs.length : Int)), (11, avI i)], [.own [avI id] 3, .vec (.ints .i64 l) 3], hd Try.f70 3, ⟨some fFs, false, 0, [inCall Try.f56 none 1 2 false 0], 0⟩⟩
noncomputable def cSo (id : Int) (x : CL cN) (ns : List (CL cN)) (l : List Int) (i : Int) : Cfg := ⟨sl 45 [(1, .fn 45 [.ptr 0 0, .ptr 1 0]), (5, .vec 2), (9, .s (.ro (.typ cN ns))), (10, avI (ns.length : Int)), (11, avI i)], [.own [avI id] 3, obNo x, .vec (.ints .i64 l) 3], hd Try.f43 3, ⟨some fNs, false, 0, [inCall Try.f17 none 2 2 false 0], 0⟩⟩
noncomputable def cLi (x : CL cN) (ns : List (CL cN)) (l : List Int) (i : Int) : Cfg := ⟨sl 53 [(1, .fn 44 [.ptr 0 0]), (5, .vec 1), (9, .s (.ro (.typ cN ns))), (10, avI (ns.length : Int)), (11, avI i)], [obNo x, .vec (.ints .i64 l) 3], hd Try.f43 3, ⟨some fNs, false, 0, [inCall Try.f16 none 4 2 false 0], 0⟩⟩
def pDf (name : ByteArray) (p : CL cP) : Bool := decide (pN p = name)
def defP (ps : Ps) (name : ByteArray) : Int := idxF (pDf name) ps
def hasP (ps : Ps) (name : ByteArray) : Bool := decide (0 ≤ defP ps name)
def whereP (ps : Ps) (name : ByteArray) : Int := if 0 ≤ defP ps name then defP ps name else ps.length
def getP (ps : Ps) (name : ByteArray) : CL cP := el ps (whereP ps name)
def idxsF {α : Type} (p : α → Bool) : List α → Int → List Int
  | [], _ => []
  | x :: l, i => (if p x then [i] else []) ++ idxsF p l (i + 1)
def nodeAt (ns : List (CL cN)) (n : Int) : CL cN := if 0 ≤ n ∧ n < (ns.length : Int) then el ns n else CL.d cN
def pBo (n : Int) (x : CL cN) : Bool := (nK x == 15) && (nO x == n)
def pAs (n : Int) (x : CL cN) : Bool := (nK x == 13) && (nI x == n)
def pSo (n : Int) (sc : CL cN) (x : CL cN) : Bool := (nK x == 1) && (nI x == n) && ((nE x == 0) || (nK sc == 13))
def boundsF (ns : List (CL cN)) (n : Int) : List Int := idxsF (pBo n) ns 0
def asidesF (ns : List (CL cN)) (n : Int) : List Int := idxsF (pAs n) ns 0
def startsF (ns : List (CL cN)) (n : Int) : List Int := idxsF (pSo n (nodeAt ns n)) ns 0
def startF (ns : List (CL cN)) (n : Int) : Int := (startsF ns n).getD 0 0
def hasSt (ns : List (CL cN)) (n : Int) : Bool := decide (0 < (startsF ns n).length)
def pWi (n : Int) (x : CL cN) : Bool := nI x == n
def pFr (n : Int) (x : CL cF) : Bool := fA x == n
def withinF (ns : Ns) (n : Int) : List Int := idxsF (pWi n) ns 0
def fromF (fs : Fs) (n : Int) : List Int := idxsF (pFr n) fs 0
def pLi (t : CL cN) (x : CL cN) : Bool := (nK x == 6) && (nE x == 6) && decide (nY x = nY t) && (nI x == nI t)
def isLk (t : CL cN) : Bool := (nK t == 5) && (nE t == 6)
def linksF (ns : Ns) (n : Int) : List Int := if isLk (nodeAt ns n) then idxsF (pLi (nodeAt ns n)) ns 0 else []
def linkF (ns : Ns) (n : Int) : Int := (linksF ns n).getD 0 0
def hasLk (ns : Ns) (n : Int) : Bool := decide (0 < (linksF ns n).length)
def inN (ns : Ns) (n : Int) : Bool := decide (0 ≤ n ∧ n < (ns.length : Int))
def waitsF (x : CL cN) : Bool := (nK x == 3) || (nK x == 10) || ((nK x == 6) && ((nE x == 1) || (nE x == 2) || (nE x == 3)))
def actF (k : Int) : Bool := (k == 3) || (k == 11) || (k == 12) || (k == 14)
theorem loopDf (ps : Ps) (id : ByteArray) (i : Int) : run P tab0.sum Try.f32 nsDf (cDf ps id i) inDf =
  Tree.ite (decide (i < (↑(List.length ps) : Int))) (Tree.need ((0 : Int) ≤ i) (Tree.need (i < (↑(List.length ps) : Int)) (Tree.ite (decide (pN (el ps i) = id)) (Tree.ite (decide (i < (0 : Int))) (Tree.ret [AObj.own [AV.s (SV.str id)] (9 : Nat), AObj.own [AV.s (SV.str ByteArray.empty), AV.emp, AV.emp, AV.emp] (26 : Nat), AObj.own [AV.s (SV.str (pN (el ps i))), AV.s (SV.ro (Con.typ cV (pV (el ps i)))), AV.s (SV.ro (Con.typ cN (pO (el ps i)))), AV.s (SV.ro (Con.typ cF (pF (el ps i))))] (26 : Nat)] (AV.tup [AV.agg [AV.s (SV.str ByteArray.empty), AV.emp, AV.emp, AV.emp], AV.s (SV.blit false)])) (Tree.need ((0 : Int) ≤ i) (Tree.need (i < (↑(List.length ps) : Int)) (Tree.ret [AObj.own [AV.s (SV.str id)] (9 : Nat), AObj.own [AV.s (SV.str (pN (el ps i))), AV.s (SV.ro (Con.typ cV (pV (el ps i)))), AV.s (SV.ro (Con.typ cN (pO (el ps i)))), AV.s (SV.ro (Con.typ cF (pF (el ps i))))] (26 : Nat), AObj.own [AV.s (SV.str (pN (el ps i))), AV.s (SV.ro (Con.typ cV (pV (el ps i)))), AV.s (SV.ro (Con.typ cN (pO (el ps i)))), AV.s (SV.ro (Con.typ cF (pF (el ps i))))] (26 : Nat)] (AV.tup [AV.agg [AV.s (SV.str (pN (el ps i))), AV.s (SV.ro (Con.typ cV (pV (el ps i)))), AV.s (SV.ro (Con.typ cN (pO (el ps i)))), AV.s (SV.ro (Con.typ cF (pF (el ps i))))], AV.s (SV.blit true)]))))) (Tree.need (inI64 (i + (1 : Int))) (Tree.at (cDf ps id (i + (1 : Int)))))))) (Tree.ret [AObj.own [AV.s (SV.str id)] (9 : Nat), AObj.own [AV.s (SV.str ByteArray.empty), AV.emp, AV.emp, AV.emp] (26 : Nat)] (AV.tup [AV.agg [AV.s (SV.str ByteArray.empty), AV.emp, AV.emp, AV.emp], AV.s (SV.blit false)])) := by kernel_rfl
theorem loopBo (id : Int) (ns : Ns) (l : List Int) (i : Int) : run P tab0.sum Try.f20 nsBo (cNd 50 Try.f20 1 2 id ns l i) inBo =
  Tree.ite (decide (i < (↑(List.length ns) : Int))) (Tree.need ((0 : Int) ≤ i) (Tree.need (i < (↑(List.length ns) : Int)) (Tree.ite (nK (el ns i) == (15 : Int)) (Tree.ite (nO (el ns i) == id) (Tree.need ((l.length + (1 : Nat)) * (8 : Nat) ≤ (140737488355328 : Nat)) (Tree.need (inI64 (i + (1 : Int))) (Tree.at (Cfg.mk (sl (33 : Nat) [((1 : Nat), AV.fn (50 : Nat) [AV.ptr (0 : Nat) (0 : Nat)]), ((5 : Nat), AV.vec (1 : Nat)), ((9 : Nat), AV.s (SV.ro (Con.typ cN ns))), ((10 : Nat), AV.s (SV.int IntKind.i64 (↑(List.length ns) : Int))), ((11 : Nat), AV.s (SV.int IntKind.i64 (i + (1 : Int))))]) [AObj.own [AV.s (SV.int IntKind.i64 id)] (3 : Nat), AObj.vec (Con.ints IntKind.i64 (l ++ [i])) (3 : Nat)] (hd Try.f43 (3 : Nat)) (Stk.mk (some (43 : Nat)) false (0 : Nat) [inCall Try.f20 none (1 : Nat) (2 : Nat) false (0 : Nat)] (0 : Nat)))))) (Tree.need (inI64 (i + (1 : Int))) (Tree.at (Cfg.mk (sl (33 : Nat) [((1 : Nat), AV.fn (50 : Nat) [AV.ptr (0 : Nat) (0 : Nat)]), ((5 : Nat), AV.vec (1 : Nat)), ((9 : Nat), AV.s (SV.ro (Con.typ cN ns))), ((10 : Nat), AV.s (SV.int IntKind.i64 (↑(List.length ns) : Int))), ((11 : Nat), AV.s (SV.int IntKind.i64 (i + (1 : Int))))]) [AObj.own [AV.s (SV.int IntKind.i64 id)] (3 : Nat), AObj.vec (Con.ints IntKind.i64 l) (3 : Nat)] (hd Try.f43 (3 : Nat)) (Stk.mk (some (43 : Nat)) false (0 : Nat) [inCall Try.f20 none (1 : Nat) (2 : Nat) false (0 : Nat)] (0 : Nat)))))) (Tree.need (inI64 (i + (1 : Int))) (Tree.at (Cfg.mk (sl (33 : Nat) [((1 : Nat), AV.fn (50 : Nat) [AV.ptr (0 : Nat) (0 : Nat)]), ((5 : Nat), AV.vec (1 : Nat)), ((9 : Nat), AV.s (SV.ro (Con.typ cN ns))), ((10 : Nat), AV.s (SV.int IntKind.i64 (↑(List.length ns) : Int))), ((11 : Nat), AV.s (SV.int IntKind.i64 (i + (1 : Int))))]) [AObj.own [AV.s (SV.int IntKind.i64 id)] (3 : Nat), AObj.vec (Con.ints IntKind.i64 l) (3 : Nat)] (hd Try.f43 (3 : Nat)) (Stk.mk (some (43 : Nat)) false (0 : Nat) [inCall Try.f20 none (1 : Nat) (2 : Nat) false (0 : Nat)] (0 : Nat)))))))) (Tree.ret [AObj.own [AV.s (SV.int IntKind.i64 id)] (3 : Nat), AObj.vec (Con.ints IntKind.i64 l) (3 : Nat)] (AV.vec (1 : Nat))) := by kernel_rfl
theorem loopAs (id : Int) (ns : Ns) (l : List Int) (i : Int) : run P tab0.sum Try.f22 nsBo (cNd 52 Try.f22 1 2 id ns l i) inAs =
  Tree.ite (decide (i < (↑(List.length ns) : Int))) (Tree.need ((0 : Int) ≤ i) (Tree.need (i < (↑(List.length ns) : Int)) (Tree.ite (nK (el ns i) == (13 : Int)) (Tree.ite (nI (el ns i) == id) (Tree.need ((l.length + (1 : Nat)) * (8 : Nat) ≤ (140737488355328 : Nat)) (Tree.need (inI64 (i + (1 : Int))) (Tree.at (Cfg.mk (sl (33 : Nat) [((1 : Nat), AV.fn (52 : Nat) [AV.ptr (0 : Nat) (0 : Nat)]), ((5 : Nat), AV.vec (1 : Nat)), ((9 : Nat), AV.s (SV.ro (Con.typ cN ns))), ((10 : Nat), AV.s (SV.int IntKind.i64 (↑(List.length ns) : Int))), ((11 : Nat), AV.s (SV.int IntKind.i64 (i + (1 : Int))))]) [AObj.own [AV.s (SV.int IntKind.i64 id)] (3 : Nat), AObj.vec (Con.ints IntKind.i64 (l ++ [i])) (3 : Nat)] (hd Try.f43 (3 : Nat)) (Stk.mk (some (43 : Nat)) false (0 : Nat) [inCall Try.f22 none (1 : Nat) (2 : Nat) false (0 : Nat)] (0 : Nat)))))) (Tree.need (inI64 (i + (1 : Int))) (Tree.at (Cfg.mk (sl (33 : Nat) [((1 : Nat), AV.fn (52 : Nat) [AV.ptr (0 : Nat) (0 : Nat)]), ((5 : Nat), AV.vec (1 : Nat)), ((9 : Nat), AV.s (SV.ro (Con.typ cN ns))), ((10 : Nat), AV.s (SV.int IntKind.i64 (↑(List.length ns) : Int))), ((11 : Nat), AV.s (SV.int IntKind.i64 (i + (1 : Int))))]) [AObj.own [AV.s (SV.int IntKind.i64 id)] (3 : Nat), AObj.vec (Con.ints IntKind.i64 l) (3 : Nat)] (hd Try.f43 (3 : Nat)) (Stk.mk (some (43 : Nat)) false (0 : Nat) [inCall Try.f22 none (1 : Nat) (2 : Nat) false (0 : Nat)] (0 : Nat)))))) (Tree.need (inI64 (i + (1 : Int))) (Tree.at (Cfg.mk (sl (33 : Nat) [((1 : Nat), AV.fn (52 : Nat) [AV.ptr (0 : Nat) (0 : Nat)]), ((5 : Nat), AV.vec (1 : Nat)), ((9 : Nat), AV.s (SV.ro (Con.typ cN ns))), ((10 : Nat), AV.s (SV.int IntKind.i64 (↑(List.length ns) : Int))), ((11 : Nat), AV.s (SV.int IntKind.i64 (i + (1 : Int))))]) [AObj.own [AV.s (SV.int IntKind.i64 id)] (3 : Nat), AObj.vec (Con.ints IntKind.i64 l) (3 : Nat)] (hd Try.f43 (3 : Nat)) (Stk.mk (some (43 : Nat)) false (0 : Nat) [inCall Try.f22 none (1 : Nat) (2 : Nat) false (0 : Nat)] (0 : Nat)))))))) (Tree.ret [AObj.own [AV.s (SV.int IntKind.i64 id)] (3 : Nat), AObj.vec (Con.ints IntKind.i64 l) (3 : Nat)] (AV.vec (1 : Nat))) := by kernel_rfl
theorem loopWi (id : Int) (ns : Ns) (l : List Int) (i : Int) : run P tab0.sum Try.f21 nsBo (cNd 51 Try.f21 1 2 id ns l i) inWi =
  Tree.ite (decide (i < (↑(List.length ns) : Int))) (Tree.need ((0 : Int) ≤ i) (Tree.need (i < (↑(List.length ns) : Int)) (Tree.ite (nI (el ns i) == id) (Tree.need ((l.length + (1 : Nat)) * (8 : Nat) ≤ (140737488355328 : Nat)) (Tree.need (inI64 (i + (1 : Int))) (Tree.at (Cfg.mk (sl (33 : Nat) [((1 : Nat), AV.fn (51 : Nat) [AV.ptr (0 : Nat) (0 : Nat)]), ((5 : Nat), AV.vec (1 : Nat)), ((9 : Nat), AV.s (SV.ro (Con.typ cN ns))), ((10 : Nat), AV.s (SV.int IntKind.i64 (↑(List.length ns) : Int))), ((11 : Nat), AV.s (SV.int IntKind.i64 (i + (1 : Int))))]) [AObj.own [AV.s (SV.int IntKind.i64 id)] (3 : Nat), AObj.vec (Con.ints IntKind.i64 (l ++ [i])) (3 : Nat)] (hd Try.f43 (3 : Nat)) (Stk.mk (some (43 : Nat)) false (0 : Nat) [inCall Try.f21 none (1 : Nat) (2 : Nat) false (0 : Nat)] (0 : Nat)))))) (Tree.need (inI64 (i + (1 : Int))) (Tree.at (Cfg.mk (sl (33 : Nat) [((1 : Nat), AV.fn (51 : Nat) [AV.ptr (0 : Nat) (0 : Nat)]), ((5 : Nat), AV.vec (1 : Nat)), ((9 : Nat), AV.s (SV.ro (Con.typ cN ns))), ((10 : Nat), AV.s (SV.int IntKind.i64 (↑(List.length ns) : Int))), ((11 : Nat), AV.s (SV.int IntKind.i64 (i + (1 : Int))))]) [AObj.own [AV.s (SV.int IntKind.i64 id)] (3 : Nat), AObj.vec (Con.ints IntKind.i64 l) (3 : Nat)] (hd Try.f43 (3 : Nat)) (Stk.mk (some (43 : Nat)) false (0 : Nat) [inCall Try.f21 none (1 : Nat) (2 : Nat) false (0 : Nat)] (0 : Nat)))))))) (Tree.ret [AObj.own [AV.s (SV.int IntKind.i64 id)] (3 : Nat), AObj.vec (Con.ints IntKind.i64 l) (3 : Nat)] (AV.vec (1 : Nat))) := by kernel_rfl
theorem loopFr (id : Int) (fs : Fs) (l : List Int) (i : Int) : run P tab0.sum Try.f56 nsFr (cFl id fs l i) inFr =
  Tree.ite (decide (i < (↑(List.length fs) : Int))) (Tree.need ((0 : Int) ≤ i) (Tree.need (i < (↑(List.length fs) : Int)) (Tree.ite (fA (el fs i) == id) (Tree.need ((l.length + (1 : Nat)) * (8 : Nat) ≤ (140737488355328 : Nat)) (Tree.need (inI64 (i + (1 : Int))) (Tree.at (cFl id fs (l ++ [i]) (i + (1 : Int)))))) (Tree.need (inI64 (i + (1 : Int))) (Tree.at (cFl id fs l (i + (1 : Int)))))))) (Tree.ret [AObj.own [AV.s (SV.int IntKind.i64 id)] (3 : Nat), AObj.vec (Con.ints IntKind.i64 l) (3 : Nat)] (AV.vec (1 : Nat))) := by kernel_rfl
theorem loopSo (id : Int) (x : CL cN) (ns : List (CL cN)) (l : List Int) (i : Int) : run P tab0.sum Try.f17 nsSo (cSo id x ns l i) inSo =
  Tree.ite (decide (i < (↑ns.length : Int))) (Tree.need ((0 : Int) ≤ i) (Tree.need (i < (↑ns.length : Int)) (Tree.ite (nK (el ns i) == (1 : Int)) (Tree.ite (nI (el ns i) == id) (Tree.ite (nE (el ns i) == (0 : Int)) (Tree.need ((l.length + (1 : Nat)) * (8 : Nat) ≤ (140737488355328 : Nat)) (Tree.need (inI64 (i + (1 : Int))) (Tree.at (cSo id x ns (l ++ [i]) (i + (1 : Int)))))) (Tree.ite (nK x == (13 : Int)) (Tree.need ((l.length + (1 : Nat)) * (8 : Nat) ≤ (140737488355328 : Nat)) (Tree.need (inI64 (i + (1 : Int))) (Tree.at (cSo id x ns (l ++ [i]) (i + (1 : Int)))))) (Tree.need (inI64 (i + (1 : Int))) (Tree.at (cSo id x ns l (i + (1 : Int))))))) (Tree.need (inI64 (i + (1 : Int))) (Tree.at (cSo id x ns l (i + (1 : Int)))))) (Tree.need (inI64 (i + (1 : Int))) (Tree.at (cSo id x ns l (i + (1 : Int)))))))) (Tree.ite ((↑l.length : Int) == (0 : Int)) (Tree.ret [AObj.own [AV.s (SV.int IntKind.i64 id)] (3 : Nat), AObj.own [AV.s (SV.str (nN x)), AV.s (SV.int IntKind.u8 (nK x)), AV.s (SV.int IntKind.i64 (nI x)), AV.s (SV.int IntKind.i64 (nO x)), AV.s (SV.int IntKind.u8 (nE x)), AV.s (SV.str (nY x)), AV.s (SV.str (nT x)), AV.s (SV.str (nS x)), AV.s (SV.bool (nB x)), AV.s (SV.ro (Con.typ cV (nV x))), AV.s (SV.ro (Con.strs (nZ x)))] (34 : Nat), AObj.vec (Con.ints IntKind.i64 l) (3 : Nat)] (AV.tup [AV.s (SV.ilit IntKind.i64 (0 : Int)), AV.s (SV.blit false)])) (Tree.need ((0 : Int) ≤ (0 : Int)) (Tree.need ((0 : Int) < (↑l.length : Int)) (Tree.ret [AObj.own [AV.s (SV.int IntKind.i64 id)] (3 : Nat), AObj.own [AV.s (SV.str (nN x)), AV.s (SV.int IntKind.u8 (nK x)), AV.s (SV.int IntKind.i64 (nI x)), AV.s (SV.int IntKind.i64 (nO x)), AV.s (SV.int IntKind.u8 (nE x)), AV.s (SV.str (nY x)), AV.s (SV.str (nT x)), AV.s (SV.str (nS x)), AV.s (SV.bool (nB x)), AV.s (SV.ro (Con.typ cV (nV x))), AV.s (SV.ro (Con.strs (nZ x)))] (34 : Nat), AObj.vec (Con.ints IntKind.i64 l) (3 : Nat)] (AV.tup [AV.s (SV.int IntKind.i64 (l.getD (0 : Nat) (0 : Int))), AV.s (SV.blit true)]))))) := by kernel_rfl
theorem loopLi (x : CL cN) (ns : List (CL cN)) (l : List Int) (i : Int) : run P tab0.sum Try.f16 nsLi (cLi x ns l i) inLi =
  Tree.ite (decide (i < (↑ns.length : Int))) (Tree.need ((0 : Int) ≤ i) (Tree.need (i < (↑ns.length : Int)) (Tree.ite (nK (el ns i) == (6 : Int)) (Tree.ite (nE (el ns i) == (6 : Int)) (Tree.ite (decide (nY (el ns i) = nY x)) (Tree.ite (nI (el ns i) == nI x) (Tree.need ((l.length + (1 : Nat)) * (8 : Nat) ≤ (140737488355328 : Nat)) (Tree.need (inI64 (i + (1 : Int))) (Tree.at (cLi x ns (l ++ [i]) (i + (1 : Int)))))) (Tree.need (inI64 (i + (1 : Int))) (Tree.at (cLi x ns l (i + (1 : Int)))))) (Tree.need (inI64 (i + (1 : Int))) (Tree.at (cLi x ns l (i + (1 : Int)))))) (Tree.need (inI64 (i + (1 : Int))) (Tree.at (cLi x ns l (i + (1 : Int)))))) (Tree.need (inI64 (i + (1 : Int))) (Tree.at (cLi x ns l (i + (1 : Int)))))))) (Tree.ite ((↑l.length : Int) == (0 : Int)) (Tree.ret [AObj.own [AV.s (SV.str (nN x)), AV.s (SV.int IntKind.u8 (nK x)), AV.s (SV.int IntKind.i64 (nI x)), AV.s (SV.int IntKind.i64 (nO x)), AV.s (SV.int IntKind.u8 (nE x)), AV.s (SV.str (nY x)), AV.s (SV.str (nT x)), AV.s (SV.str (nS x)), AV.s (SV.bool (nB x)), AV.s (SV.ro (Con.typ cV (nV x))), AV.s (SV.ro (Con.strs (nZ x)))] (34 : Nat), AObj.vec (Con.ints IntKind.i64 l) (3 : Nat)] (AV.tup [AV.s (SV.ilit IntKind.i64 (0 : Int)), AV.s (SV.blit false)])) (Tree.need ((0 : Int) ≤ (0 : Int)) (Tree.need ((0 : Int) < (↑l.length : Int)) (Tree.ret [AObj.own [AV.s (SV.str (nN x)), AV.s (SV.int IntKind.u8 (nK x)), AV.s (SV.int IntKind.i64 (nI x)), AV.s (SV.int IntKind.i64 (nO x)), AV.s (SV.int IntKind.u8 (nE x)), AV.s (SV.str (nY x)), AV.s (SV.str (nT x)), AV.s (SV.str (nS x)), AV.s (SV.bool (nB x)), AV.s (SV.ro (Con.typ cV (nV x))), AV.s (SV.ro (Con.strs (nZ x)))] (34 : Nat), AObj.vec (Con.ints IntKind.i64 l) (3 : Nat)] (AV.tup [AV.s (SV.int IntKind.i64 (l.getD (0 : Nat) (0 : Int))), AV.s (SV.blit true)]))))) := by kernel_rfl
theorem df_end {ps : Ps} {name : ByteArray} (h : defP ps name = -1) : getP ps name = CL.d cP ∧ hasP ps name = false := by
  refine ⟨?_, by unfold hasP; rw [h]; rfl⟩
  show el ps (whereP ps name) = _
  unfold whereP
  rw [if_neg (by omega)]
  show ps.getD (ps.length : Int).toNat (CL.d cP) = _
  simp [List.getD]
theorem def_ok {Z : Glob} : FnOk P Z 32 [tDefs, tStr] [tPrr, tBool] (fun _ => []) (fun (ps, name, ()) => ((pN (getP ps name), pV (getP ps name), pO (getP ps name), pF (getP ps name), ()), hasP ps name, ())) := by
  refine fnOk_of_safe Try.func32 (by kernel_rfl) (by kernel_rfl) ?_
  rintro ⟨(ps : Ps), (name : ByteArray), ⟨⟩⟩ ⟨(hl : ps.length ≤ maxLen), _⟩ _ X hX hz
  have hl2 : ps.length ≤ 9223372036854775807 := by unfold maxLen at hl; omega
  show Safe P 32 X (Ends [tPrr, tBool] ((pN (getP ps name), pV (getP ps name), pO (getP ps name), pF (getP ps name), ()), hasP ps name, ())) _
  have loop : ∀ (j k : Nat), k + j = ps.length → (∀ i (hi : i < k) (h2 : i < ps.length), pDf name ps[i] = false) → Safe P 32 X (Ends [tPrr, tBool] ((pN (getP ps name), pV (getP ps name), pO (getP ps name), pF (getP ps name), ()), hasP ps name, ())) (cDf ps name (k : Int)) := by
    intro j
    induction j with
    | zero =>
      intro k hk hi
      have e : defP ps name = -1 := idxF_none fun j hj => hi j (by omega) hj
      obtain ⟨e1, e2⟩ := df_end e
      refine go hz hX Tab.Ok.nil Try.func32 (loopDf ps name k) ⟨fun h => absurd (of_decide_eq_true h) (by omega), fun _ => ?_⟩
      rw [e1, e2]; exact ends_eq _ rfl (by kernel_rfl)
    | succ j ih =>
      intro k hk hi
      have hlt : k < ps.length := by omega
      refine go hz hX Tab.Ok.nil Try.func32 (loopDf ps name k) (yes_and (decide_eq_true (by omega)) ⟨by omega, by omega, ?_⟩)
      have next := fun h : pDf name ps[k] = false => ih (k + 1) (by omega) fun i h1 h2 => by
        by_cases e : i = k
        · subst e; exact h
        · exact hi i (by omega) h2
      have fin := fun h : pDf name ps[k] = true => idxF_at (p := pDf name) hlt h fun j hj => hi j hj (by omega)
      cases hp : pDf name ps[k] with
      | true =>
        have e : defP ps name = (k : Int) := fin hp
        have e1 : getP ps name = el ps (k : Int) := by
          show el ps (whereP ps name) = _
          unfold whereP
          rw [if_pos (by omega), e]
        have e2 : hasP ps name = true := by unfold hasP; rw [decide_eq_true (by omega)]
        have hp' : pN (el ps (k : Int)) = name := by rw [el_lt hlt]; exact of_decide_eq_true hp
        refine yes_and (decide_eq_true hp') (no_and (decide_eq_false (by omega)) ⟨by omega, by omega, ?_⟩)
        rw [e1, e2]
        generalize el ps (k : Int) = x
        exact ends_eq _ rfl (by kernel_rfl)
      | false =>
        have hp' : ¬ pN (el ps (k : Int)) = name := by rw [el_lt hlt]; exact of_decide_eq_false hp
        exact no_and (decide_eq_false hp') ⟨⟨by omega, by omega⟩, next hp⟩
  exact go hz hX Tab.Ok.nil Try.func32 (trDf ps name) (loop ps.length 0 (by omega) fun i hi => absurd hi (Nat.not_lt_zero _))
theorem idxs_snoc {α : Type} {p : α → Bool} : ∀ (l : List α) (x : α) (i : Int), idxsF p (l ++ [x]) i = idxsF p l i ++ (if p x then [i + l.length] else [])
  | [], x, i => by simp [idxsF]
  | y :: l, x, i => by
    simp only [List.cons_append, idxsF, idxs_snoc l x (i + 1), List.append_assoc, List.length_cons]
    congr 2
    split
    · congr 1; push_cast; omega
    · rfl
theorem idxs_len {α : Type} {p : α → Bool} : ∀ (l : List α) (i : Int), (idxsF p l i).length ≤ l.length
  | [], i => Nat.le_refl _
  | y :: l, i => by
    have := idxs_len (p := p) l (i + 1)
    simp only [idxsF, List.length_append, List.length_cons]
    split <;> simp <;> omega
theorem idxs_take {cs : List CK} {p : CL cs → Bool} {l : List (CL cs)} {k : Nat} (h : k < l.length) : idxsF p (l.take (k + 1)) 0 = idxsF p (l.take k) 0 ++ (if p l[k] then [(k : Int)] else []) := by
  rw [List.take_add_one, List.getElem?_eq_getElem h, Option.toList_some, idxs_snoc, List.length_take, Nat.min_eq_left (by omega), Int.zero_add]
theorem idxs_tlen {cs : List CK} {p : CL cs → Bool} {l : List (CL cs)} {k : Nat} : (idxsF p (l.take k) 0).length ≤ k := Nat.le_trans (idxs_len _ _) (by rw [List.length_take]; omega)
theorem bo_ok {Z : Glob} : FnOk P Z 20 [tPr, tInt] [tNs] (fun ((_, _, ns, _, ()), _, ()) => [(ns : List (CL cN)).length ≤ 1000000]) (fun ((_, _, ns, _, ()), n, ()) => (boundsF ns n, ())) := by
  refine fnOk_of_safe Try.func20 (by kernel_rfl) (by kernel_rfl) ?_
  rintro ⟨⟨(a : ByteArray), (vs : List (CL cV)), (ns : List (CL cN)), (fs : List (CL cF)), ⟨⟩⟩, (n : Int), ⟨⟩⟩ _ ⟨(hl : ns.length ≤ 1000000), _⟩ X hX hz
  show Safe P 20 X (Ends [tNs] (boundsF ns n, ())) _
  have loop : ∀ (j k : Nat), k + j = ns.length → Safe P 20 X (Ends [tNs] (boundsF ns n, ())) (cNd 50 Try.f20 1 2 n ns (idxsF (pBo n) (ns.take k) 0) (k : Int)) := by
    intro j
    induction j with
    | zero =>
      intro k hk
      rw [List.take_of_length_le (by omega)]
      exact go hz hX Tab.Ok.nil Try.func20 (loopBo n ns _ k) (no_and (decide_eq_false (by omega)) (ends_eq _ rfl (by kernel_rfl)))
    | succ j ih =>
      intro k hk
      have hlt : k < ns.length := by omega
      have next := ih (k + 1) (by omega)
      rw [idxs_take hlt] at next
      have htl := idxs_tlen (p := pBo n) (l := ns) (k := k)
      refine go hz hX Tab.Ok.nil Try.func20 (loopBo n ns _ k) (yes_and (decide_eq_true (by omega)) ⟨by omega, by omega, ?_⟩)
      rw [el_lt hlt]
      generalize idxsF (pBo n) (ns.take k) 0 = acc at *
      cases h1 : nK ns[k] == 15 with
      | false =>
        have e : pBo n ns[k] = false := by unfold pBo; rw [h1]; rfl
        rw [e, if_neg (by simp), List.append_nil] at next
        exact no_and rfl ⟨⟨by omega, by omega⟩, next⟩
      | true =>
        refine yes_and rfl ?_
        cases h2 : nO ns[k] == n with
        | false =>
          have e : pBo n ns[k] = false := by unfold pBo; rw [h1, h2]; rfl
          rw [e, if_neg (by simp), List.append_nil] at next
          exact no_and rfl ⟨⟨by omega, by omega⟩, next⟩
        | true =>
          have e : pBo n ns[k] = true := by unfold pBo; rw [h1, h2]; rfl
          rw [e, if_pos rfl] at next
          exact yes_and rfl ⟨by omega, ⟨by omega, by omega⟩, next⟩
  exact go hz hX Tab.Ok.nil Try.func20 (trBo a vs ns fs n) (loop ns.length 0 (by omega))
theorem as_ok {Z : Glob} : FnOk P Z 22 [tPr, tInt] [tNs] (fun ((_, _, ns, _, ()), _, ()) => [(ns : List (CL cN)).length ≤ 1000000]) (fun ((_, _, ns, _, ()), n, ()) => (asidesF ns n, ())) := by
  refine fnOk_of_safe Try.func22 (by kernel_rfl) (by kernel_rfl) ?_
  rintro ⟨⟨(a : ByteArray), (vs : List (CL cV)), (ns : List (CL cN)), (fs : List (CL cF)), ⟨⟩⟩, (n : Int), ⟨⟩⟩ _ ⟨(hl : ns.length ≤ 1000000), _⟩ X hX hz
  show Safe P 22 X (Ends [tNs] (asidesF ns n, ())) _
  have loop : ∀ (j k : Nat), k + j = ns.length → Safe P 22 X (Ends [tNs] (asidesF ns n, ())) (cNd 52 Try.f22 1 2 n ns (idxsF (pAs n) (ns.take k) 0) (k : Int)) := by
    intro j
    induction j with
    | zero =>
      intro k hk
      rw [List.take_of_length_le (by omega)]
      exact go hz hX Tab.Ok.nil Try.func22 (loopAs n ns _ k) (no_and (decide_eq_false (by omega)) (ends_eq _ rfl (by kernel_rfl)))
    | succ j ih =>
      intro k hk
      have hlt : k < ns.length := by omega
      have next := ih (k + 1) (by omega)
      rw [idxs_take hlt] at next
      have htl := idxs_tlen (p := pAs n) (l := ns) (k := k)
      refine go hz hX Tab.Ok.nil Try.func22 (loopAs n ns _ k) (yes_and (decide_eq_true (by omega)) ⟨by omega, by omega, ?_⟩)
      rw [el_lt hlt]
      generalize idxsF (pAs n) (ns.take k) 0 = acc at *
      cases h1 : nK ns[k] == 13 with
      | false =>
        have e : pAs n ns[k] = false := by unfold pAs; rw [h1]; rfl
        rw [e, if_neg (by simp), List.append_nil] at next
        exact no_and rfl ⟨⟨by omega, by omega⟩, next⟩
      | true =>
        refine yes_and rfl ?_
        cases h2 : nI ns[k] == n with
        | false =>
          have e : pAs n ns[k] = false := by unfold pAs; rw [h1, h2]; rfl
          rw [e, if_neg (by simp), List.append_nil] at next
          exact no_and rfl ⟨⟨by omega, by omega⟩, next⟩
        | true =>
          have e : pAs n ns[k] = true := by unfold pAs; rw [h1, h2]; rfl
          rw [e, if_pos rfl] at next
          exact yes_and rfl ⟨by omega, ⟨by omega, by omega⟩, next⟩
  exact go hz hX Tab.Ok.nil Try.func22 (trAs a vs ns fs n) (loop ns.length 0 (by omega))
theorem wi_ok {Z : Glob} : FnOk P Z 21 [tPr, tInt] [tNs] (fun ((_, _, ns, _, ()), _, ()) => [(ns : List (CL cN)).length ≤ 1000000]) (fun ((_, _, ns, _, ()), n, ()) => (withinF ns n, ())) := by
  refine fnOk_of_safe Try.func21 (by kernel_rfl) (by kernel_rfl) ?_
  rintro ⟨⟨(a : ByteArray), (vs : List (CL cV)), (ns : List (CL cN)), (fs : List (CL cF)), ⟨⟩⟩, (n : Int), ⟨⟩⟩ _ ⟨(hl : ns.length ≤ 1000000), _⟩ X hX hz
  show Safe P 21 X (Ends [tNs] (withinF ns n, ())) _
  have loop : ∀ (j k : Nat), k + j = ns.length → Safe P 21 X (Ends [tNs] (withinF ns n, ())) (cNd 51 Try.f21 1 2 n ns (idxsF (pWi n) (ns.take k) 0) (k : Int)) := by
    intro j
    induction j with
    | zero =>
      intro k hk
      rw [List.take_of_length_le (by omega)]
      exact go hz hX Tab.Ok.nil Try.func21 (loopWi n ns _ k) (no_and (decide_eq_false (by omega)) (ends_eq _ rfl (by kernel_rfl)))
    | succ j ih =>
      intro k hk
      have hlt : k < ns.length := by omega
      have next := ih (k + 1) (by omega)
      rw [idxs_take hlt] at next
      have htl := idxs_tlen (p := pWi n) (l := ns) (k := k)
      refine go hz hX Tab.Ok.nil Try.func21 (loopWi n ns _ k) (yes_and (decide_eq_true (by omega)) ⟨by omega, by omega, ?_⟩)
      rw [el_lt hlt]
      generalize idxsF (pWi n) (ns.take k) 0 = acc at *
      cases h2 : nI ns[k] == n with
      | false =>
        have e : pWi n ns[k] = false := h2
        rw [e, if_neg (by simp), List.append_nil] at next
        exact no_and rfl ⟨⟨by omega, by omega⟩, next⟩
      | true =>
        have e : pWi n ns[k] = true := h2
        rw [e, if_pos rfl] at next
        exact yes_and rfl ⟨by omega, ⟨by omega, by omega⟩, next⟩
  exact go hz hX Tab.Ok.nil Try.func21 (trWi a vs ns fs n) (loop ns.length 0 (by omega))
theorem fr_ok {Z : Glob} : FnOk P Z 56 [tPr, tInt] [tNs] (fun ((_, _, _, fs, ()), _, ()) => [(fs : List (CL cF)).length ≤ 1000000]) (fun ((_, _, _, fs, ()), n, ()) => (fromF fs n, ())) := by
  refine fnOk_of_safe Try.func56 (by kernel_rfl) (by kernel_rfl) ?_
  rintro ⟨⟨(a : ByteArray), (vs : List (CL cV)), (ns : List (CL cN)), (fs : List (CL cF)), ⟨⟩⟩, (n : Int), ⟨⟩⟩ _ ⟨(hl : fs.length ≤ 1000000), _⟩ X hX hz
  show Safe P 56 X (Ends [tNs] (fromF fs n, ())) _
  have loop : ∀ (j k : Nat), k + j = fs.length → Safe P 56 X (Ends [tNs] (fromF fs n, ())) (cFl n fs (idxsF (pFr n) (fs.take k) 0) (k : Int)) := by
    intro j
    induction j with
    | zero =>
      intro k hk
      rw [List.take_of_length_le (by omega)]
      exact go hz hX Tab.Ok.nil Try.func56 (loopFr n fs _ k) (no_and (decide_eq_false (by omega)) (ends_eq _ rfl (by kernel_rfl)))
    | succ j ih =>
      intro k hk
      have hlt : k < fs.length := by omega
      have next := ih (k + 1) (by omega)
      rw [idxs_take hlt] at next
      have htl := idxs_tlen (p := pFr n) (l := fs) (k := k)
      refine go hz hX Tab.Ok.nil Try.func56 (loopFr n fs _ k) (yes_and (decide_eq_true (by omega)) ⟨by omega, by omega, ?_⟩)
      rw [el_lt hlt]
      generalize idxsF (pFr n) (fs.take k) 0 = acc at *
      cases h2 : fA fs[k] == n with
      | false =>
        have e : pFr n fs[k] = false := h2
        rw [e, if_neg (by simp), List.append_nil] at next
        exact no_and rfl ⟨⟨by omega, by omega⟩, next⟩
      | true =>
        have e : pFr n fs[k] = true := h2
        rw [e, if_pos rfl] at next
        exact yes_and rfl ⟨by omega, ⟨by omega, by omega⟩, next⟩
  exact go hz hX Tab.Ok.nil Try.func56 (trFr a vs ns fs n) (loop fs.length 0 (by omega))
theorem so_ok {Z : Glob} : FnOk P Z 17 [tPr, tInt] [tInt, tBool] (fun ((_, _, ns, _, ()), _, ()) => [(ns : List (CL cN)).length ≤ 1000000]) (fun ((_, _, ns, _, ()), n, ()) => (startF ns n, hasSt ns n, ())) := by
  refine fnOk_of_safe Try.func17 (by kernel_rfl) (by kernel_rfl) ?_
  rintro ⟨⟨(a : ByteArray), (vs : List (CL cV)), (ns : List (CL cN)), (fs : List (CL cF)), ⟨⟩⟩, (n : Int), ⟨⟩⟩ _ ⟨(hl : ns.length ≤ 1000000), _⟩ X hX hz
  show Safe P 17 X (Ends [tInt, tBool] (startF ns n, hasSt ns n, ())) _
  have loop : ∀ (j k : Nat), k + j = ns.length → Safe P 17 X (Ends [tInt, tBool] (startF ns n, hasSt ns n, ())) (cSo n (nodeAt ns n) ns (idxsF (pSo n (nodeAt ns n)) (ns.take k) 0) (k : Int)) := by
    intro j
    induction j with
    | zero =>
      intro k hk
      rw [List.take_of_length_le (by omega)]
      refine go hz hX Tab.Ok.nil Try.func17 (loopSo n (nodeAt ns n) ns _ k) (no_and (decide_eq_false (by omega)) ?_)
      show Tree.Holds (Ends [tInt, tBool] ((startsF ns n).getD 0 0, decide (0 < (startsF ns n).length), ())) _ _
      rw [show idxsF (pSo n (nodeAt ns n)) ns 0 = startsF ns n from rfl]
      generalize startsF ns n = l
      generalize nodeAt ns n = x
      cases l with
      | nil => exact yes_and rfl (ends_eq _ rfl (by kernel_rfl))
      | cons y l =>
        refine no_and ?_ ⟨by omega, by simp only [List.length_cons]; omega, ?_⟩
        · rw [beq_eq_false_iff_ne, List.length_cons]; omega
        · rw [decide_eq_true (show 0 < (y :: l).length by simp)]
          exact ends_eq _ rfl (by kernel_rfl)
    | succ j ih =>
      intro k hk
      have hlt : k < ns.length := by omega
      have next := ih (k + 1) (by omega)
      rw [idxs_take hlt] at next
      have htl := idxs_tlen (p := pSo n (nodeAt ns n)) (l := ns) (k := k)
      refine go hz hX Tab.Ok.nil Try.func17 (loopSo n (nodeAt ns n) ns _ k) (yes_and (decide_eq_true (by omega)) ⟨by omega, by omega, ?_⟩)
      rw [el_lt hlt]
      generalize idxsF (pSo n (nodeAt ns n)) (ns.take k) 0 = acc at *
      have no : pSo n (nodeAt ns n) ns[k] = false → Safe P 17 X (Ends [tInt, tBool] (startF ns n, hasSt ns n, ())) (cSo n (nodeAt ns n) ns acc ((k + 1 : Nat) : Int)) := fun e => by
        rw [e, if_neg (by simp), List.append_nil] at next; exact next
      have yes : pSo n (nodeAt ns n) ns[k] = true → Safe P 17 X (Ends [tInt, tBool] (startF ns n, hasSt ns n, ())) (cSo n (nodeAt ns n) ns (acc ++ [(k : Int)]) ((k + 1 : Nat) : Int)) := fun e => by
        rw [e, if_pos rfl] at next; exact next
      clear next
      generalize nodeAt ns n = sc at *
      cases h1 : nK ns[k] == 1 with
      | false => exact no_and rfl ⟨⟨by omega, by omega⟩, no (by unfold pSo; rw [h1]; rfl)⟩
      | true =>
        refine yes_and rfl ?_
        cases h2 : nI ns[k] == n with
        | false => exact no_and rfl ⟨⟨by omega, by omega⟩, no (by unfold pSo; rw [h1, h2]; rfl)⟩
        | true =>
          refine yes_and rfl ?_
          cases h3 : nE ns[k] == 0 with
          | true => exact yes_and rfl ⟨by omega, ⟨by omega, by omega⟩, yes (by unfold pSo; rw [h1, h2, h3]; rfl)⟩
          | false =>
            refine no_and rfl ?_
            cases h4 : nK sc == 13 with
            | true => exact yes_and rfl ⟨by omega, ⟨by omega, by omega⟩, yes (by unfold pSo; rw [h1, h2, h3, h4]; rfl)⟩
            | false => exact no_and rfl ⟨⟨by omega, by omega⟩, no (by unfold pSo; rw [h1, h2, h3, h4]; rfl)⟩
  have first := loop ns.length 0 (by omega)
  refine go hz hX Tab.Ok.nil Try.func17 (trSo a vs ns fs n) ⟨fun h => ?_, fun h => ⟨fun h2 => ?_, fun h2 => ⟨by have := of_decide_eq_false h; omega, by have := of_decide_eq_false h2; omega, ?_⟩⟩⟩
  · have e : nodeAt ns n = CL.d cN := by unfold nodeAt; rw [if_neg (by have := of_decide_eq_true h; omega)]
    rw [e] at first
    exact first
  · have e : nodeAt ns n = CL.d cN := by unfold nodeAt; rw [if_neg (by have := of_decide_eq_true h2; omega)]
    rw [e] at first
    exact first
  · have e : nodeAt ns n = el ns n := by unfold nodeAt; rw [if_pos (by have := of_decide_eq_false h; have := of_decide_eq_false h2; omega)]
    rw [e] at first
    exact first
theorem nd_ok {Z : Glob} : FnOk P Z 25 [tPr, tInt] [tNoR, tBool] (fun _ => []) (fun ((_, _, ns, _, ()), n, ()) => (nodeAt ns n, inN ns n, ())) := by
  refine fnOk_of_safe Try.func25 (by kernel_rfl) (by kernel_rfl) ?_
  rintro ⟨⟨(a : ByteArray), (vs : List (CL cV)), (ns : List (CL cN)), (fs : List (CL cF)), ⟨⟩⟩, (n : Int), ⟨⟩⟩ _ _ X hX hz
  show Safe P 25 X (Ends [tNoR, tBool] (nodeAt ns n, inN ns n, ())) _
  refine go hz hX Tab.Ok.nil Try.func25 (trNo a vs ns fs n) ?_
  by_cases h0 : n < 0
  · refine yes_and (decide_eq_true h0) ?_
    have e : nodeAt ns n = CL.d cN := by unfold nodeAt; rw [if_neg (by omega)]
    have e2 : inN ns n = false := decide_eq_false (by omega)
    rw [e, e2]; exact ends_eq _ rfl (by kernel_rfl)
  refine no_and (decide_eq_false h0) ?_
  by_cases h1 : n ≥ (ns.length : Int)
  · refine yes_and (decide_eq_true h1) ?_
    have e : nodeAt ns n = CL.d cN := by unfold nodeAt; rw [if_neg (by omega)]
    have e2 : inN ns n = false := decide_eq_false (by omega)
    rw [e, e2]; exact ends_eq _ rfl (by kernel_rfl)
  refine no_and (decide_eq_false h1) ⟨by omega, by omega, ?_⟩
  have e : nodeAt ns n = el ns n := by unfold nodeAt; rw [if_pos (by omega)]
  have e2 : inN ns n = true := decide_eq_true (by omega)
  rw [e, e2]
  generalize el ns n = x
  exact ends_eq _ rfl (by kernel_rfl)
end Ds

namespace Ds
open Go Go.Sx Go.Proofs Lf
theorem lk_ok {Z : Glob} : FnOk P Z 16 [tPr, tInt] [tInt, tBool] (fun ((_, _, ns, _, ()), _, ()) => [(ns : List (CL cN)).length ≤ 1000000]) (fun ((_, _, ns, _, ()), n, ()) => (linkF ns n, hasLk ns n, ())) := by
  refine fnOk_of_safe Try.func16 (by kernel_rfl) (by kernel_rfl) ?_
  rintro ⟨⟨(a : ByteArray), (vs : List (CL cV)), (ns : List (CL cN)), (fs : List (CL cF)), ⟨⟩⟩, (n : Int), ⟨⟩⟩ _ ⟨(hl : ns.length ≤ 1000000), _⟩ X hX hz
  show Safe P 16 X (Ends [tInt, tBool] (linkF ns n, hasLk ns n, ())) _
  have loop : isLk (nodeAt ns n) = true → ∀ (j k : Nat), k + j = ns.length → Safe P 16 X (Ends [tInt, tBool] (linkF ns n, hasLk ns n, ())) (cLi (nodeAt ns n) ns (idxsF (pLi (nodeAt ns n)) (ns.take k) 0) (k : Int)) := by
    intro hlk j
    have el0 : linksF ns n = idxsF (pLi (nodeAt ns n)) ns 0 := by unfold linksF; rw [if_pos hlk]
    induction j with
    | zero =>
      intro k hk
      rw [List.take_of_length_le (by omega)]
      refine go hz hX Tab.Ok.nil Try.func16 (loopLi (nodeAt ns n) ns _ k) (no_and (decide_eq_false (by omega)) ?_)
      show Tree.Holds (Ends [tInt, tBool] ((linksF ns n).getD 0 0, decide (0 < (linksF ns n).length), ())) _ _
      rw [← el0]
      generalize linksF ns n = l
      generalize nodeAt ns n = x
      cases l with
      | nil => exact yes_and rfl (ends_eq _ rfl (by kernel_rfl))
      | cons y l =>
        refine no_and ?_ ⟨by omega, by simp only [List.length_cons]; omega, ?_⟩
        · rw [beq_eq_false_iff_ne, List.length_cons]; omega
        · rw [decide_eq_true (show 0 < (y :: l).length by simp)]
          exact ends_eq _ rfl (by kernel_rfl)
    | succ j ih =>
      intro k hk
      have hlt : k < ns.length := by omega
      have next := ih (k + 1) (by omega)
      rw [idxs_take hlt] at next
      have htl := idxs_tlen (p := pLi (nodeAt ns n)) (l := ns) (k := k)
      refine go hz hX Tab.Ok.nil Try.func16 (loopLi (nodeAt ns n) ns _ k) (yes_and (decide_eq_true (by omega)) ⟨by omega, by omega, ?_⟩)
      rw [el_lt hlt]
      generalize idxsF (pLi (nodeAt ns n)) (ns.take k) 0 = acc at *
      have no : pLi (nodeAt ns n) ns[k] = false → Safe P 16 X (Ends [tInt, tBool] (linkF ns n, hasLk ns n, ())) (cLi (nodeAt ns n) ns acc ((k + 1 : Nat) : Int)) := fun e => by
        rw [e, if_neg (by simp), List.append_nil] at next; exact next
      have yes : pLi (nodeAt ns n) ns[k] = true → Safe P 16 X (Ends [tInt, tBool] (linkF ns n, hasLk ns n, ())) (cLi (nodeAt ns n) ns (acc ++ [(k : Int)]) ((k + 1 : Nat) : Int)) := fun e => by
        rw [e, if_pos rfl] at next; exact next
      clear next
      generalize nodeAt ns n = sc at *
      cases h1 : nK ns[k] == 6 with
      | false => exact no_and rfl ⟨⟨by omega, by omega⟩, no (by unfold pLi; rw [h1]; rfl)⟩
      | true =>
        refine yes_and rfl ?_
        cases h2 : nE ns[k] == 6 with
        | false => exact no_and rfl ⟨⟨by omega, by omega⟩, no (by unfold pLi; rw [h1, h2]; rfl)⟩
        | true =>
          refine yes_and rfl ?_
          by_cases h3 : nY ns[k] = nY sc
          · refine yes_and (decide_eq_true h3) ?_
            cases h4 : nI ns[k] == nI sc with
            | true => exact yes_and rfl ⟨by omega, ⟨by omega, by omega⟩, yes (by unfold pLi; rw [h1, h2, h4, decide_eq_true h3]; rfl)⟩
            | false => exact no_and rfl ⟨⟨by omega, by omega⟩, no (by unfold pLi; rw [h1, h2, h4, decide_eq_true h3]; rfl)⟩
          · exact no_and (decide_eq_false h3) ⟨⟨by omega, by omega⟩, no (by unfold pLi; rw [h1, h2, decide_eq_false h3]; rfl)⟩
  refine go hz hX Tab.Ok.nil Try.func16 (trLi a vs ns fs n) ?_
  have zero : isLk (nodeAt ns n) = false → linkF ns n = 0 ∧ hasLk ns n = false := fun h => by
    have e : linksF ns n = [] := by unfold linksF; rw [h]; rfl
    unfold linkF hasLk; rw [e]; exact ⟨rfl, rfl⟩
  have dz : isLk (CL.d cN) = false := by kernel_rfl
  by_cases h0 : n < 0
  · refine yes_and (decide_eq_true h0) ?_
    have e : nodeAt ns n = CL.d cN := by unfold nodeAt; rw [if_neg (by omega)]
    obtain ⟨e1, e2⟩ := zero (by rw [e]; exact dz)
    rw [e1, e2]; exact ends_eq _ rfl (by kernel_rfl)
  refine no_and (decide_eq_false h0) ?_
  by_cases h1 : n ≥ (ns.length : Int)
  · refine yes_and (decide_eq_true h1) ?_
    have e : nodeAt ns n = CL.d cN := by unfold nodeAt; rw [if_neg (by omega)]
    obtain ⟨e1, e2⟩ := zero (by rw [e]; exact dz)
    rw [e1, e2]; exact ends_eq _ rfl (by kernel_rfl)
  refine no_and (decide_eq_false h1) ⟨by omega, by omega, ?_⟩
  have e : nodeAt ns n = el ns n := by unfold nodeAt; rw [if_pos (by omega)]
  rw [e] at zero loop
  generalize el ns n = x at *
  cases g1 : nK x == 5 with
  | false =>
    obtain ⟨e1, e2⟩ := zero (by unfold isLk; rw [g1]; rfl)
    refine yes_and (by simpa [bne] using g1) ?_
    rw [e1, e2]; exact ends_eq _ rfl (by kernel_rfl)
  | true =>
    refine no_and (by simpa [bne] using g1) ?_
    cases g2 : nE x == 6 with
    | false =>
      obtain ⟨e1, e2⟩ := zero (by unfold isLk; rw [g1, g2]; rfl)
      refine yes_and (by simpa [bne] using g2) ?_
      rw [e1, e2]; exact ends_eq _ rfl (by kernel_rfl)
    | true =>
      refine no_and (by simpa [bne] using g2) ?_
      exact loop (by unfold isLk; rw [g1, g2]; rfl) ns.length 0 (by omega)
theorem wa_ok {Z : Glob} : FnOk P Z 29 [tNo] [tBool] (fun _ => []) (fun (x, ()) => (waitsF x, ())) := by
  refine fnOk_of_safe Try.func29 (by kernel_rfl) (by kernel_rfl) ?_
  rintro ⟨(x : CL cN), ⟨⟩⟩ _ _ X hX hz
  show Safe P 29 X (Ends [tBool] (waitsF x, ())) _
  refine go hz hX Tab.Ok.nil Try.func29 (trWa x) ?_
  unfold waitsF
  cases h1 : nK x == 3 <;> cases h2 : nK x == 10 <;> cases h3 : nK x == 6 <;> cases h4 : nE x == 1 <;> cases h5 : nE x == 2 <;> cases h6 : nE x == 3 <;> (
    repeat' (first | refine yes_and rfl ?_ | refine no_and rfl ?_)
    all_goals exact ends_eq _ rfl (by kernel_rfl))
theorem ac_ok {Z : Glob} : FnOk P Z 36 [tU8] [tBool] (fun _ => []) (fun (x, ()) => (actF x, ())) := by
  refine fnOk_of_safe Try.func36 (by kernel_rfl) (by kernel_rfl) ?_
  rintro ⟨(x : Int), ⟨⟩⟩ _ _ X hX hz
  show Safe P 36 X (Ends [tBool] (actF x, ())) _
  refine go hz hX Tab.Ok.nil Try.func36 (trAc x) ?_
  unfold actF
  cases h1 : x == 3 <;> cases h2 : x == 11 <;> cases h3 : x == 12 <;> cases h4 : x == 14 <;> (
    repeat' (first | refine yes_and rfl ?_ | refine no_and rfl ?_)
    all_goals exact ends_eq _ rfl (by kernel_rfl))
end Ds

namespace Ds
open Go Go.Sx Go.Proofs Lf
def mSort : List AV → RM (List Int × List Nat)
  | [.vec id] => .look id fun o => match o with
    | some (.vec (.ints .i64 zs) _) => .ret (zs, [id])
    | _ => .fail "no row"
  | _ => .fail "no row"
abbrev sumSort := sumS sSort mSort
/-! Compact, on an own row -/
def nsCo : List (Nat × Norm) := [(4, ⟨[], [0, 3], 1, []⟩), (9, ⟨[], [0, 3, 4, 5], 1, []⟩), (midKey + 2001, ⟨[], [9], 1, []⟩), (midKey + 15003, ⟨[], [59], 1, []⟩), (midKey + 16001, ⟨[], [60], 1, []⟩)]
abbrev kk (l : Nat) : Stk := ⟨none, false, 0, [], l⟩
noncomputable def cCo (l : List Int) (k : Int) : Cfg := ⟨sl 61 [(0, .vec 0), (3, avI k)], [.vec (.ints .i64 l) 3], hd Try.f26 4, {}⟩
noncomputable def cCo9 (l : List Int) (k : Int) (lo n : Nat) (k2 : Int) : Cfg := ⟨sl 61 [(0, .vec 0), (3, avI k), (4, .part 0 lo n), (5, avI k2)], [.vec (.ints .i64 l) 3], hd Try.f26 9, {}⟩
noncomputable def cCo2 (l : List Int) : Cfg := ⟨sl 61 [(9, .vec 1)], [.dead, .vec (.ints .i64 l) 3], cal Try.f26 2 1, kk 2⟩
noncomputable def cCo15 (l : List Int) : Cfg := ⟨sl 61 [(59, .vec 1)], [.dead, .vec (.ints .i64 l) 3], cal Try.f26 15 3, kk 15⟩
noncomputable def cCo16 (l : List Int) : Cfg := ⟨sl 61 [(60, .vec 1)], [.dead, .vec (.ints .i64 l) 3], cal Try.f26 16 1, kk 16⟩
abbrev sCm : Spec (List Int) := ⟨fun _ => [.vec 0], fun l => [.vec (.ints .i64 l) 3], fun l => [l.length ≤ 1000000], fun l => [.dead, .vec (.ints .i64 (cmpF l)) 3], fun _ => .vec 1⟩
abbrev sumCm := sumS sCm mSort
theorem trCo (l : List Int) : run P tab0.sum Try.f26 nsCo (start Try.f26 [.vec 0] [.vec (.ints .i64 l) 3]) =
  Tree.ite (decide ((↑l.length : Int) < (2 : Int))) (Tree.at (Cfg.mk (sl (61 : Nat) [((9 : Nat), AV.vec (0 : Nat))]) [AObj.vec (Con.ints IntKind.i64 l) (3 : Nat)] (cal Try.f26 (2 : Nat) (1 : Nat)) (Stk.mk none false (0 : Nat) [] (2 : Nat)))) (Tree.at (cCo l (1 : Int))) := by kernel_rfl
theorem loopCo (l : List Int) (k : Int) : run P tab0.sum Try.f26 nsCo (cCo l k) =
  Tree.ite (decide (k < (↑l.length : Int))) (Tree.need ((0 : Int) ≤ k) (Tree.need (k < (↑l.length : Int)) (Tree.need (inI64 (k - (1 : Int))) (Tree.need ((0 : Int) ≤ k - (1 : Int)) (Tree.need (k - (1 : Int) < (↑l.length : Int)) (Tree.ite (l.getD k.toNat (0 : Int) == l.getD (k - (1 : Int)).toNat (0 : Int)) (Tree.need ((0 : Int) ≤ k) (Tree.need (k ≤ (↑l.length : Int)) (Tree.need ((↑(0 : Nat) : Int) + (↑l.length : Int) ≤ (↑l.length : Int)) (Tree.at (cCo9 l k ((0 : Nat) + k.toNat) ((↑l.length : Int).toNat - k.toNat) (1 : Int)))))) (Tree.need (inI64 (k + (1 : Int))) (Tree.at (cCo l (k + (1 : Int))))))))))) (Tree.at (Cfg.mk (sl (61 : Nat) [((60 : Nat), AV.vec (0 : Nat))]) [AObj.vec (Con.ints IntKind.i64 l) (3 : Nat)] (cal Try.f26 (16 : Nat) (1 : Nat)) (Stk.mk none false (0 : Nat) [] (16 : Nat)))) := by kernel_rfl
theorem loopCo9 (l : List Int) (k : Int) (lo n : Nat) (k2 : Int) : run P tab0.sum Try.f26 nsCo (cCo9 l k lo n k2) =
  Tree.ite (decide (k2 < (↑n : Int))) (Tree.need ((0 : Int) ≤ k2) (Tree.need (k2 < (↑n : Int)) (Tree.need (inI64 (k2 - (1 : Int))) (Tree.need ((0 : Int) ≤ k2 - (1 : Int)) (Tree.need (k2 - (1 : Int) < (↑n : Int)) (Tree.ite (l.getD (lo + k2.toNat) (0 : Int) != l.getD (lo + (k2 - (1 : Int)).toNat) (0 : Int)) (Tree.need ((0 : Int) ≤ k2) (Tree.need (k2 < (↑n : Int)) (Tree.need ((0 : Int) ≤ k) (Tree.need (k < (↑l.length : Int)) (Tree.need (inI64 (k + (1 : Int))) (Tree.need (inI64 (k2 + (1 : Int))) (Tree.at (cCo9 (l.set k.toNat (l.getD (lo + k2.toNat) (0 : Int))) (k + (1 : Int)) lo n (k2 + (1 : Int)))))))))) (Tree.need (inI64 (k2 + (1 : Int))) (Tree.at (cCo9 l k lo n (k2 + (1 : Int))))))))))) (Tree.need ((0 : Int) ≤ k) (Tree.need (k ≤ (↑l.length : Int)) (Tree.need ((↑(0 : Nat) : Int) + (↑l.length : Int) ≤ (↑l.length : Int)) (Tree.need ((0 : Int) ≤ (0 : Int)) (Tree.need ((0 : Int) ≤ k) (Tree.need ((↑(0 : Nat) : Int) + k ≤ (↑(over l ((0 : Nat) + k.toNat) ((↑l.length : Int).toNat - k.toNat) (List.replicate ((↑l.length : Int).toNat - k.toNat) (0 : Int))).length : Int)) (Tree.at (Cfg.mk (sl (61 : Nat) [((59 : Nat), AV.part (0 : Nat) (0 : Nat) (k.toNat - Int.toNat (0 : Int)))]) [AObj.vec (Con.ints IntKind.i64 (over l ((0 : Nat) + k.toNat) ((↑l.length : Int).toNat - k.toNat) (List.replicate ((↑l.length : Int).toNat - k.toNat) (0 : Int)))) (3 : Nat)] (cal Try.f26 (15 : Nat) (3 : Nat)) (Stk.mk none false (0 : Nat) [] (15 : Nat)))))))))) := by kernel_rfl
theorem endCo2 (l : List Int) : run P tab0.sum Try.f26 nsCo (cCo2 l) =
  Tree.ret [AObj.dead, AObj.vec (Con.ints IntKind.i64 l) (3 : Nat)] (AV.vec (1 : Nat)) := by kernel_rfl
theorem endCo15 (l : List Int) : run P tab0.sum Try.f26 nsCo (cCo15 l) =
  Tree.ret [AObj.dead, AObj.vec (Con.ints IntKind.i64 l) (3 : Nat)] (AV.vec (1 : Nat)) := by kernel_rfl
theorem endCo16 (l : List Int) : run P tab0.sum Try.f26 nsCo (cCo16 l) =
  Tree.ret [AObj.dead, AObj.vec (Con.ints IntKind.i64 l) (3 : Nat)] (AV.vec (1 : Nat)) := by kernel_rfl
theorem take_snoc {l : List Int} {k : Nat} (h : k < l.length) : l.take (k + 1) = l.take k ++ [l.getD k 0] := by
  rw [List.take_add_one, List.getElem?_eq_getElem h, getD_lt h]; rfl
theorem last_take {l : List Int} {k : Nat} (h0 : 0 < k) (h : k ≤ l.length) (hne : l.take k ≠ []) : (l.take k).getLast hne = l.getD (k - 1) 0 := by
  rw [List.getLast_eq_getElem, getD_lt (by omega), List.getElem_take]
  congr 1
  rw [List.length_take]; omega
theorem cmp_step {l : List Int} {k : Nat} (h0 : 0 < k) (h : k < l.length) : cmpF (l.take (k + 1)) = cmpF (l.take k) ++ (if l.getD k 0 = l.getD (k - 1) 0 then [] else [l.getD k 0]) := by
  have hne : l.take k ≠ [] := fun e => by have := congrArg List.length e; rw [List.length_take, List.length_nil] at this; omega
  rw [take_snoc h, cmpF_snoc _ hne, last_take h0 (by omega)]
theorem compact_ok {Z : Glob} : FnS P Z 26 sCm := by
  refine fnS_of_safe Try.func26 (by kernel_rfl) (fun x => Nat.le_of_ble_eq_true (by kernel_rfl)) ?_
  rintro (l : List Int) ⟨(hl : l.length ≤ 1000000), _⟩ X hX hz
  have hns : ∀ x ∈ nsCo, (sCm.heap l).length ≤ x.2.m := by intro y hy; simp [nsCo] at hy; rcases hy with rfl | rfl | rfl | rfl | rfl <;> exact Nat.le_refl _
  have sub0 : ∀ zs : List Int, conSub (.ints .i64 zs) 0 (0 + (Con.ints .i64 zs).n) = .ints .i64 zs := fun zs => by
    show Con.ints .i64 ((zs.take (0 + zs.length)).drop 0) = _
    rw [Nat.zero_add, List.take_length, List.drop_zero]
  have fin9 : ∀ (l' : List Int) (k : Nat), l'.length = l.length → k ≤ l.length → l'.take k = cmpF l → Safe P 26 X (EndS sCm l)
      (⟨sl 61 [(59, .part 0 0 (k - Int.toNat 0))], [.vec (.ints .i64 (over l' (0 + k) (l.length - k) (List.replicate (l.length - k) 0))) 3], cal Try.f26 15 3, kk 15⟩ : Cfg) := by
    intro l' k hl' hk e
    refine cut_safe (t := 59) (id := 0) rfl rfl ?_
    have e2 : conSub (.ints .i64 (over l' (0 + k) (l.length - k) (List.replicate (l.length - k) 0))) 0 (0 + (k - Int.toNat 0)) = .ints .i64 (cmpF l) := by
      show Con.ints .i64 ((List.take (0 + (k - 0)) (over l' (0 + k) (l.length - k) (List.replicate (l.length - k) 0))).drop 0) = _
      rw [List.drop_zero, Nat.zero_add, Nat.sub_zero, Nat.zero_add]
      unfold over
      rw [List.append_assoc, List.take_append_of_le_length (by rw [List.length_take]; omega), List.take_take, Nat.min_self, e]
    rw [e2]
    show Safe P _ X _ (cCo15 (cmpF l))
    exact goS hz hX hns Tab.Ok.nil Try.func26 (endCo15 _) (endS 1 rfl (Nat.le_refl _) rfl rfl)
  have loop9 : ∀ (j : Nat) (l' : List Int) (k lo k2 : Nat), lo + k2 + j = l.length → 0 < lo → 0 < k2 → k ≤ lo + k2 - 1 → l'.length = l.length → l'.take k = cmpF (l.take (lo + k2)) → (∀ i, k ≤ i → l'.getD i 0 = l.getD i 0) →
      Safe P 26 X (EndS sCm l) (cCo9 l' (k : Int) lo (l.length - lo) (k2 : Int)) := by
    intro j
    induction j with
    | zero =>
      intro l' k lo k2 hj h0 h2 hk hl' ht hi
      refine goS hz hX hns Tab.Ok.nil Try.func26 (loopCo9 l' k lo _ k2) ⟨fun h => absurd (of_decide_eq_true h) (by omega), fun _ => ?_⟩
      rw [hl', Int.toNat_natCast, Int.toNat_natCast]
      have := fin9 l' k hl' (by omega) (by rw [ht, List.take_of_length_le (by omega)])
      refine ⟨by omega, by omega, by omega, by omega, by omega, ?_, this⟩
      rw [over_length _ _ (by omega) (by simp)]; omega
    | succ j ih =>
      intro l' k lo k2 hj h0 h2 hk hl' ht hi
      refine goS hz hX hns Tab.Ok.nil Try.func26 (loopCo9 l' k lo _ k2) ?_
      rw [Int.toNat_natCast, show ((k2 : Int) - 1).toNat = k2 - 1 from by omega, Int.toNat_natCast, hi (lo + k2) (by omega), hi (lo + (k2 - 1)) (by omega)]
      have hs := cmp_step (l := l) (k := lo + k2) (by omega) (by omega)
      rw [show lo + k2 - 1 = lo + (k2 - 1) from by omega] at hs
      have same : l.getD (lo + k2) 0 = l.getD (lo + (k2 - 1)) 0 → Safe P 26 X (EndS sCm l) (cCo9 l' (k : Int) lo (l.length - lo) ((k2 : Int) + 1)) := fun e => by
        have := ih l' k lo (k2 + 1) (by omega) h0 (by omega) (by omega) hl' (by rw [show lo + (k2 + 1) = lo + k2 + 1 from by omega, hs, if_pos e, List.append_nil]; exact ht) hi
        exact this
      have diff : ¬ l.getD (lo + k2) 0 = l.getD (lo + (k2 - 1)) 0 → Safe P 26 X (EndS sCm l) (cCo9 (l'.set k (l.getD (lo + k2) 0)) ((k : Int) + 1) lo (l.length - lo) ((k2 : Int) + 1)) := fun e => by
        have := ih (l'.set k (l.getD (lo + k2) 0)) (k + 1) lo (k2 + 1) (by omega) h0 (by omega) (by omega) (by simpa using hl') (by
          rw [show lo + (k2 + 1) = lo + k2 + 1 from by omega, hs, if_neg e, take_snoc (by simp; omega), List.take_set_of_le (Nat.le_refl _), ht, getD_lt (by simp; omega), List.getElem_set_self]) (fun i h => by
          simp only [List.getD, List.getElem?_set_ne (show k ≠ i from by omega)]
          exact hi i (by omega))
        exact this
      repeat' (with_reducible (first | refine h_eq ?_ | refine h_need ?_ ?_ | refine h_dec (fun _ => ?_) (fun _ => ?_) | refine h_beq (fun _ => ?_) (fun _ => ?_) | refine h_bne (fun _ => ?_) (fun _ => ?_) | refine h_tt ?_ | refine h_ff ?_ | refine h_not ?_ | refine h_ite (fun _ => ?_) (fun _ => ?_) | refine h_both (fun _ => ?_) (fun _ => ?_) | refine h_ret ?_ | refine h_at ?_))
      all_goals first | omega | exact ⟨by omega, by omega⟩ | exact same (by assumption) | exact diff (by assumption)
  have loop : ∀ (j k : Nat), k + j = l.length → 0 < k → cmpF (l.take k) = l.take k → Safe P 26 X (EndS sCm l) (cCo l (k : Int)) := by
    intro j
    induction j with
    | zero =>
      intro k hk h0 hc
      rw [List.take_of_length_le (by omega)] at hc
      refine goS hz hX hns Tab.Ok.nil Try.func26 (loopCo l k) ⟨fun h => absurd (of_decide_eq_true h) (by omega), fun _ => ?_⟩
      refine vec_cut_safe (t := 60) (id := 0) rfl rfl (sub0 l) ?_
      show Safe P _ X _ (cCo16 l)
      exact goS hz hX hns Tab.Ok.nil Try.func26 (endCo16 _) (endS 1 rfl (Nat.le_refl _) rfl (by show [AObj.dead, .vec (.ints .i64 (cmpF l)) 3] = _; rw [hc]))
    | succ j ih =>
      intro k hk h0 hc
      refine goS hz hX hns Tab.Ok.nil Try.func26 (loopCo l k) ?_
      have hs := cmp_step (l := l) (k := k) h0 (by omega)
      rw [Int.toNat_natCast, show ((k : Int) - 1).toNat = k - 1 from by omega]
      have next := fun e : ¬ l.getD k 0 = l.getD (k - 1) 0 => ih (k + 1) (by omega) (by omega) (by rw [hs, if_neg e, hc, take_snoc (by omega)])
      have dup := fun e : l.getD k 0 = l.getD (k - 1) 0 => loop9 (l.length - (k + 1)) l k k 1 (by omega) (by omega) (by omega) (by omega) rfl (by rw [hs, if_pos e, hc, List.append_nil]) (fun _ _ => rfl)
      rw [Nat.zero_add, Int.toNat_natCast]
      repeat' (with_reducible (first | refine h_eq ?_ | refine h_need ?_ ?_ | refine h_dec (fun _ => ?_) (fun _ => ?_) | refine h_beq (fun _ => ?_) (fun _ => ?_) | refine h_bne (fun _ => ?_) (fun _ => ?_) | refine h_tt ?_ | refine h_ff ?_ | refine h_not ?_ | refine h_ite (fun _ => ?_) (fun _ => ?_) | refine h_both (fun _ => ?_) (fun _ => ?_) | refine h_ret ?_ | refine h_at ?_))
      all_goals first | omega | exact ⟨by omega, by omega⟩ | exact dup (by assumption) | exact next (by assumption)
  refine goS hz hX hns Tab.Ok.nil Try.func26 (trCo l) ⟨fun h => ?_, fun h => ?_⟩
  · have h := of_decide_eq_true h
    have hc : cmpF l = l := by
      match l, h with
      | [], _ => rfl
      | [x], _ => rfl
      | x :: y :: l, h => simp only [List.length_cons] at h; omega
    refine vec_cut_safe (t := 9) (id := 0) rfl rfl (sub0 l) ?_
    show Safe P _ X _ (cCo2 l)
    exact goS hz hX hns Tab.Ok.nil Try.func26 (endCo2 _) (endS 1 rfl (Nat.le_refl _) rfl (by show [AObj.dead, .vec (.ints .i64 (cmpF l)) 3] = _; rw [hc]))
  · have h := of_decide_eq_false h
    refine loop (l.length - 1) 1 (by omega) (by omega) ?_
    cases l with
    | nil => simp at h
    | cons x l => simp [cmpF, cmpG]
end Ds

namespace Ds
open Go Go.Sx Go.Proofs Lf
abbrev preN : AL [tPr, tInt] → List Prop := fun ((_, _, ns, _, ()), _, ()) => [(ns : List (CL cN)).length ≤ 1000000]
abbrev preF : AL [tPr, tInt] → List Prop := fun ((_, _, _, fs, ()), _, ()) => [(fs : List (CL cF)).length ≤ 1000000]
abbrev sumBo := sumR [tPr, tInt] [tNs] preN (fun ((_, _, ns, _, ()), n, ()) => (boundsF ns n, ()))
abbrev sumFr := sumR [tPr, tInt] [tNs] preF (fun ((_, _, _, fs, ()), n, ()) => (fromF fs n, ()))
abbrev sumSo := sumOf [tPr, tInt] [tInt, tBool] preN (fun ((_, _, ns, _, ()), n, ()) => (startF ns n, hasSt ns n, ()))
abbrev sumLk := sumOf [tPr, tInt] [tInt, tBool] preN (fun ((_, _, ns, _, ()), n, ()) => (linkF ns n, hasLk ns n, ()))
def whereN (ns : Ns) (n : Int) : Int := if 0 ≤ n ∧ n < (ns.length : Int) then n else ns.length
abbrev ndA (ns : Ns) (n : Int) : CL cN := el ns (whereN ns n)
abbrev exN (x : CL cN) : CL cN := (nN x, nK x, nI x, nO x, nE x, nY x, nT x, nS x, nB x, nV x, nZ x, ())
abbrev sumNd := sumR [tPr, tInt] [tNoR, tBool] (fun _ => []) (fun ((_, _, ns, _, ()), n, ()) => (exN (ndA ns n), inN ns n, ()))
abbrev sumWa := sumOf [tNo] [tBool] (fun _ => []) (fun (x, ()) => (waitsF x, ()))
abbrev sumAc := sumOf [tU8] [tBool] (fun _ => []) (fun (x, ()) => (actF x, ()))
abbrev sumDf := sumR [tDefs, tStr] [tPrr, tBool] (fun _ => []) (fun (ps, name, ()) => ((pN (getP ps name), pV (getP ps name), pO (getP ps name), pF (getP ps name), ()), hasP ps name, ()))
def tabCo : Tab := [(20, sumBo), (56, sumFr), (16, sumLk), (25, sumNd), (36, sumAc), (54, sumSort), (26, sumCm)]
abbrev fNx : FuncId := 55
abbrev inCo : List FuncId := [28, 27, 53, 67, fNx]
def kN (i : Nat) : Nat := (fNx + 1) * 100000 + i
def nsCm : List (Nat × Norm) := [(kN 1, ⟨[], [0, 1, 2, 14, 15, 16, 64, 75, 76], 0, [(4, 0, false, .ints .i64 [], 3)]⟩), (kN 8, ⟨[], [0, 1, 2, 41, 42, 43, 64, 75, 76], 0, []⟩)]
theorem trCm (a : ByteArray) (vs : Vs) (ns : Ns) (fs : Fs) (n : Int) : run P tabCo.sum Try.f8 nsCm (start Try.f8 [avPr a vs ns fs, avI n] []) inCo =
  Tree.ite (!inN ns n) (Tree.ret [AObj.own [AV.s (SV.str a), AV.s (SV.ro (Con.typ cV vs)), AV.s (SV.ro (Con.typ cN ns)), AV.s (SV.ro (Con.typ cF fs))] (26 : Nat), AObj.own [AV.s (SV.str (nN (ndA ns n))), AV.s (SV.int IntKind.u8 (nK (ndA ns n))), AV.s (SV.int IntKind.i64 (nI (ndA ns n))), AV.s (SV.int IntKind.i64 (nO (ndA ns n))), AV.s (SV.int IntKind.u8 (nE (ndA ns n))), AV.s (SV.str (nY (ndA ns n))), AV.s (SV.str (nT (ndA ns n))), AV.s (SV.str (nS (ndA ns n))), AV.s (SV.bool (nB (ndA ns n))), AV.s (SV.ro (Con.typ cV (nV (ndA ns n)))), AV.s (SV.ro (Con.strs (nZ (ndA ns n))))] (34 : Nat)] AV.emp) (Tree.need (List.length fs ≤ (1000000 : Nat)) (Tree.at (Cfg.mk (sl (111 : Nat) [((0 : Nat), AV.tag (0 : Nat)), ((1 : Nat), AV.ptr (1 : Nat) (0 : Nat)), ((2 : Nat), AV.ptr (2 : Nat) (0 : Nat)), ((14 : Nat), AV.vec (3 : Nat)), ((15 : Nat), AV.s (SV.int IntKind.i64 (↑(fromF fs n).length : Int))), ((16 : Nat), AV.s (SV.int IntKind.i64 (0 : Int))), ((64 : Nat), AV.ptr (4 : Nat) (0 : Nat)), ((75 : Nat), AV.tag (5 : Nat)), ((76 : Nat), AV.tag (0 : Nat))]) [AObj.dead, AObj.own [AV.s (SV.str a), AV.s (SV.ro (Con.typ cV vs)), AV.s (SV.ro (Con.typ cN ns)), AV.s (SV.ro (Con.typ cF fs))] (26 : Nat), AObj.own [AV.s (SV.int IntKind.i64 n)] (3 : Nat), AObj.vec (Con.ints IntKind.i64 (fromF fs n)) (3 : Nat), AObj.own [AV.vec (6 : Nat)] (30 : Nat), AObj.dead, AObj.vec (Con.ints IntKind.i64 []) (3 : Nat)] (hd Try.f55 (1 : Nat)) (Stk.mk (some (55 : Nat)) false (0 : Nat) [inRange Try.f67 (some (67 : Nat)) (3 : Nat) (1 : Nat), inCall Try.f53 (some (53 : Nat)) (1 : Nat) (1 : Nat) false (0 : Nat), inCall Try.f27 (some (27 : Nat)) (1 : Nat) (1 : Nat) false (0 : Nat), inCall Try.f8 none (4 : Nat) (3 : Nat) false (0 : Nat)] (0 : Nat))))) := by kernel_rfl
end Ds

namespace Ds
open Go Go.Sx Go.Proofs Lf
noncomputable abbrev frN : List FrD := [inRange Try.f67 (some 67) 3 1, inCall Try.f53 (some 53) 1 1 false 0, inCall Try.f27 (some 27) 1 1 false 0, inCall Try.f8 none 4 3 false 0]
noncomputable def cN1 (a : ByteArray) (vs : Vs) (ns : Ns) (fs : Fs) (n : Int) (l acc : List Int) (i : Int) : Cfg := ⟨sl 111 [(0, .tag 0), (1, .ptr 1 0), (2, .ptr 2 0), (14, .vec 3), (15, avI (l.length : Int)), (16, avI i), (64, .ptr 4 0), (75, .tag 5), (76, .tag 0)], [.dead, obPr a vs ns fs, .own [avI n] 3, .vec (.ints .i64 l) 3, .own [.vec 6] 30, .dead, .vec (.ints .i64 acc) 3], hd Try.f55 1, ⟨some fNx, false, 0, frN, 0⟩⟩
theorem trN1 (a : ByteArray) (vs : Vs) (ns : Ns) (fs : Fs) (n : Int) (l acc : List Int) (i : Int) : run P tabCo.sum Try.f8 nsCm (cN1 a vs ns fs n l acc i) inCo =
  Tree.ite (decide (i < (↑l.length : Int))) (Tree.need ((0 : Int) ≤ i) (Tree.need (i < (↑l.length : Int)) (Tree.need ((0 : Int) ≤ l.getD i.toNat (0 : Int)) (Tree.need (l.getD i.toNat (0 : Int) < (↑(List.length fs) : Int)) (Tree.need ((acc.length + (1 : Nat)) * (8 : Nat) ≤ (140737488355328 : Nat)) (Tree.need (inI64 (i + (1 : Int))) (Tree.at (cN1 a vs ns fs n l (acc ++ [fB (el fs (l.getD i.toNat (0 : Int)))]) (i + (1 : Int))))))))))
  (Tree.ite (actF (nK (ndA ns n))) (Tree.need (List.length ns ≤ (1000000 : Nat)) (Tree.at (Cfg.mk (sl (111 : Nat) [((0 : Nat), AV.tag (0 : Nat)), ((1 : Nat), AV.ptr (1 : Nat) (0 : Nat)), ((2 : Nat), AV.ptr (2 : Nat) (0 : Nat)), ((41 : Nat), AV.vec (3 : Nat)), ((42 : Nat), AV.s (SV.int IntKind.i64 (↑(boundsF ns n).length : Int))), ((43 : Nat), AV.s (SV.int IntKind.i64 (0 : Int))), ((64 : Nat), AV.ptr (4 : Nat) (0 : Nat)), ((75 : Nat), AV.tag (5 : Nat)), ((76 : Nat), AV.tag (0 : Nat))]) [AObj.dead, AObj.own [AV.s (SV.str a), AV.s (SV.ro (Con.typ cV vs)), AV.s (SV.ro (Con.typ cN ns)), AV.s (SV.ro (Con.typ cF fs))] (26 : Nat), AObj.own [AV.s (SV.int IntKind.i64 n)] (3 : Nat), AObj.vec (Con.ints IntKind.i64 (boundsF ns n)) (3 : Nat), AObj.own [AV.vec (6 : Nat)] (30 : Nat), AObj.dead, AObj.vec (Con.ints IntKind.i64 acc) (3 : Nat)] (hd Try.f55 (8 : Nat)) (Stk.mk (some (55 : Nat)) false (0 : Nat) [inRange Try.f67 (some (67 : Nat)) (3 : Nat) (1 : Nat), inCall Try.f53 (some (53 : Nat)) (1 : Nat) (1 : Nat) false (0 : Nat), inCall Try.f27 (some (27 : Nat)) (1 : Nat) (1 : Nat) false (0 : Nat), inCall Try.f8 none (4 : Nat) (3 : Nat) false (0 : Nat)] (0 : Nat))))) (Tree.need (List.length ns ≤ (1000000 : Nat)) (Tree.ite (hasLk ns n) (Tree.need ((acc.length + (1 : Nat)) * (8 : Nat) ≤ (140737488355328 : Nat)) (Tree.need (Slf (some [AV.vec (0 : Nat)])) (Tree.need (Slf (some [AObj.vec (Con.ints IntKind.i64 (acc ++ [linkF ns n])) (3 : Nat)])) (Tree.need ((acc ++ [linkF ns n]).length ≤ (1000000 : Nat)) (Tree.need (Slf (some [AV.vec (0 : Nat)])) (Tree.need (Slf (some [AObj.vec (Con.ints IntKind.i64 (srtZ (acc ++ [linkF ns n]))) (3 : Nat)])) (Tree.need ((srtZ (acc ++ [linkF ns n])).length ≤ (1000000 : Nat)) (Tree.ret [AObj.dead, AObj.own [AV.s (SV.str a), AV.s (SV.ro (Con.typ cV vs)), AV.s (SV.ro (Con.typ cN ns)), AV.s (SV.ro (Con.typ cF fs))] (26 : Nat), AObj.own [AV.s (SV.int IntKind.i64 n)] (3 : Nat), AObj.vec (Con.ints IntKind.i64 l) (3 : Nat), AObj.own [AV.vec (9 : Nat)] (30 : Nat), AObj.dead, AObj.dead, AObj.own [AV.s (SV.str (nN (ndA ns n))), AV.s (SV.int IntKind.u8 (nK (ndA ns n))), AV.s (SV.int IntKind.i64 (nI (ndA ns n))), AV.s (SV.int IntKind.i64 (nO (ndA ns n))), AV.s (SV.int IntKind.u8 (nE (ndA ns n))), AV.s (SV.str (nY (ndA ns n))), AV.s (SV.str (nT (ndA ns n))), AV.s (SV.str (nS (ndA ns n))), AV.s (SV.bool (nB (ndA ns n))), AV.s (SV.ro (Con.typ cV (nV (ndA ns n)))), AV.s (SV.ro (Con.strs (nZ (ndA ns n))))] (34 : Nat), AObj.vec (Con.ints IntKind.i64 [linkF ns n]) (3 : Nat), AObj.dead, AObj.vec (Con.ints IntKind.i64 (cmpF (srtZ (acc ++ [linkF ns n])))) (3 : Nat)] (AV.vec (10 : Nat)))))))))) (Tree.need (Slf (some [AV.vec (0 : Nat)])) (Tree.need (Slf (some [AObj.vec (Con.ints IntKind.i64 acc) (3 : Nat)])) (Tree.need (acc.length ≤ (1000000 : Nat)) (Tree.need (Slf (some [AV.vec (0 : Nat)])) (Tree.need (Slf (some [AObj.vec (Con.ints IntKind.i64 (srtZ acc)) (3 : Nat)])) (Tree.need ((srtZ acc).length ≤ (1000000 : Nat)) (Tree.ret [AObj.dead, AObj.own [AV.s (SV.str a), AV.s (SV.ro (Con.typ cV vs)), AV.s (SV.ro (Con.typ cN ns)), AV.s (SV.ro (Con.typ cF fs))] (26 : Nat), AObj.own [AV.s (SV.int IntKind.i64 n)] (3 : Nat), AObj.vec (Con.ints IntKind.i64 l) (3 : Nat), AObj.own [AV.vec (6 : Nat)] (30 : Nat), AObj.dead, AObj.dead, AObj.own [AV.s (SV.str (nN (ndA ns n))), AV.s (SV.int IntKind.u8 (nK (ndA ns n))), AV.s (SV.int IntKind.i64 (nI (ndA ns n))), AV.s (SV.int IntKind.i64 (nO (ndA ns n))), AV.s (SV.int IntKind.u8 (nE (ndA ns n))), AV.s (SV.str (nY (ndA ns n))), AV.s (SV.str (nT (ndA ns n))), AV.s (SV.str (nS (ndA ns n))), AV.s (SV.bool (nB (ndA ns n))), AV.s (SV.ro (Con.typ cV (nV (ndA ns n)))), AV.s (SV.ro (Con.strs (nZ (ndA ns n))))] (34 : Nat), AObj.vec (Con.ints IntKind.i64 (cmpF (srtZ acc))) (3 : Nat)] (AV.vec (8 : Nat)))))))))))) := by kernel_rfl
end Ds

namespace Ds
open Go Go.Sx Go.Proofs Lf
noncomputable def cN8 (a : ByteArray) (vs : Vs) (ns : Ns) (fs : Fs) (n : Int) (l acc : List Int) (i : Int) : Cfg := ⟨sl 111 [(0, .tag 0), (1, .ptr 1 0), (2, .ptr 2 0), (41, .vec 3), (42, avI (l.length : Int)), (43, avI i), (64, .ptr 4 0), (75, .tag 5), (76, .tag 0)], [.dead, obPr a vs ns fs, .own [avI n] 3, .vec (.ints .i64 l) 3, .own [.vec 6] 30, .dead, .vec (.ints .i64 acc) 3], hd Try.f55 8, ⟨some fNx, false, 0, frN, 0⟩⟩
def alongF (fs : Fs) (n : Int) : List Int := (fromF fs n).map fun i => fB (el fs i)
def comesL (ns : Ns) (fs : Fs) (n : Int) : List Int := alongF fs n ++ ((if actF (nK (nodeAt ns n)) then boundsF ns n else []) ++ (if hasLk ns n then [linkF ns n] else []))
def comesF (ns : Ns) (fs : Fs) (n : Int) : List Int := if inN ns n then cmpF (srtZ (comesL ns fs n)) else []
abbrev preC : AL [tPr, tInt] → List Prop := fun ((_, _, ns, fs, ()), _, ()) => [(ns : List (CL cN)).length ≤ 400000, (fs : List (CL cF)).length ≤ 400000]
abbrev sumCo := sumR [tPr, tInt] [tNs] preC (fun ((_, _, ns, fs, ()), n, ()) => (comesF ns fs n, ()))
theorem trN8 (a : ByteArray) (vs : Vs) (ns : Ns) (fs : Fs) (n : Int) (l acc : List Int) (i : Int) : run P tabCo.sum Try.f8 nsCm (cN8 a vs ns fs n l acc i) inCo =
  Tree.ite (decide (i < (↑l.length : Int))) (Tree.need ((0 : Int) ≤ i) (Tree.need (i < (↑l.length : Int)) (Tree.need ((acc.length + (1 : Nat)) * (8 : Nat) ≤ (140737488355328 : Nat)) (Tree.need (inI64 (i + (1 : Int))) (Tree.at (cN8 a vs ns fs n l (acc ++ [l.getD i.toNat (0 : Int)]) (i + (1 : Int)))))))) (Tree.need (List.length ns ≤ (1000000 : Nat)) (Tree.ite (hasLk ns n) (Tree.need ((acc.length + (1 : Nat)) * (8 : Nat) ≤ (140737488355328 : Nat)) (Tree.need (Slf (some [AV.vec (0 : Nat)])) (Tree.need (Slf (some [AObj.vec (Con.ints IntKind.i64 (acc ++ [linkF ns n])) (3 : Nat)])) (Tree.need ((acc ++ [linkF ns n]).length ≤ (1000000 : Nat)) (Tree.need (Slf (some [AV.vec (0 : Nat)])) (Tree.need (Slf (some [AObj.vec (Con.ints IntKind.i64 (srtZ (acc ++ [linkF ns n]))) (3 : Nat)])) (Tree.need ((srtZ (acc ++ [linkF ns n])).length ≤ (1000000 : Nat)) (Tree.ret [AObj.dead, AObj.own [AV.s (SV.str a), AV.s (SV.ro (Con.typ cV vs)), AV.s (SV.ro (Con.typ cN ns)), AV.s (SV.ro (Con.typ cF fs))] (26 : Nat), AObj.own [AV.s (SV.int IntKind.i64 n)] (3 : Nat), AObj.vec (Con.ints IntKind.i64 l) (3 : Nat), AObj.own [AV.vec (8 : Nat)] (30 : Nat), AObj.dead, AObj.dead, AObj.vec (Con.ints IntKind.i64 [linkF ns n]) (3 : Nat), AObj.dead, AObj.vec (Con.ints IntKind.i64 (cmpF (srtZ (acc ++ [linkF ns n])))) (3 : Nat)] (AV.vec (9 : Nat)))))))))) (Tree.need (Slf (some [AV.vec (0 : Nat)])) (Tree.need (Slf (some [AObj.vec (Con.ints IntKind.i64 acc) (3 : Nat)])) (Tree.need (acc.length ≤ (1000000 : Nat)) (Tree.need (Slf (some [AV.vec (0 : Nat)])) (Tree.need (Slf (some [AObj.vec (Con.ints IntKind.i64 (srtZ acc)) (3 : Nat)])) (Tree.need ((srtZ acc).length ≤ (1000000 : Nat)) (Tree.ret [AObj.dead, AObj.own [AV.s (SV.str a), AV.s (SV.ro (Con.typ cV vs)), AV.s (SV.ro (Con.typ cN ns)), AV.s (SV.ro (Con.typ cF fs))] (26 : Nat), AObj.own [AV.s (SV.int IntKind.i64 n)] (3 : Nat), AObj.vec (Con.ints IntKind.i64 l) (3 : Nat), AObj.own [AV.vec (6 : Nat)] (30 : Nat), AObj.dead, AObj.dead, AObj.vec (Con.ints IntKind.i64 (cmpF (srtZ acc))) (3 : Nat)] (AV.vec (7 : Nat))))))))))) := by kernel_rfl
theorem nodeAt_eq (ns : Ns) (n : Int) : nodeAt ns n = ndA ns n := by
  show _ = el ns (whereN ns n)
  unfold nodeAt whereN
  split
  · rfl
  · show _ = ns.getD ((ns.length : Int)).toNat (CL.d cN)
    simp [List.getD]
theorem nd2_ok {Z : Glob} : FnOk P Z 25 [tPr, tInt] [tNoR, tBool] (fun _ => []) (fun ((_, _, ns, _, ()), n, ()) => (exN (ndA ns n), inN ns n, ())) := by
  have h := nd_ok (Z := Z)
  have e : (fun ((_, _, ns, _, ()), n, ()) => (nodeAt ns n, inN ns n, ()) : AL [tPr, tInt] → AL [tNoR, tBool]) = (fun ((_, _, ns, _, ()), n, ()) => (exN (ndA ns n), inN ns n, ())) := by
    funext ⟨⟨_, _, ns, _, ⟨⟩⟩, n, ⟨⟩⟩
    show ((nodeAt ns n, inN ns n, ()) : AL [tNoR, tBool]) = (ndA ns n, inN ns n, ())
    rw [nodeAt_eq]; rfl
  rw [e] at h; exact h
theorem tabCo_ok {Z : Glob} : tabCo.Ok P Z := Tab.Ok.cons bo_ok.sumR (Tab.Ok.cons fr_ok.sumR (Tab.Ok.cons lk_ok.sum (Tab.Ok.cons nd2_ok.sumR (Tab.Ok.cons ac_ok.sum (Tab.Ok.cons (sort_ok.sum mSort) (Tab.Ok.cons (compact_ok.sum mSort) Tab.Ok.nil))))))
theorem idxs_lt {cs : List CK} {p : CL cs → Bool} {l : List (CL cs)} : ∀ {i : Int}, ∀ x ∈ idxsF p l i, i ≤ x ∧ x < i + (l.length : Int) := by
  induction l with
  | nil => intro i x h; simp [idxsF] at h
  | cons y l ih =>
    intro i x h
    simp only [idxsF, List.mem_append] at h
    rw [List.length_cons]
    rcases h with h | h
    · split at h
      · simp at h; omega
      · simp at h
    · have := ih x h; omega
theorem along_len (fs : Fs) (n : Int) : (alongF fs n).length ≤ fs.length := by
  unfold alongF; rw [List.length_map]; exact idxs_len _ _
theorem getD_mem {l : List Int} {k : Nat} (h : k < l.length) : l.getD k 0 ∈ l := by rw [getD_lt h]; exact List.getElem_mem h
theorem comes_ok {Z : Glob} : FnOk P Z 8 [tPr, tInt] [tNs] preC (fun ((_, _, ns, fs, ()), n, ()) => (comesF ns fs n, ())) := by
  refine fnOk_of_safe Try.func8 (by kernel_rfl) (by kernel_rfl) ?_
  rintro ⟨⟨(a : ByteArray), (vs : List (CL cV)), (ns : List (CL cN)), (fs : List (CL cF)), ⟨⟩⟩, (n : Int), ⟨⟩⟩ _ ⟨(hn : ns.length ≤ 400000), (hf : fs.length ≤ 400000), _⟩ X hX hz
  show Safe P 8 X (Ends [tNs] (comesF ns fs n, ())) _
  refine go hz hX tabCo_ok Try.func8 (trCm a vs ns fs n) ?_
  cases hin : inN ns n with
  | false =>
    refine yes_and rfl ?_
    have e : comesF ns fs n = [] := by unfold comesF; rw [hin]; rfl
    rw [e]; exact ends_eq _ rfl (by kernel_rfl)
  | true =>
    refine no_and rfl ⟨by omega, ?_⟩
    have ec : comesF ns fs n = cmpF (srtZ (comesL ns fs n)) := by unfold comesF; rw [hin]; rfl
    have hb : (boundsF ns n).length ≤ ns.length := idxs_len _ _
    have loop8 : actF (nK (nodeAt ns n)) = true → ∀ (j k : Nat), k + j = (boundsF ns n).length → Safe P 8 X (Ends [tNs] (comesF ns fs n, ())) (cN8 a vs ns fs n (boundsF ns n) (alongF fs n ++ (boundsF ns n).take k) (k : Int)) := by
      intro hact j
      have hal := along_len fs n
      induction j with
      | zero =>
        intro k hk
        rw [List.take_of_length_le (by omega)]
        refine go hz hX tabCo_ok Try.func8 (trN8 a vs ns fs n _ _ k) (no_and (decide_eq_false (by omega)) ⟨by omega, ?_⟩)
        have hlen : (alongF fs n ++ boundsF ns n).length ≤ 800000 := by rw [List.length_append]; omega
        cases hl : hasLk ns n with
        | true =>
          have e : alongF fs n ++ boundsF ns n ++ [linkF ns n] = comesL ns fs n := by unfold comesL; rw [hact, hl]; simp
          refine yes_and rfl ⟨by omega, ?_⟩
          rw [e] 
          have hlen2 : (comesL ns fs n).length ≤ 800001 := by rw [← e, List.length_append]; simp only [List.length_cons, List.length_nil]; omega
          refine ⟨rfl, rfl, by omega, rfl, rfl, by rw [srtZ_len]; omega, ?_⟩
          rw [ec]; exact ends_eq _ rfl (by kernel_rfl)
        | false =>
          have e : alongF fs n ++ boundsF ns n = comesL ns fs n := by unfold comesL; rw [hact, hl]; simp
          rw [e] at hlen
          rw [e]
          refine no_and rfl ⟨rfl, rfl, by omega, rfl, rfl, by rw [srtZ_len]; omega, ?_⟩
          rw [ec]; exact ends_eq _ rfl (by kernel_rfl)
      | succ j ih =>
        intro k hk
        have hlt : k < (boundsF ns n).length := by omega
        have next := ih (k + 1) (by omega)
        rw [take_snoc hlt, ← List.append_assoc] at next
        refine go hz hX tabCo_ok Try.func8 (trN8 a vs ns fs n _ _ k) (yes_and (decide_eq_true (by omega)) ⟨by omega, by omega, ?_, ⟨by omega, by omega⟩, next⟩)
        rw [List.length_append, List.length_take]; omega
    have loop1 : ∀ (j k : Nat), k + j = (fromF fs n).length → Safe P 8 X (Ends [tNs] (comesF ns fs n, ())) (cN1 a vs ns fs n (fromF fs n) (((fromF fs n).take k).map fun i => fB (el fs i)) (k : Int)) := by
      intro j
      have hfl : (fromF fs n).length ≤ fs.length := idxs_len _ _
      induction j with
      | zero =>
        intro k hk
        rw [List.take_of_length_le (by omega)]
        have hal := along_len fs n
        refine go hz hX tabCo_ok Try.func8 (trN1 a vs ns fs n _ _ k) (no_and (decide_eq_false (by omega)) ?_)
        rw [← nodeAt_eq]
        show Tree.Holds _ (Safe P 8 X (Ends [tNs] (comesF ns fs n, ()))) _
        cases hact : actF (nK (nodeAt ns n)) with
        | true =>
          refine yes_and rfl ⟨by omega, ?_⟩
          have := loop8 hact (boundsF ns n).length 0 (by omega)
          rw [List.take_zero, List.append_nil] at this
          exact this
        | false =>
          refine no_and rfl ⟨by omega, ?_⟩
          rw [show ((fromF fs n).map fun i => fB (el fs i)) = alongF fs n from rfl]
          cases hl : hasLk ns n with
          | true =>
            have e : alongF fs n ++ [linkF ns n] = comesL ns fs n := by unfold comesL; rw [hact, hl]; simp
            refine yes_and rfl ⟨by omega, ?_⟩
            rw [e] 
            have hlen2 : (comesL ns fs n).length ≤ 800001 := by rw [← e, List.length_append]; simp only [List.length_cons, List.length_nil]; omega
            refine ⟨rfl, rfl, by omega, rfl, rfl, by rw [srtZ_len]; omega, ?_⟩
            rw [ec]; exact ends_eq _ rfl (by kernel_rfl)
          | false =>
            have e : alongF fs n = comesL ns fs n := by unfold comesL; rw [hact, hl]; simp
            rw [e] at hal
            rw [e]
            refine no_and rfl ⟨rfl, rfl, by omega, rfl, rfl, by rw [srtZ_len]; omega, ?_⟩
            rw [ec]; exact ends_eq _ rfl (by kernel_rfl)
      | succ j ih =>
        intro k hk
        have hlt : k < (fromF fs n).length := by omega
        have next := ih (k + 1) (by omega)
        rw [take_snoc hlt, List.map_append, List.map_cons, List.map_nil] at next
        have hm : 0 ≤ (fromF fs n).getD k 0 ∧ (fromF fs n).getD k 0 < 0 + (fs.length : Int) := idxs_lt (p := pFr n) (l := fs) (i := 0) _ (getD_mem hlt)
        refine go hz hX tabCo_ok Try.func8 (trN1 a vs ns fs n _ _ k) (yes_and (decide_eq_true (by omega)) ⟨by omega, by omega, ?_, ?_, ?_, ⟨by omega, by omega⟩, ?_⟩)
        · rw [Int.toNat_natCast]; omega
        · rw [Int.toNat_natCast]; omega
        · rw [List.length_map, List.length_take]; omega
        · rw [Int.toNat_natCast]; exact next
    have := loop1 (fromF fs n).length 0 (by omega)
    rw [List.take_zero, List.map_nil] at this
    exact this
end Ds

/-! What is reached: plain law. -/
namespace Ds
open Go Go.Sx Go.Proofs Lf
abbrev kM : CK := .int .i64
abbrev Mp : Type := List (Int × Int)
theorem mget_put' : ∀ (m : Mp) (n x v : Int), mget (mput m n v) x = if x = n then some v else mget m x := by
  intro m n x v
  have hmap : ∀ l : Mp, (l.map fun p => if p.1 == n then (n, v) else p).find? (fun p => p.1 == x) = if x = n then (if mhas l n = true then some (n, v) else none) else l.find? (fun p => p.1 == x) := by
    intro l
    induction l with
    | nil => simp [mhas]
    | cons p l ih =>
      simp only [List.map_cons, List.find?_cons]
      by_cases hp : p.1 = n
      · have hp' : (p.1 == n) = true := by simpa using hp
        simp only [hp', if_true]
        by_cases hx : x = n
        · subst hx
          simp [mhas, hp]
        · have : (n == x) = false := by simpa using Ne.symm hx
          have h2 : (p.1 == x) = false := by rw [hp]; exact this
          rw [this, h2, ih, if_neg hx]
          simp [hx]
      · have hp' : (p.1 == n) = false := by simpa using hp
        simp only [hp', Bool.false_eq_true, if_false]
        by_cases hpx : p.1 = x
        · have : (p.1 == x) = true := by simpa using hpx
          rw [this]
          rw [if_neg (fun h => hp (hpx.trans h))]
        · have : (p.1 == x) = false := by simpa using hpx
          rw [this, ih]
          have hm : mhas (p :: l) n = mhas l n := by simp [mhas, hp]
          rw [hm]
  unfold mput mget
  split
  · rename_i hh
    rw [hmap]
    split
    · rfl
    · rfl
  · rename_i hh
    rw [List.find?_append]
    by_cases hx : x = n
    · subst hx
      rw [if_pos rfl]
      have : m.find? (fun p => p.1 == x) = none := by
        rw [List.find?_eq_none]
        intro p hp hpx
        exact hh (by simp only [mhas, List.any_eq_true]; exact ⟨p, hp, hpx⟩)
      rw [this]
      simp
    · rw [if_neg hx]
      have : (n == x) = false := by simpa using Ne.symm hx
      simp [List.find?_cons, this]
def cnt (m : Mp) (k : Int) : Int := (mget m k).getD 0
def inc (m : Mp) (k : Int) : Mp := mput m k (cnt m k + 1)
theorem cnt_inc (m : Mp) (k z : Int) : cnt (inc m k) z = if z = k then cnt m k + 1 else cnt m z := by
  unfold inc
  show (mget (mput m k (cnt m k + 1)) z).getD 0 = _
  rw [mget_put']
  split <;> rfl
theorem cnt_up {m : Mp} {n z : Int} (hp : ∀ z, 0 ≤ cnt m z) (hz : 0 < cnt m z) : 0 < cnt (inc m n) z := by
  rw [cnt_inc]
  split
  · have := hp n; omega
  · exact hz
theorem cnt_nn {m : Mp} {n : Int} (hp : ∀ z, 0 ≤ cnt m z) (z : Int) : 0 ≤ cnt (inc m n) z := by
  rw [cnt_inc]
  split
  · have := hp n; omega
  · exact hp z
theorem cnt_back {m : Mp} {n z : Int} (hz : 0 < cnt (inc m n) z) : z = n ∨ 0 < cnt m z := by
  rw [cnt_inc] at hz
  split at hz
  · rename_i e; exact .inl e
  · exact .inr hz
/-- What is come to, from x, along what thr lets through. -/
inductive Fr (thr : CL cN → Bool) (ns : Ns) (fs : Fs) (x : Int) : Int → Prop
  | a {z : Int} (h : z ∈ comesF ns fs x) : Fr thr ns fs x z
  | b {w z : Int} (h : Fr thr ns fs x w) (hi : inN ns w = true) (ht : thr (nodeAt ns w) = true) (hz : z ∈ comesF ns fs w) : Fr thr ns fs x z
noncomputable def reachB (thr : CL cN → Bool) (ns : Ns) (fs : Fs) (x y : Int) : Bool := @decide (Fr thr ns fs x y ∧ inN ns y = true) (Classical.propDecidable _)
theorem reachB_iff {thr : CL cN → Bool} {ns : Ns} {fs : Fs} {x y : Int} : reachB thr ns fs x y = true ↔ Fr thr ns fs x y ∧ inN ns y = true := by
  unfold reachB; exact @decide_eq_true_iff _ (Classical.propDecidable _)
def unm (ns : Ns) (m : Mp) : Nat := (List.range ns.length).countP fun (i : Nat) => cnt m ((i : Nat) : Int) == 0
theorem count_less {p q : Nat → Bool} (hq : ∀ i, q i = true → p i = true) {k : Nat} (h1 : p k = true) (h2 : q k = false) : ∀ {n : Nat}, k < n → (List.range n).countP q + 1 ≤ (List.range n).countP p := by
  intro n
  induction n with
  | zero => intro h; omega
  | succ n ih =>
    intro h
    rw [List.range_succ, List.countP_append, List.countP_append]
    by_cases e : k = n
    · subst e
      have : (List.range k).countP q ≤ (List.range k).countP p := List.countP_mono_left fun i _ => hq i
      simp only [List.countP_cons, List.countP_nil, h1, h2]
      simp; omega
    · have := ih (by omega)
      have h3 : List.countP q [n] ≤ List.countP p [n] := List.countP_mono_left fun i _ => hq i
      omega
theorem unm_inc {ns : Ns} {m : Mp} {k : Int} (hp : ∀ z, 0 ≤ cnt m z) (hin : inN ns k = true) (h0 : cnt m k = 0) : unm ns (inc m k) + 1 ≤ unm ns m := by
  have hin : 0 ≤ k ∧ k < (ns.length : Int) := of_decide_eq_true hin
  unfold unm
  refine count_less (k := k.toNat) (fun i hi => ?_) ?_ ?_ (by omega)
  · rw [beq_iff_eq, cnt_inc] at hi
    rw [beq_iff_eq]
    split at hi
    · rename_i e; have := hp k; omega
    · exact hi
  · rw [beq_iff_eq, show ((k.toNat : Nat) : Int) = k from by omega]; exact h0
  · rw [beq_eq_false_iff_ne, cnt_inc, if_pos (by omega)]; have := hp k; omega
theorem unm_le {ns : Ns} {m : Mp} {k : Int} (hp : ∀ z, 0 ≤ cnt m z) : unm ns (inc m k) ≤ unm ns m := by
  unfold unm
  refine List.countP_mono_left fun i _ hi => ?_
  rw [beq_iff_eq, cnt_inc] at hi
  rw [beq_iff_eq]
  split at hi
  · rename_i e; have := hp k; omega
  · exact hi
/-- What holds at each round. -/
structure Rnd (thr : CL cN → Bool) (ns : Ns) (fs : Fs) (x y : Int) (m : Mp) (l : List Int) : Prop where
  fr : ∀ z ∈ l, Fr thr ns fs x z
  met : ∀ z, 0 < cnt m z → Fr thr ns fs x z
  from_ : ∀ z ∈ comesF ns fs x, z ∈ l ∨ 0 < cnt m z
  clo : ∀ w, 0 < cnt m w → inN ns w = true → thr (nodeAt ns w) = true → ∀ z ∈ comesF ns fs w, z ∈ l ∨ 0 < cnt m z
  no : 0 < cnt m y → inN ns y = false
  pos : ∀ z, 0 ≤ cnt m z
variable {thr : CL cN → Bool} {ns : Ns} {fs : Fs} {x y n : Int} {m : Mp} {l : List Int}
theorem Rnd.zero : Rnd thr ns fs x y [] (comesF ns fs x) :=
  ⟨fun z h => .a h, fun z h => absurd h (by show ¬ (0:Int) < 0; omega), fun z h => .inl h, fun w h => absurd h (by show ¬ (0:Int) < 0; omega), fun h => absurd h (by show ¬ (0:Int) < 0; omega), fun z => Int.le_refl 0⟩
theorem Rnd.last (h : Rnd thr ns fs x y m []) : reachB thr ns fs x y = false := by
  cases e : reachB thr ns fs x y with
  | false => rfl
  | true =>
    obtain ⟨h1, h2⟩ := reachB_iff.1 e
    have key : ∀ z, Fr thr ns fs x z → 0 < cnt m z := by
      intro z hz
      induction hz with
      | a hz => rcases h.from_ _ hz with h | h; · cases h
                · exact h
      | b hw hi ht hz ih => rcases h.clo _ ih hi ht _ hz with h | h; · cases h
                            · exact h
    rw [h.no (key y h1)] at h2; cases h2
/-- A round that goes on without what comes behind. -/
theorem Rnd.skip (h : Rnd thr ns fs x y m (n :: l)) (hn : 1 < cnt (inc m n) n ∨ inN ns n = false ∨ thr (nodeAt ns n) = false) (hy : 1 < cnt (inc m n) n ∨ inN ns n = false ∨ n ≠ y) : Rnd thr ns fs x y (inc m n) l := by
  have hp := h.pos
  have mono : ∀ z, 0 < cnt m z → 0 < cnt (inc m n) z := fun z hz => cnt_up hp hz
  have self : 0 < cnt (inc m n) n := by rw [cnt_inc, if_pos rfl]; have := hp n; omega
  have move : ∀ z, z ∈ n :: l ∨ 0 < cnt m z → z ∈ l ∨ 0 < cnt (inc m n) z := fun z hz => by
    rcases hz with hz | hz
    · rcases List.mem_cons.1 hz with rfl | hz
      · exact .inr self
      · exact .inl hz
    · exact .inr (mono z hz)
  have back : ∀ z, 0 < cnt (inc m n) z → z = n ∨ 0 < cnt m z := fun z hz => cnt_back hz
  have one : 1 < cnt (inc m n) n → 0 < cnt m n := fun hz => by rw [cnt_inc, if_pos rfl] at hz; omega
  refine ⟨fun z hz => h.fr z (List.mem_cons_of_mem _ hz), fun z hz => ?_, fun z hz => move z (h.from_ z hz), fun w hw hi ht z hz => ?_, fun hz => ?_, fun z => ?_⟩
  · rcases back z hz with rfl | hz
    · exact h.fr _ List.mem_cons_self
    · exact h.met z hz
  · rcases back w hw with rfl | hw
    · rcases hn with hn | hn | hn
      · exact move z (h.clo _ (one hn) hi ht z hz)
      · rw [hn] at hi; cases hi
      · rw [hn] at ht; cases ht
    · exact move z (h.clo w hw hi ht z hz)
  · rcases back y hz with e | hz
    · subst e
      rcases hy with hy | hy | hy
      · exact h.no (one hy)
      · exact hy
      · exact absurd rfl hy
    · exact h.no hz
  · exact cnt_nn hp z
theorem Rnd.hit (h : Rnd thr ns fs x y m (y :: l)) (hi : inN ns y = true) : reachB thr ns fs x y = true := reachB_iff.2 ⟨h.fr _ List.mem_cons_self, hi⟩
theorem Rnd.more (h : Rnd thr ns fs x y m (n :: l)) (hi : inN ns n = true) (ht : thr (nodeAt ns n) = true) (hy : n ≠ y) : Rnd thr ns fs x y (inc m n) (l ++ comesF ns fs n) := by
  have hp := h.pos
  have mono : ∀ z, 0 < cnt m z → 0 < cnt (inc m n) z := fun z hz => cnt_up hp hz
  have self : 0 < cnt (inc m n) n := by rw [cnt_inc, if_pos rfl]; have := hp n; omega
  have move : ∀ z, z ∈ n :: l ∨ 0 < cnt m z → z ∈ l ++ comesF ns fs n ∨ 0 < cnt (inc m n) z := fun z hz => by
    rcases hz with hz | hz
    · rcases List.mem_cons.1 hz with rfl | hz
      · exact .inr self
      · exact .inl (List.mem_append_left _ hz)
    · exact .inr (mono z hz)
  have back : ∀ z, 0 < cnt (inc m n) z → z = n ∨ 0 < cnt m z := fun z hz => cnt_back hz
  refine ⟨fun z hz => ?_, fun z hz => ?_, fun z hz => move z (h.from_ z hz), fun w hw hi' ht' z hz => ?_, fun hz => ?_, fun z => ?_⟩
  · rcases List.mem_append.1 hz with hz | hz
    · exact h.fr z (List.mem_cons_of_mem _ hz)
    · exact .b (h.fr n List.mem_cons_self) hi ht hz
  · rcases back z hz with rfl | hz
    · exact h.fr _ List.mem_cons_self
    · exact h.met z hz
  · rcases back w hw with rfl | hw
    · exact .inl (List.mem_append_right _ hz)
    · exact move z (h.clo w hw hi' ht' z hz)
  · rcases back y hz with e | hz
    · exact absurd e.symm hy
    · exact h.no hz
  · exact cnt_nn hp z
theorem cmpG_len : ∀ {l : List Int} {x : Int}, (cmpG x l).length ≤ l.length
  | [], x => Nat.le_refl _
  | y :: l, x => by
    simp only [cmpG]
    split
    · have := cmpG_len (l := l) (x := y); simp only [List.length_cons]; omega
    · have := cmpG_len (l := l) (x := y); simp only [List.length_cons]; omega
theorem cmpF_len {l : List Int} : (cmpF l).length ≤ l.length := by
  cases l with
  | nil => exact Nat.le_refl _
  | cons x l => have := cmpG_len (l := l) (x := x); simp only [cmpF, List.length_cons]; omega
theorem comes_len (ns : Ns) (fs : Fs) (n : Int) : (comesF ns fs n).length ≤ ns.length + fs.length + 1 := by
  unfold comesF
  split
  · have h1 := cmpF_len (l := srtZ (comesL ns fs n))
    rw [srtZ_len] at h1
    have h2 : (comesL ns fs n).length ≤ ns.length + fs.length + 1 := by
      have h3 := along_len fs n
      have h4 : (boundsF ns n).length ≤ ns.length := idxs_len _ _
      unfold comesL
      rw [List.length_append, List.length_append]
      split <;> split <;> simp only [List.length_nil, List.length_cons] <;> omega
    omega
  · simp
end Ds

namespace Ds
open Go Go.Sx Go.Proofs Lf
def tabRe : Tab := [(8, sumCo), (25, sumNd), (29, sumWa)]
abbrev fRe : FuncId := 23
abbrev inRe : List FuncId := [fRe, 24]
def nsRe : List (Nat × Norm) := [((fRe + 1) * 100000 + 3, ⟨[], [2, 3, 4, 8, 9, 10], 0, []⟩)]
noncomputable def cRe (a : ByteArray) (vs : Vs) (ns : Ns) (fs : Fs) (y : Int) (m : Mp) (l : List Int) (t : FuncId) (fn : Func) (r j : Nat) : Cfg := ⟨sl 66 [(2, avI y), (3, .s (.fn0 t)), (4, .ptr 0 0), (8, .s (.bool false)), (9, .mapv 1), (10, .vec 3)], [obPr a vs ns fs, .map kM m, .dead, .vec (.ints .i64 l) 3], hd Try.f23 3, ⟨some fRe, false, 0, [inCall fn none r j false 0], 0⟩⟩
noncomputable def cRv (a : ByteArray) (vs : Vs) (ns : Ns) (fs : Fs) (y : Int) (m : Mp) (l : List Int) (t : FuncId) (fn : Func) (r j : Nat) : Cfg := ⟨sl 66 [(2, avI y), (3, .s (.fn0 t)), (4, .ptr 0 0), (8, .s (.bool false)), (9, .mapv 1), (10, .vec 2)], [obPr a vs ns fs, .map kM m, .vec (.ints .i64 l) 3], hd Try.f23 3, ⟨some fRe, false, 0, [inCall fn none r j false 0], 0⟩⟩
noncomputable def cRh (a : ByteArray) (vs : Vs) (ns : Ns) (fs : Fs) (y : Int) (m : Mp) (l : List Int) (lo n : Nat) (t : FuncId) (fn : Func) (r j : Nat) : Cfg := ⟨sl 66 [(2, avI y), (3, .s (.fn0 t)), (4, .ptr 0 0), (8, .s (.bool false)), (9, .mapv 1), (10, .part 2 lo n)], [obPr a vs ns fs, .map kM m, .vec (.ints .i64 l) 3], hd Try.f23 3, ⟨some fRe, false, 0, [inCall fn none r j false 0], 0⟩⟩
abbrev preRe : AL [tPr, tInt, tInt] → List Prop := fun ((_, _, ns, fs, ()), _, _, ()) => [(ns : List (CL cN)).length ≤ 400000, (fs : List (CL cF)).length ≤ 400000]
theorem trRe (a : ByteArray) (vs : Vs) (ns : Ns) (fs : Fs) (x y : Int) : run P tabRe.sum Try.f7 nsRe (start Try.f7 [avPr a vs ns fs, avI x, avI y] []) inRe =
  Tree.need (List.length ns ≤ (400000 : Nat)) (Tree.need (List.length fs ≤ (400000 : Nat)) (Tree.at (Cfg.mk (sl (66 : Nat) [((2 : Nat), AV.s (SV.int IntKind.i64 y)), ((3 : Nat), AV.s (SV.fn0 (24 : Nat))), ((4 : Nat), AV.ptr (0 : Nat) (0 : Nat)), ((8 : Nat), AV.s (SV.bool false)), ((9 : Nat), AV.mapv (1 : Nat)), ((10 : Nat), AV.vec (2 : Nat))]) [AObj.own [AV.s (SV.str a), AV.s (SV.ro (Con.typ cV vs)), AV.s (SV.ro (Con.typ cN ns)), AV.s (SV.ro (Con.typ cF fs))] (26 : Nat), AObj.map (CK.int IntKind.i64) [], AObj.vec (Con.ints IntKind.i64 (comesF ns fs x)) (3 : Nat)] (hd Try.f23 (3 : Nat)) (Stk.mk (some (23 : Nat)) false (0 : Nat) [inCall Try.f7 none (1 : Nat) (3 : Nat) false (0 : Nat)] (0 : Nat))))) := by kernel_rfl
theorem trRl (a : ByteArray) (vs : Vs) (ns : Ns) (fs : Fs) (y : Int) (m : Mp) (l : List Int) : run P tabRe.sum Try.f7 nsRe (cRe a vs ns fs y m l 24 Try.f7 1 3) inRe =
  Tree.ite (decide ((↑l.length : Int) > (0 : Int)))
  (Tree.need ((0 : Int) ≤ (0 : Int))
    (Tree.need ((0 : Int) < (↑l.length : Int))
      (Tree.need (inI64 ((mget m (l.getD (0 : Nat) (0 : Int))).getD (CK.int IntKind.i64).d + (1 : Int)))
        (Tree.ite (decide ((mget (mput m (l.getD (0 : Nat) (0 : Int)) ((mget m (l.getD (0 : Nat) (0 : Int))).getD (CK.int IntKind.i64).d + (1 : Int))) (l.getD (0 : Nat) (0 : Int))).getD (CK.int IntKind.i64).d > (1 : Int))) (Tree.need ((0 : Int) ≤ (1 : Int)) (Tree.need ((1 : Int) ≤ (↑l.length : Int)) (Tree.need ((↑(0 : Nat) : Int) + (↑l.length : Int) ≤ (↑l.length : Int)) (Tree.at (Cfg.mk (sl (66 : Nat) [((2 : Nat), AV.s (SV.int IntKind.i64 y)), ((3 : Nat), AV.s (SV.fn0 (24 : Nat))), ((4 : Nat), AV.ptr (0 : Nat) (0 : Nat)), ((8 : Nat), AV.s (SV.bool false)), ((9 : Nat), AV.mapv (1 : Nat)), ((10 : Nat), AV.part (2 : Nat) (1 : Nat) ((↑l.length : Int).toNat - Int.toNat (1 : Int)))]) [AObj.own [AV.s (SV.str a), AV.s (SV.ro (Con.typ cV vs)), AV.s (SV.ro (Con.typ cN ns)), AV.s (SV.ro (Con.typ cF fs))] (26 : Nat), AObj.map (CK.int IntKind.i64) (mput m (l.getD (0 : Nat) (0 : Int)) ((mget m (l.getD (0 : Nat) (0 : Int))).getD (CK.int IntKind.i64).d + (1 : Int))), AObj.vec (Con.ints IntKind.i64 l) (3 : Nat)] (hd Try.f23 (3 : Nat)) (Stk.mk (some (23 : Nat)) false (0 : Nat) [inCall Try.f7 none (1 : Nat) (3 : Nat) false (0 : Nat)] (0 : Nat)))))))
          (Tree.ite (!inN ns (l.getD (0 : Nat) (0 : Int))) (Tree.need ((0 : Int) ≤ (1 : Int)) (Tree.need ((1 : Int) ≤ (↑l.length : Int)) (Tree.need ((↑(0 : Nat) : Int) + (↑l.length : Int) ≤ (↑l.length : Int)) (Tree.at (Cfg.mk (sl (66 : Nat) [((2 : Nat), AV.s (SV.int IntKind.i64 y)), ((3 : Nat), AV.s (SV.fn0 (24 : Nat))), ((4 : Nat), AV.ptr (0 : Nat) (0 : Nat)), ((8 : Nat), AV.s (SV.bool false)), ((9 : Nat), AV.mapv (1 : Nat)), ((10 : Nat), AV.part (2 : Nat) (1 : Nat) ((↑l.length : Int).toNat - Int.toNat (1 : Int)))]) [AObj.own [AV.s (SV.str a), AV.s (SV.ro (Con.typ cV vs)), AV.s (SV.ro (Con.typ cN ns)), AV.s (SV.ro (Con.typ cF fs))] (26 : Nat), AObj.map (CK.int IntKind.i64) (mput m (l.getD (0 : Nat) (0 : Int)) ((mget m (l.getD (0 : Nat) (0 : Int))).getD (CK.int IntKind.i64).d + (1 : Int))), AObj.vec (Con.ints IntKind.i64 l) (3 : Nat)] (hd Try.f23 (3 : Nat)) (Stk.mk (some (23 : Nat)) false (0 : Nat) [inCall Try.f7 none (1 : Nat) (3 : Nat) false (0 : Nat)] (0 : Nat))))))) (Tree.ite (l.getD (0 : Nat) (0 : Int) == y) (Tree.ret [AObj.own [AV.s (SV.str a), AV.s (SV.ro (Con.typ cV vs)), AV.s (SV.ro (Con.typ cN ns)), AV.s (SV.ro (Con.typ cF fs))] (26 : Nat), AObj.map (CK.int IntKind.i64) (mput m (l.getD (0 : Nat) (0 : Int)) ((mget m (l.getD (0 : Nat) (0 : Int))).getD (CK.int IntKind.i64).d + (1 : Int))), AObj.dead, AObj.vec (Con.ints IntKind.i64 l) (3 : Nat), AObj.own [AV.s (SV.str (nN (ndA ns (l.getD (0 : Nat) (0 : Int))))), AV.s (SV.int IntKind.u8 (nK (ndA ns (l.getD (0 : Nat) (0 : Int))))), AV.s (SV.int IntKind.i64 (nI (ndA ns (l.getD (0 : Nat) (0 : Int))))), AV.s (SV.int IntKind.i64 (nO (ndA ns (l.getD (0 : Nat) (0 : Int))))), AV.s (SV.int IntKind.u8 (nE (ndA ns (l.getD (0 : Nat) (0 : Int))))), AV.s (SV.str (nY (ndA ns (l.getD (0 : Nat) (0 : Int))))), AV.s (SV.str (nT (ndA ns (l.getD (0 : Nat) (0 : Int))))), AV.s (SV.str (nS (ndA ns (l.getD (0 : Nat) (0 : Int))))), AV.s (SV.bool (nB (ndA ns (l.getD (0 : Nat) (0 : Int))))), AV.s (SV.ro (Con.typ cV (nV (ndA ns (l.getD (0 : Nat) (0 : Int)))))), AV.s (SV.ro (Con.strs (nZ (ndA ns (l.getD (0 : Nat) (0 : Int))))))] (34 : Nat)] (AV.s (SV.blit true))) (Tree.need (List.length ns ≤ (400000 : Nat)) (Tree.need (List.length fs ≤ (400000 : Nat)) (Tree.need ((l.length + (comesF ns fs (l.getD (0 : Nat) (0 : Int))).length) * (8 : Nat) ≤ (140737488355328 : Nat)) (Tree.need ((0 : Int) ≤ (1 : Int)) (Tree.need ((1 : Int) ≤ (↑(l ++ comesF ns fs (l.getD (0 : Nat) (0 : Int))).length : Int)) (Tree.need ((↑(0 : Nat) : Int) + (↑(l ++ comesF ns fs (l.getD (0 : Nat) (0 : Int))).length : Int) ≤ (↑(l ++ comesF ns fs (l.getD (0 : Nat) (0 : Int))).length : Int)) (Tree.at (Cfg.mk (sl (66 : Nat) [((2 : Nat), AV.s (SV.int IntKind.i64 y)), ((3 : Nat), AV.s (SV.fn0 (24 : Nat))), ((4 : Nat), AV.ptr (0 : Nat) (0 : Nat)), ((8 : Nat), AV.s (SV.bool false)), ((9 : Nat), AV.mapv (1 : Nat)), ((10 : Nat), AV.part (2 : Nat) (1 : Nat) ((↑(l ++ comesF ns fs (l.getD (0 : Nat) (0 : Int))).length : Int).toNat - Int.toNat (1 : Int)))]) [AObj.own [AV.s (SV.str a), AV.s (SV.ro (Con.typ cV vs)), AV.s (SV.ro (Con.typ cN ns)), AV.s (SV.ro (Con.typ cF fs))] (26 : Nat), AObj.map (CK.int IntKind.i64) (mput m (l.getD (0 : Nat) (0 : Int)) ((mget m (l.getD (0 : Nat) (0 : Int))).getD (CK.int IntKind.i64).d + (1 : Int))), AObj.vec (Con.ints IntKind.i64 (l ++ comesF ns fs (l.getD (0 : Nat) (0 : Int)))) (3 : Nat)] (hd Try.f23 (3 : Nat)) (Stk.mk (some (23 : Nat)) false (0 : Nat) [inCall Try.f7 none (1 : Nat) (3 : Nat) false (0 : Nat)] (0 : Nat))))))))))))))))
  (Tree.ret [AObj.own [AV.s (SV.str a), AV.s (SV.ro (Con.typ cV vs)), AV.s (SV.ro (Con.typ cN ns)), AV.s (SV.ro (Con.typ cF fs))] (26 : Nat), AObj.map (CK.int IntKind.i64) m, AObj.dead, AObj.vec (Con.ints IntKind.i64 l) (3 : Nat)] (AV.s (SV.blit false))) := by kernel_rfl
end Ds

namespace Ds
open Go Go.Sx Go.Proofs Lf
theorem tabRe_ok {Z : Glob} : tabRe.Ok P Z := Tab.Ok.cons comes_ok.sumR (Tab.Ok.cons nd2_ok.sumR (Tab.Ok.cons wa_ok.sum Tab.Ok.nil))
theorem sub1 (n : Int) (l : List Int) (k : Nat) (hk : k = l.length) : conSub (.ints .i64 (n :: l)) 1 (1 + k) = .ints .i64 l := by
  subst hk
  show Con.ints .i64 (((n :: l).take (1 + l.length)).drop 1) = _
  rw [Nat.add_comm 1, List.take_succ_cons, List.take_length, List.drop_one, List.tail_cons]
theorem sub0 (l : List Int) : conSub (.ints .i64 l) 0 (0 + (Con.ints .i64 l).n) = .ints .i64 l := by
  show Con.ints .i64 ((l.take (0 + l.length)).drop 0) = _
  rw [Nat.zero_add, List.take_length, List.drop_zero]
theorem pot_more {ns : Ns} {fs : Fs} {m : Mp} {n : Int} {l : List Int} {j : Nat} (hp : ∀ z, 0 ≤ cnt m z) (hi : inN ns n = true) (h0 : cnt m n = 0) (h : (n :: l).length + unm ns m * (ns.length + fs.length + 1) ≤ j + 1) : (l ++ comesF ns fs n).length + unm ns (inc m n) * (ns.length + fs.length + 1) ≤ j := by
  have h1 := unm_inc hp hi h0
  have h2 := comes_len ns fs n
  have h3 := Nat.mul_le_mul_right (ns.length + fs.length + 1) h1
  rw [Nat.add_mul, Nat.one_mul] at h3
  rw [List.length_append]
  rw [List.length_cons] at h
  generalize unm ns (inc m n) * (ns.length + fs.length + 1) = u at *
  generalize unm ns m * (ns.length + fs.length + 1) = v at *
  omega
theorem pot_skip {ns : Ns} {fs : Fs} {m : Mp} {n : Int} {l : List Int} {j : Nat} (hp : ∀ z, 0 ≤ cnt m z) (h : (n :: l).length + unm ns m * (ns.length + fs.length + 1) ≤ j + 1) : l.length + unm ns (inc m n) * (ns.length + fs.length + 1) ≤ j := by
  have h1 := unm_le (ns := ns) (k := n) hp
  have h3 := Nat.mul_le_mul_right (ns.length + fs.length + 1) h1
  rw [List.length_cons] at h
  generalize unm ns (inc m n) * (ns.length + fs.length + 1) = u at *
  generalize unm ns m * (ns.length + fs.length + 1) = v at *
  omega
theorem cnt_le {m : Mp} {n : Int} {c : Nat} (h : ∀ z, cnt m z ≤ (c : Int)) : ∀ z, cnt (inc m n) z ≤ ((c + 1 : Nat) : Int) := fun z => by
  rw [cnt_inc]; have := h n; have := h z; push_cast; split <;> omega
theorem reaches_ok {Z : Glob} : FnOk P Z 7 [tPr, tInt, tInt] [tBool] preRe (fun ((_, _, ns, fs, ()), x, y, ()) => (reachB (fun _ => true) ns fs x y, ())) := by
  refine fnOk_of_safe Try.func7 (by kernel_rfl) (by kernel_rfl) ?_
  rintro ⟨⟨(a : ByteArray), (vs : List (CL cV)), (ns : List (CL cN)), (fs : List (CL cF)), ⟨⟩⟩, (x : Int), (y : Int), ⟨⟩⟩ _ ⟨(hn : ns.length ≤ 400000), (hf : fs.length ≤ 400000), _⟩ X hX hz
  show Safe P 7 X (Ends [tBool] (reachB (fun _ => true) ns fs x y, ())) _
  have loop : ∀ (j : Nat) (m : Mp) (l : List Int) (c : Nat), Rnd (fun _ => true) ns fs x y m l → l.length + unm ns m * (ns.length + fs.length + 1) ≤ j → c + j ≤ 1000000000000 → (∀ z, cnt m z ≤ (c : Int)) →
      Safe P 7 X (Ends [tBool] (reachB (fun _ => true) ns fs x y, ())) (cRe a vs ns fs y m l 24 Try.f7 1 3) := by
    intro j
    induction j with
    | zero =>
      intro m l c hr hj hc hm
      have hl : l = [] := List.eq_nil_of_length_eq_zero (by omega)
      subst hl
      refine go hz hX tabRe_ok Try.func7 (trRl a vs ns fs y m []) (no_and rfl ?_)
      rw [hr.last]; exact ends_eq _ rfl (by kernel_rfl)
    | succ j ih =>
      intro m l c hr hj hc hm
      cases l with
      | nil =>
        refine go hz hX tabRe_ok Try.func7 (trRl a vs ns fs y m []) (no_and rfl ?_)
        rw [hr.last]; exact ends_eq _ rfl (by kernel_rfl)
      | cons n l =>
        have hlen : l.length ≤ 1000000000000 := by rw [List.length_cons] at hj; omega
        have hcl := comes_len ns fs n
        have hmn := hm n
        have hpn := hr.pos n
        have skip : (1 < cnt (inc m n) n ∨ inN ns n = false) → ∀ k, k = l.length → Safe P 7 X (Ends [tBool] (reachB (fun _ => true) ns fs x y, ())) (cRh a vs ns fs y (inc m n) (n :: l) 1 k 24 Try.f7 1 3) := fun h k hk => by
          refine cut_safe (t := 10) (id := 2) rfl rfl ?_
          rw [sub1 n l k hk]
          exact ih (inc m n) l (c + 1) (hr.skip (h.imp id .inl) (h.imp id .inl)) (pot_skip hr.pos hj) (by omega) (cnt_le hm)
        refine go hz hX tabRe_ok Try.func7 (trRl a vs ns fs y m (n :: l)) (yes_and (decide_eq_true (by rw [List.length_cons]; omega)) ⟨by omega, by rw [List.length_cons]; omega, ?_⟩)
        show Tree.Holds _ _ _
        refine ⟨(show inI64 (cnt m n + 1) from ⟨by omega, by omega⟩), ?_⟩
        have e1 : cnt (inc m n) n = cnt m n + 1 := by rw [cnt_inc, if_pos rfl]
        have lens : ((n :: l).length : Int).toNat - Int.toNat 1 = l.length := by rw [List.length_cons]; omega
        by_cases h1 : 1 < cnt (inc m n) n
        · refine yes_and (decide_eq_true h1) ⟨by omega, by rw [List.length_cons]; omega, by rw [List.length_cons]; omega, ?_⟩
          exact skip (.inl h1) _ lens
        refine no_and (decide_eq_false h1) ?_
        cases h2 : inN ns n with
        | false =>
          refine yes_and (by show (!inN ns n) = true; rw [h2]; rfl) ⟨by omega, by rw [List.length_cons]; omega, by rw [List.length_cons]; omega, ?_⟩
          exact skip (.inr h2) _ lens
        | true =>
          refine no_and (by show (!inN ns n) = false; rw [h2]; rfl) ?_
          by_cases h3 : n = y
          · subst h3
            refine yes_and (by show (n == n) = true; simp) ?_
            rw [hr.hit h2]; exact ends_eq _ rfl (by kernel_rfl)
          · refine no_and (by show (n == y) = false; simpa using h3) ⟨by omega, by omega, ?_⟩
            show Tree.Holds _ _ _
            refine ⟨?_, by omega, ?_, ?_, ?_⟩
            · show ((n :: l).length + (comesF ns fs n).length) * 8 ≤ _; rw [List.length_cons]; omega
            · show (1 : Int) ≤ (((n :: l) ++ comesF ns fs n).length : Int); rw [List.length_append, List.length_cons]; omega
            · show (((0 : Nat) : Int) + (((n :: l) ++ comesF ns fs n).length : Int) ≤ (((n :: l) ++ comesF ns fs n).length : Int)); omega
            · show Safe P 7 X _ (cRh a vs ns fs y (inc m n) (n :: (l ++ comesF ns fs n)) 1 ((((n :: l) ++ comesF ns fs n).length : Int).toNat - Int.toNat 1) 24 Try.f7 1 3)
              refine cut_safe (t := 10) (id := 2) rfl rfl ?_
              rw [sub1 n (l ++ comesF ns fs n) _ (by rw [List.length_append, List.length_append, List.length_cons]; omega)]
              exact ih (inc m n) _ (c + 1) (hr.more h2 rfl h3) (pot_more hr.pos h2 (by omega) hj) (by omega) (cnt_le hm)
  refine go hz hX tabRe_ok Try.func7 (trRe a vs ns fs x y) ⟨hn, hf, ?_⟩
  show Safe P 7 X _ (cRv a vs ns fs y [] (comesF ns fs x) 24 Try.f7 1 3)
  refine vec_cut_safe (t := 10) (id := 2) rfl rfl (sub0 _) ?_
  have hU : unm ns [] ≤ ns.length := by
    unfold unm; exact Nat.le_trans (List.countP_le_length) (by rw [List.length_range]; exact Nat.le_refl _)
  have h4 := comes_len ns fs x
  have h5 : unm ns [] * (ns.length + fs.length + 1) ≤ 400000 * 800001 := Nat.mul_le_mul (by omega) (by omega)
  exact loop _ [] (comesF ns fs x) 0 .zero (Nat.le_refl _) (by omega) (fun z => Int.le_refl 0)
end Ds

namespace Ds
open Go Go.Sx Go.Proofs Lf
abbrev inCi : List FuncId := [fRe, 30]
def nsCi : List (Nat × Norm) := [(2, ⟨[], [1, 6, 7, 8], 0, []⟩), ((fRe + 1) * 100000 + 3, ⟨[], [2, 3, 4, 8, 9, 10, 56, 61, 62, 63, 71], 0, []⟩)]
noncomputable def cCi (a : ByteArray) (vs : Vs) (ns : Ns) (fs : Fs) (i : Int) : Cfg := ⟨sl 23 [(1, .ptr 0 0), (6, .s (.ro (.typ cN ns))), (7, avI (ns.length : Int)), (8, avI i)], [obPr a vs ns fs], hd Try.f9 2, {}⟩
theorem trCi (a : ByteArray) (vs : Vs) (ns : Ns) (fs : Fs) : run P tabRe.sum Try.f9 nsCi (start Try.f9 [avPr a vs ns fs] []) inCi =
  Tree.at (cCi a vs ns fs (0 : Int)) := by kernel_rfl
theorem trCl (a : ByteArray) (vs : Vs) (ns : Ns) (fs : Fs) (i : Int) : run P tabRe.sum Try.f9 nsCi (cCi a vs ns fs i) inCi =
  Tree.ite (decide (i < (↑(List.length ns) : Int))) (Tree.need ((0 : Int) ≤ i) (Tree.need (i < (↑(List.length ns) : Int)) (Tree.ite (!(nK (el ns i) == (3 : Int) || nK (el ns i) == (10 : Int) || nK (el ns i) == (6 : Int) && (nE (el ns i) == (1 : Int) || nE (el ns i) == (2 : Int) || nE (el ns i) == (3 : Int)))) (Tree.need (List.length ns ≤ (400000 : Nat)) (Tree.need (List.length fs ≤ (400000 : Nat)) (Tree.at (Cfg.mk (sl (78 : Nat) [((2 : Nat), AV.s (SV.int IntKind.i64 i)), ((3 : Nat), AV.s (SV.fn0 (30 : Nat))), ((4 : Nat), AV.ptr (0 : Nat) (0 : Nat)), ((8 : Nat), AV.s (SV.bool false)), ((9 : Nat), AV.mapv (1 : Nat)), ((10 : Nat), AV.vec (2 : Nat)), ((56 : Nat), AV.ptr (3 : Nat) (0 : Nat)), ((61 : Nat), AV.s (SV.ro (Con.typ cN ns))), ((62 : Nat), AV.s (SV.int IntKind.i64 (↑(List.length ns) : Int))), ((63 : Nat), AV.s (SV.int IntKind.i64 i)), ((71 : Nat), AV.s (SV.bool true))]) [AObj.own [AV.s (SV.str a), AV.s (SV.ro (Con.typ cV vs)), AV.s (SV.ro (Con.typ cN ns)), AV.s (SV.ro (Con.typ cF fs))] (26 : Nat), AObj.map (CK.int IntKind.i64) [], AObj.vec (Con.ints IntKind.i64 (comesF ns fs i)) (3 : Nat), AObj.own [AV.s (SV.str a), AV.s (SV.ro (Con.typ cV vs)), AV.s (SV.ro (Con.typ cN ns)), AV.s (SV.ro (Con.typ cF fs))] (26 : Nat)] (hd Try.f23 (3 : Nat)) (Stk.mk (some (23 : Nat)) false (0 : Nat) [inCall Try.f9 none (4 : Nat) (7 : Nat) false (0 : Nat)] (0 : Nat)))))) (Tree.need (inI64 (i + (1 : Int))) (Tree.at (cCi a vs ns fs (i + (1 : Int)))))))) (Tree.ret [AObj.own [AV.s (SV.str a), AV.s (SV.ro (Con.typ cV vs)), AV.s (SV.ro (Con.typ cN ns)), AV.s (SV.ro (Con.typ cF fs))] (26 : Nat)] (AV.s (SV.blit false))) := by kernel_rfl
end Ds

namespace Ds
open Go Go.Sx Go.Proofs Lf
noncomputable def cCe (a : ByteArray) (vs : Vs) (ns : Ns) (fs : Fs) (i : Int) (m : Mp) (l : List Int) : Cfg := ⟨sl 78 [(2, avI i), (3, .s (.fn0 30)), (4, .ptr 0 0), (8, .s (.bool false)), (9, .mapv 1), (10, .vec 4), (56, .ptr 3 0), (61, .s (.ro (.typ cN ns))), (62, avI (ns.length : Int)), (63, avI i), (71, .s (.bool true))], [obPr a vs ns fs, .map kM m, .dead, obPr a vs ns fs, .vec (.ints .i64 l) 3], hd Try.f23 3, ⟨some fRe, false, 0, [inCall Try.f9 none 4 7 false 0], 0⟩⟩
noncomputable def cCv (a : ByteArray) (vs : Vs) (ns : Ns) (fs : Fs) (i : Int) (m : Mp) (l : List Int) : Cfg := ⟨sl 78 [(2, avI i), (3, .s (.fn0 30)), (4, .ptr 0 0), (8, .s (.bool false)), (9, .mapv 1), (10, .vec 2), (56, .ptr 3 0), (61, .s (.ro (.typ cN ns))), (62, avI (ns.length : Int)), (63, avI i), (71, .s (.bool true))], [obPr a vs ns fs, .map kM m, .vec (.ints .i64 l) 3, obPr a vs ns fs], hd Try.f23 3, ⟨some fRe, false, 0, [inCall Try.f9 none 4 7 false 0], 0⟩⟩
noncomputable def cCh (a : ByteArray) (vs : Vs) (ns : Ns) (fs : Fs) (i : Int) (m : Mp) (l : List Int) (lo n : Nat) : Cfg := ⟨sl 78 [(2, avI i), (3, .s (.fn0 30)), (4, .ptr 0 0), (8, .s (.bool false)), (9, .mapv 1), (10, .part 2 lo n), (56, .ptr 3 0), (61, .s (.ro (.typ cN ns))), (62, avI (ns.length : Int)), (63, avI i), (71, .s (.bool true))], [obPr a vs ns fs, .map kM m, .vec (.ints .i64 l) 3, obPr a vs ns fs], hd Try.f23 3, ⟨some fRe, false, 0, [inCall Try.f9 none 4 7 false 0], 0⟩⟩
theorem trCe (a : ByteArray) (vs : Vs) (ns : Ns) (fs : Fs) (i : Int) (m : Mp) (l : List Int) : run P tabRe.sum Try.f9 nsCi (cCe a vs ns fs i m l) inCi =
  Tree.ite (decide ((↑l.length : Int) > (0 : Int)))
  (Tree.need ((0 : Int) ≤ (0 : Int))
    (Tree.need ((0 : Int) < (↑l.length : Int))
      (Tree.need (inI64 ((mget m (l.getD (0 : Nat) (0 : Int))).getD (CK.int IntKind.i64).d + (1 : Int)))
        (Tree.ite (decide ((mget (mput m (l.getD (0 : Nat) (0 : Int)) ((mget m (l.getD (0 : Nat) (0 : Int))).getD (CK.int IntKind.i64).d + (1 : Int))) (l.getD (0 : Nat) (0 : Int))).getD (CK.int IntKind.i64).d > (1 : Int))) (Tree.need ((0 : Int) ≤ (1 : Int)) (Tree.need ((1 : Int) ≤ (↑l.length : Int)) (Tree.need ((↑(0 : Nat) : Int) + (↑l.length : Int) ≤ (↑l.length : Int)) (Tree.at (cCh a vs ns fs i (mput m (l.getD (0 : Nat) (0 : Int)) ((mget m (l.getD (0 : Nat) (0 : Int))).getD (CK.int IntKind.i64).d + (1 : Int))) l (1 : Nat) ((↑l.length : Int).toNat - Int.toNat (1 : Int)))))))
          (Tree.ite (!inN ns (l.getD (0 : Nat) (0 : Int))) (Tree.need ((0 : Int) ≤ (1 : Int)) (Tree.need ((1 : Int) ≤ (↑l.length : Int)) (Tree.need ((↑(0 : Nat) : Int) + (↑l.length : Int) ≤ (↑l.length : Int)) (Tree.at (cCh a vs ns fs i (mput m (l.getD (0 : Nat) (0 : Int)) ((mget m (l.getD (0 : Nat) (0 : Int))).getD (CK.int IntKind.i64).d + (1 : Int))) l (1 : Nat) ((↑l.length : Int).toNat - Int.toNat (1 : Int))))))) (Tree.ite (l.getD (0 : Nat) (0 : Int) == i) (Tree.ite true (Tree.ret [AObj.own [AV.s (SV.str a), AV.s (SV.ro (Con.typ cV vs)), AV.s (SV.ro (Con.typ cN ns)), AV.s (SV.ro (Con.typ cF fs))] (26 : Nat), AObj.map (CK.int IntKind.i64) (mput m (l.getD (0 : Nat) (0 : Int)) ((mget m (l.getD (0 : Nat) (0 : Int))).getD (CK.int IntKind.i64).d + (1 : Int))), AObj.dead, AObj.own [AV.s (SV.str a), AV.s (SV.ro (Con.typ cV vs)), AV.s (SV.ro (Con.typ cN ns)), AV.s (SV.ro (Con.typ cF fs))] (26 : Nat), AObj.vec (Con.ints IntKind.i64 l) (3 : Nat), AObj.own [AV.s (SV.str (nN (ndA ns (l.getD (0 : Nat) (0 : Int))))), AV.s (SV.int IntKind.u8 (nK (ndA ns (l.getD (0 : Nat) (0 : Int))))), AV.s (SV.int IntKind.i64 (nI (ndA ns (l.getD (0 : Nat) (0 : Int))))), AV.s (SV.int IntKind.i64 (nO (ndA ns (l.getD (0 : Nat) (0 : Int))))), AV.s (SV.int IntKind.u8 (nE (ndA ns (l.getD (0 : Nat) (0 : Int))))), AV.s (SV.str (nY (ndA ns (l.getD (0 : Nat) (0 : Int))))), AV.s (SV.str (nT (ndA ns (l.getD (0 : Nat) (0 : Int))))), AV.s (SV.str (nS (ndA ns (l.getD (0 : Nat) (0 : Int))))), AV.s (SV.bool (nB (ndA ns (l.getD (0 : Nat) (0 : Int))))), AV.s (SV.ro (Con.typ cV (nV (ndA ns (l.getD (0 : Nat) (0 : Int)))))), AV.s (SV.ro (Con.strs (nZ (ndA ns (l.getD (0 : Nat) (0 : Int))))))] (34 : Nat)] (AV.s (SV.blit true))) (Tree.need (inI64 (i + (1 : Int))) (Tree.at (Cfg.mk (sl (23 : Nat) [((1 : Nat), AV.ptr (0 : Nat) (0 : Nat)), ((6 : Nat), AV.s (SV.ro (Con.typ cN ns))), ((7 : Nat), AV.s (SV.int IntKind.i64 (↑(List.length ns) : Int))), ((8 : Nat), AV.s (SV.int IntKind.i64 (i + (1 : Int))))]) [AObj.own [AV.s (SV.str a), AV.s (SV.ro (Con.typ cV vs)), AV.s (SV.ro (Con.typ cN ns)), AV.s (SV.ro (Con.typ cF fs))] (26 : Nat)] (hd Try.f9 (2 : Nat)) (Stk.mk none false (0 : Nat) [] (0 : Nat)))))) (Tree.ite (!(nK (ndA ns (l.getD (0 : Nat) (0 : Int))) == (3 : Int) || nK (ndA ns (l.getD (0 : Nat) (0 : Int))) == (10 : Int) || nK (ndA ns (l.getD (0 : Nat) (0 : Int))) == (6 : Int) && (nE (ndA ns (l.getD (0 : Nat) (0 : Int))) == (1 : Int) || nE (ndA ns (l.getD (0 : Nat) (0 : Int))) == (2 : Int) || nE (ndA ns (l.getD (0 : Nat) (0 : Int))) == (3 : Int)))) (Tree.need (List.length ns ≤ (400000 : Nat)) (Tree.need (List.length fs ≤ (400000 : Nat)) (Tree.need ((l.length + (comesF ns fs (l.getD (0 : Nat) (0 : Int))).length) * (8 : Nat) ≤ (140737488355328 : Nat)) (Tree.need ((0 : Int) ≤ (1 : Int)) (Tree.need ((1 : Int) ≤ (↑(l ++ comesF ns fs (l.getD (0 : Nat) (0 : Int))).length : Int)) (Tree.need ((↑(0 : Nat) : Int) + (↑(l ++ comesF ns fs (l.getD (0 : Nat) (0 : Int))).length : Int) ≤ (↑(l ++ comesF ns fs (l.getD (0 : Nat) (0 : Int))).length : Int)) (Tree.at (cCh a vs ns fs i (mput m (l.getD (0 : Nat) (0 : Int)) ((mget m (l.getD (0 : Nat) (0 : Int))).getD (CK.int IntKind.i64).d + (1 : Int))) (l ++ comesF ns fs (l.getD (0 : Nat) (0 : Int))) (1 : Nat) ((↑(l ++ comesF ns fs (l.getD (0 : Nat) (0 : Int))).length : Int).toNat - Int.toNat (1 : Int)))))))))) (Tree.need ((0 : Int) ≤ (1 : Int)) (Tree.need ((1 : Int) ≤ (↑l.length : Int)) (Tree.need ((↑(0 : Nat) : Int) + (↑l.length : Int) ≤ (↑l.length : Int)) (Tree.at (cCh a vs ns fs i (mput m (l.getD (0 : Nat) (0 : Int)) ((mget m (l.getD (0 : Nat) (0 : Int))).getD (CK.int IntKind.i64).d + (1 : Int))) l (1 : Nat) ((↑l.length : Int).toNat - Int.toNat (1 : Int))))))))))))))
  (Tree.ite false (Tree.ret [AObj.own [AV.s (SV.str a), AV.s (SV.ro (Con.typ cV vs)), AV.s (SV.ro (Con.typ cN ns)), AV.s (SV.ro (Con.typ cF fs))] (26 : Nat), AObj.map (CK.int IntKind.i64) m, AObj.dead, AObj.own [AV.s (SV.str a), AV.s (SV.ro (Con.typ cV vs)), AV.s (SV.ro (Con.typ cN ns)), AV.s (SV.ro (Con.typ cF fs))] (26 : Nat), AObj.vec (Con.ints IntKind.i64 l) (3 : Nat)] (AV.s (SV.blit true))) (Tree.need (inI64 (i + (1 : Int))) (Tree.at (Cfg.mk (sl (23 : Nat) [((1 : Nat), AV.ptr (0 : Nat) (0 : Nat)), ((6 : Nat), AV.s (SV.ro (Con.typ cN ns))), ((7 : Nat), AV.s (SV.int IntKind.i64 (↑(List.length ns) : Int))), ((8 : Nat), AV.s (SV.int IntKind.i64 (i + (1 : Int))))]) [AObj.own [AV.s (SV.str a), AV.s (SV.ro (Con.typ cV vs)), AV.s (SV.ro (Con.typ cN ns)), AV.s (SV.ro (Con.typ cF fs))] (26 : Nat)] (hd Try.f9 (2 : Nat)) (Stk.mk none false (0 : Nat) [] (0 : Nat)))))) := by kernel_rfl
end Ds

namespace Ds
open Go Go.Sx Go.Proofs Lf
abbrev nwF (x : CL cN) : Bool := !waitsF x
noncomputable def pCi (ns : Ns) (fs : Fs) (i : Nat) : Bool := nwF (el ns (i : Int)) && reachB nwF ns fs (i : Int) (i : Int)
noncomputable def circB (ns : Ns) (fs : Fs) : Bool := (List.range ns.length).any (pCi ns fs)
abbrev preP : AL [tPr] → List Prop := fun ((_, _, ns, fs, ()), ()) => [(ns : List (CL cN)).length ≤ 400000, (fs : List (CL cF)).length ≤ 400000]
theorem circle_ok {Z : Glob} : FnOk P Z 9 [tPr] [tBool] preP (fun ((_, _, ns, fs, ()), ()) => (circB ns fs, ())) := by
  refine fnOk_of_safe Try.func9 (by kernel_rfl) (by kernel_rfl) ?_
  rintro ⟨⟨(a : ByteArray), (vs : List (CL cV)), (ns : List (CL cN)), (fs : List (CL cF)), ⟨⟩⟩, ⟨⟩⟩ _ ⟨(hn : ns.length ≤ 400000), (hf : fs.length ≤ 400000), _⟩ X hX hz
  show Safe P 9 X (Ends [tBool] (circB ns fs, ())) _
  have inner : ∀ k : Nat, k < ns.length → nwF (el ns (k : Int)) = true → (reachB nwF ns fs k k = true → circB ns fs = true) → (reachB nwF ns fs k k = false → Safe P 9 X (Ends [tBool] (circB ns fs, ())) (cCi a vs ns fs ((k : Int) + 1))) →
      ∀ (j : Nat) (m : Mp) (l : List Int) (c : Nat), Rnd nwF ns fs k k m l → l.length + unm ns m * (ns.length + fs.length + 1) ≤ j → c + j ≤ 1000000000000 → (∀ z, cnt m z ≤ (c : Int)) →
      Safe P 9 X (Ends [tBool] (circB ns fs, ())) (cCe a vs ns fs (k : Int) m l) := by
    intro k hk hw yes no j
    have done : ∀ m, Rnd nwF ns fs k k m [] → Safe P 9 X (Ends [tBool] (circB ns fs, ())) (cCe a vs ns fs (k : Int) m []) := fun m hr => by
      refine go hz hX tabRe_ok Try.func9 (trCe a vs ns fs k m []) (no_and rfl (no_and rfl ⟨⟨by omega, by omega⟩, ?_⟩))
      exact no hr.last
    induction j with
    | zero =>
      intro m l c hr hj hc hm
      have hl : l = [] := List.eq_nil_of_length_eq_zero (by omega)
      subst hl
      exact done m hr
    | succ j ih =>
      intro m l c hr hj hc hm
      cases l with
      | nil => exact done m hr
      | cons n l =>
        have hlen : l.length ≤ 1000000000000 := by rw [List.length_cons] at hj; omega
        have hcl := comes_len ns fs n
        have hmn := hm n
        have hpn := hr.pos n
        have skip : (1 < cnt (inc m n) n ∨ inN ns n = false ∨ nwF (nodeAt ns n) = false) → (1 < cnt (inc m n) n ∨ inN ns n = false ∨ n ≠ (k : Int)) → ∀ q, q = l.length → Safe P 9 X (Ends [tBool] (circB ns fs, ())) (cCh a vs ns fs k (inc m n) (n :: l) 1 q) := fun h h' q hq => by
          refine cut_safe (t := 10) (id := 2) rfl rfl ?_
          rw [sub1 n l q hq]
          exact ih (inc m n) l (c + 1) (hr.skip h h') (pot_skip hr.pos hj) (by omega) (cnt_le hm)
        refine go hz hX tabRe_ok Try.func9 (trCe a vs ns fs k m (n :: l)) (yes_and (decide_eq_true (by rw [List.length_cons]; omega)) ⟨by omega, by rw [List.length_cons]; omega, ?_⟩)
        show Tree.Holds _ _ _
        refine ⟨(show inI64 (cnt m n + 1) from ⟨by omega, by omega⟩), ?_⟩
        have e1 : cnt (inc m n) n = cnt m n + 1 := by rw [cnt_inc, if_pos rfl]
        have lens : ((n :: l).length : Int).toNat - Int.toNat 1 = l.length := by rw [List.length_cons]; omega
        by_cases h1 : 1 < cnt (inc m n) n
        · refine yes_and (decide_eq_true h1) ⟨by omega, by rw [List.length_cons]; omega, by rw [List.length_cons]; omega, ?_⟩
          exact skip (.inl h1) (.inl h1) _ lens
        refine no_and (decide_eq_false h1) ?_
        cases h2 : inN ns n with
        | false =>
          refine yes_and (by show (!inN ns n) = true; rw [h2]; rfl) ⟨by omega, by rw [List.length_cons]; omega, by rw [List.length_cons]; omega, ?_⟩
          exact skip (.inr (.inl h2)) (.inr (.inl h2)) _ lens
        | true =>
          refine no_and (by show (!inN ns n) = false; rw [h2]; rfl) ?_
          by_cases h3 : n = (k : Int)
          · subst h3
            refine yes_and (by show ((k : Int) == (k : Int)) = true; simp) (yes_and rfl ?_)
            rw [yes (hr.hit h2)]; exact ends_eq _ rfl (by kernel_rfl)
          · refine no_and (by show (n == (k : Int)) = false; simpa using h3) ?_
            show (nwF (ndA ns n) = true → _) ∧ (nwF (ndA ns n) = false → _)
            rw [← nodeAt_eq]
            cases h4 : nwF (nodeAt ns n) with
            | false =>
              refine no_and rfl ⟨by omega, by show (1 : Int) ≤ ((n :: l).length : Int); rw [List.length_cons]; omega, by show ((0 : Nat) : Int) + ((n :: l).length : Int) ≤ ((n :: l).length : Int); omega, ?_⟩
              exact skip (.inr (.inr h4)) (.inr (.inr h3)) _ lens
            | true =>
              refine yes_and rfl ⟨by omega, by omega, ?_, by omega, ?_, ?_, ?_⟩
              · show ((n :: l).length + (comesF ns fs n).length) * 8 ≤ _; rw [List.length_cons]; omega
              · show (1 : Int) ≤ (((n :: l) ++ comesF ns fs n).length : Int); rw [List.length_append, List.length_cons]; omega
              · show (((0 : Nat) : Int) + (((n :: l) ++ comesF ns fs n).length : Int) ≤ (((n :: l) ++ comesF ns fs n).length : Int)); omega
              · show Safe P 9 X _ (cCh a vs ns fs k (inc m n) (n :: (l ++ comesF ns fs n)) 1 ((((n :: l) ++ comesF ns fs n).length : Int).toNat - Int.toNat 1))
                refine cut_safe (t := 10) (id := 2) rfl rfl ?_
                rw [sub1 n (l ++ comesF ns fs n) _ (by rw [List.length_append, List.length_append, List.length_cons]; omega)]
                exact ih (inc m n) _ (c + 1) (hr.more h2 h4 h3) (pot_more hr.pos h2 (by omega) hj) (by omega) (cnt_le hm)
  have loop : ∀ (j k : Nat), k + j = ns.length → (∀ i < k, pCi ns fs i = false) → Safe P 9 X (Ends [tBool] (circB ns fs, ())) (cCi a vs ns fs (k : Int)) := by
    intro j
    induction j with
    | zero =>
      intro k hk hi
      have e : circB ns fs = false := by
        unfold circB
        rw [← Bool.not_eq_true, List.any_eq_true]
        rintro ⟨i, h1, h2⟩
        rw [hi i (by have := List.mem_range.1 h1; omega)] at h2; cases h2
      refine go hz hX tabRe_ok Try.func9 (trCl a vs ns fs k) (no_and (decide_eq_false (by omega)) ?_)
      rw [e]; exact ends_eq _ rfl (by kernel_rfl)
    | succ j ih =>
      intro k hk hi
      have hlt : k < ns.length := by omega
      have next := fun h : pCi ns fs k = false => ih (k + 1) (by omega) fun i h1 => by
        by_cases e : i = k
        · subst e; exact h
        · exact hi i (by omega)
      refine go hz hX tabRe_ok Try.func9 (trCl a vs ns fs k) (yes_and (decide_eq_true (by omega)) ⟨by omega, by omega, ?_⟩)
      show (nwF (el ns (k : Int)) = true → _) ∧ (nwF (el ns (k : Int)) = false → _)
      cases h4 : nwF (el ns (k : Int)) with
      | false => exact no_and rfl ⟨⟨by omega, by omega⟩, next (by unfold pCi; rw [h4]; rfl)⟩
      | true =>
        refine yes_and rfl ⟨hn, hf, ?_⟩
        show Safe P 9 X _ (cCv a vs ns fs k [] (comesF ns fs k))
        refine vec_cut_safe (t := 10) (id := 2) rfl rfl (sub0 _) ?_
        have hU : unm ns [] ≤ ns.length := by
          unfold unm; exact Nat.le_trans (List.countP_le_length) (by rw [List.length_range]; exact Nat.le_refl _)
        have h4' := comes_len ns fs k
        have h5 : unm ns [] * (ns.length + fs.length + 1) ≤ 400000 * 800001 := Nat.mul_le_mul (by omega) (by omega)
        refine inner k hlt h4 (fun h => ?_) (fun h => next (by unfold pCi; rw [h4, h]; rfl)) _ [] (comesF ns fs k) 0 .zero (Nat.le_refl _) (by omega) (fun z => Int.le_refl 0)
        unfold circB
        rw [List.any_eq_true]
        exact ⟨k, List.mem_range.2 hlt, by unfold pCi; rw [h4, h]; rfl⟩
  refine go hz hX tabRe_ok Try.func9 (trCi a vs ns fs) ?_
  exact loop ns.length 0 (by omega) (fun i h => absurd h (Nat.not_lt_zero _))
end Ds

/-! A package variable that is a map of rows of bytes, and stands: how it is loaded, and what is found in it. -/
namespace Go.Sx
open Go

/-- What the variable bears: the map, and what stands at a key, as the model has them. -/
structure MapVar (P : Program) (Z : Glob) (g : Nat) (t : TypeId) (row : Int → List Int) where
  m : Value
  at_ : Int → Value
  m1 : m.oneCell' = true
  at1 : ∀ n, (at_ n).oneCell' = true
  load : ∀ (o : Oper) (e : Operand → Value) (w : World), o.op = .load t (.global g) → e (.global g) = .pointer (some ⟨g, 0, none⟩) → Z.ok w → (execOp e o).run P w = .ok (.value m) w
  look : ∀ (w : World) (n : Int), Z.ok w → (Instr.lookup t m (.int .u8 n) false).run P w = .ok (at_ n) w
  row_ : ∀ (w : World) (n : Int), Z.ok w → DenS (fun _ => False) w (.ro (.ints .u8 (row n))) (at_ n)

section
variable {ρ ρ' : Nat → Value} {H H' H1 H2 : AHeap} {G O O' : Nat → Prop} {w w' w1 w2 : World} {P : Program} {X : Ctx} {K : List AObj → AV → Prop} {Z : Glob}

/-- Whether an operation is done, told by the slots. -/
def gOk (ops : Array Oper) (o : Oper) (tmps : List AV) : Bool :=
  match o.guard with
  | none => true
  | some (g, want) => match (ops[g]?).bind (·.dst) with
    | some d => (match tmps.getD d (.s .junk) with
      | .s (.blit b) => b == want
      | .s (.bool b) => b == want
      | _ => false)
    | none => false

theorem gOk_wanted {ops : Array Oper} {o : Oper} {s : St} {a : Act} (h : gOk ops o s.tmps = true) (hr : Rep X ρ s a w) : Region.wanted o (yielded ops a.tmps) = true := by
  unfold gOk at h
  split at h
  · rename_i hg; simp [Region.wanted, hg]
  · rename_i g want hg
    split at h
    · rename_i d hd
      split at h
      · rename_i b hb
        have := blit_get hr hb
        simp only [Region.wanted, hg, yielded, hd, Option.bind_some, this]
        simpa using h
      · rename_i b hb
        have hlt : d < s.tmps.length := by
          rcases Nat.lt_or_ge d s.tmps.length with h3 | h3
          · exact h3
          · rw [List.getD, List.getElem?_eq_none h3] at hb
            simp at hb
        have h2 := DenS_of_V (by simp) (hb ▸ hr.den d)
        have hlt2 : d < a.tmps.size := by rw [hr.size] at hlt; exact hlt
        have : a.tmps[d]? = some (.bool b) := by
          have h4 : a.tmps.getD d undef = a.tmps[d] := by simp [Array.getD, hlt2]
          rw [h4] at h2
          rw [Array.getElem?_eq_getElem hlt2]
          generalize a.tmps[d] = u at h2
          cases h2
          rfl
        simp only [Region.wanted, hg, yielded, hd, Option.bind_some, this]
        simpa using h
      · cases h
    · cases h

/-- One operation, by a rule of its own, also behind a guard. -/
theorem oneG_safe {f : FuncId} {fn : Func} {key i : Nat} {ops : Array Oper} {o : Oper} {k : List Item} (hat : opAt fn key i = some (ops, o, k)) (hnd : noDefer ops = true) {tmps : List AV} {L : List AObj} {stk : Stk} (hg : gOk ops o tmps = true)
    (hin : (stk.plain || slotsIn (Cfg.n ⟨tmps, L, [], stk⟩) ops) = true)
    (h : ∀ G E ρ a w, Rep (X.at G E) ρ ⟨tmps, L⟩ a w → Yields P o a.eval w (fun v w' => ∃ q ρ', Rep (X.at G E) ρ' (St.put ⟨tmps, L⟩ o.dst q) (a.put o.dst v) w' ∧
      Safe P f X K ⟨(St.put ⟨tmps, L⟩ o.dst q).tmps, (St.put ⟨tmps, L⟩ o.dst q).H, cal fn key (i + 1), stk⟩)) : Safe P f X K ⟨tmps, L, cal fn key i, stk⟩ := by
  obtain ⟨ho, hc⟩ : ops[i]? = some o ∧ ∀ j, cal fn key j = .inRegion ops (List.range' j (ops.size - j)) :: k := by
    unfold opAt at hat
    split at hat
    · rename_i n ops' d k' hh
      simp only [Option.map_eq_some_iff, Prod.mk.injEq] at hat
      obtain ⟨o', e1, rfl, rfl, rfl⟩ := hat
      exact ⟨e1, fun j => by unfold cal; rw [hh]⟩
    · cases hat
  intro G E ρ a w hG1 hG2 hr b t fs hw
  obtain ⟨rest, Ds, htop0, hplain, hwf⟩ := hw.top (c := ⟨tmps, L, [], stk⟩) hr.dp.len
  have htop : TopR (Cfg.n ⟨tmps, L, [], stk⟩) rest Ds a t := by
    have e : (⟨a.tmps.toList.toArray, []⟩ : Act) = a := by
      have := hr.defers
      cases a
      simp at this ⊢
      exact this
    rw [e] at htop0
    exact htop0
  have hin' : InTop (Cfg.n ⟨tmps, L, [], stk⟩) rest ops := or_in hin hplain (fun x => x)
  have hdst := (hin'.op ho).imp (fun x => x) (·.2.1)
  have hi : i < ops.size := (Array.getElem?_eq_some_iff.1 ho).1
  have hrange : List.range' i (ops.size - i) = i :: List.range' (i + 1) (ops.size - (i + 1)) := by
    rw [show ops.size - i = ops.size - (i + 1) + 1 from by omega, List.range'_succ]
  have hy' := (h G E ρ a w hr).congr (htop.same hin' ho).1
  have hwant : Region.wanted o (yielded ops t.tmps) = true := by rw [(htop.same hin' ho).2]; exact gOk_wanted hg hr
  show GoesM P f (Post X K) b t (cal fn key i) fs w
  rw [hc i, hrange]
  intro cs
  obtain ⟨v, w', ⟨q, ρ', hr', hs⟩, hst⟩ := op_step ho hwant (defer_ne hnd ho) hy' b k (fs ++ cs) (rest := List.range' (i + 1) (ops.size - (i + 1)))
  have hput := htop.put hdst v
  have := hs G E ρ' _ w' hG1 hG2 hr' b (t.put o.dst v) fs (hwf _ _ hput hr'.defers)
  rw [hc (i + 1)] at this
  obtain ⟨e, w2, fr, g1, g2, g3⟩ := this cs
  exact ⟨e, w2, fr, g1, Comes.of_steps hst g2, g3⟩

theorem put_none {s : St} {d : Option Tmp} {r : Nat → AV} : (s.put d ⟨[], [], [], r⟩).look = s.look := by
  funext id
  show (s.H ++ [])[id]? = s.H[id]?
  rw [List.append_nil]
end
end Go.Sx

/-! A value told with less: literals as any numbers, empty rows as rows that are read. -/
namespace Go.Sx
open Go

inductive Wk1 : AV → AV → Prop
  | refl (a : AV) : Wk1 a a
  | bl (b : Bool) : Wk1 (.s (.blit b)) (.s (.bool b))
  | il (k : IntKind) (n : Int) : Wk1 (.s (.ilit k n)) (.s (.int k n))
  | em (c : Con) : c.n = 0 → Wk1 .emp (.s (.ro c))
inductive WkL : List AV → List AV → Prop
  | nil : WkL [] []
  | cons {a b : AV} {l m : List AV} : Wk1 a b → WkL l m → WkL (a :: l) (b :: m)
inductive Wk2 : AV → AV → Prop
  | one {a b : AV} : Wk1 a b → Wk2 a b
  | agg {l m : List AV} : WkL l m → Wk2 (.agg l) (.agg m)
inductive WkT : List AV → List AV → Prop
  | nil : WkT [] []
  | cons {a b : AV} {l m : List AV} : Wk2 a b → WkT l m → WkT (a :: l) (b :: m)
inductive Wk : AV → AV → Prop
  | two {a b : AV} : Wk2 a b → Wk a b
  | tup {l m : List AV} : WkT l m → Wk (.tup l) (.tup m)

section
variable {ρ : Nat → Value} {H : AHeap} {O : Nat → Prop} {w : World}
theorem Wk1.den {a b : AV} (h : Wk1 a b) {v : Value} (hd : DenV ρ H O w a v) : DenV ρ H O w b v := by
  cases h with
  | refl => exact hd
  | bl b =>
    have := DenS_of_V (by simp) hd
    cases this
    exact DenV_s (.bool _)
  | il k n =>
    have := DenS_of_V (by simp) hd
    cases this
    exact DenV_s (.int _ _)
  | em c hc =>
    unfold DenV at hd
    obtain ⟨a, rfl⟩ := hd
    exact DenV_s (emp_ro' hc a)
theorem Wk1.denC {a b : AV} (h : Wk1 a b) {cs : List Value} (hd : DenC ρ H O w a cs) : DenC ρ H O w b cs := by
  cases h with
  | refl => exact hd
  | bl b =>
    unfold DenC at hd ⊢
    obtain ⟨u, rfl, h⟩ := hd
    cases h
    exact ⟨_, rfl, .bool _⟩
  | il k n =>
    unfold DenC at hd ⊢
    obtain ⟨u, rfl, h⟩ := hd
    cases h
    exact ⟨_, rfl, .int _ _⟩
  | em c hc =>
    unfold DenC at hd ⊢
    obtain ⟨u, rfl, a, rfl⟩ := hd
    exact ⟨_, rfl, emp_ro' hc a⟩
theorem WkL.den {l m : List AV} (h : WkL l m) : ∀ {cs : List Value}, DenSegs ρ H O w l cs → DenSegs ρ H O w m cs := by
  induction h with
  | nil => exact fun hd => hd
  | cons h1 _ ih =>
    intro cs hd
    unfold DenSegs at hd ⊢
    obtain ⟨c1, c2, e, g1, g2⟩ := hd
    exact ⟨c1, c2, e, h1.denC g1, ih g2⟩
theorem Wk2.den {a b : AV} (h : Wk2 a b) {v : Value} (hd : DenV ρ H O w a v) : DenV ρ H O w b v := by
  cases h with
  | one h => exact h.den hd
  | agg h =>
    unfold DenV at hd ⊢
    obtain ⟨cs, e, g⟩ := hd
    exact ⟨cs, e, h.den g⟩
theorem WkT.den {l m : List AV} (h : WkT l m) : ∀ {vs : List Value}, DenL ρ H O w l vs → DenL ρ H O w m vs := by
  induction h with
  | nil => exact fun hd => hd
  | cons h1 _ ih =>
    intro vs hd
    obtain ⟨v, rest, e, g1, g2⟩ := DenL_cons.1 hd
    exact DenL_cons.2 ⟨v, rest, e, h1.den g1, ih g2⟩
theorem Wk.den {a b : AV} (h : Wk a b) {v : Value} (hd : DenV ρ H O w a v) : DenV ρ H O w b v := by
  cases h with
  | two h => exact h.den hd
  | tup h =>
    unfold DenV at hd ⊢
    obtain ⟨us, e, g⟩ := hd
    exact ⟨us, e, h.den g⟩
end

end Go.Sx

/-! Own rows given up by a call, also those in parts of its arguments; a run's end whose answers are seen one by one. -/
namespace Go.Sx
open Go

section
variable {ρ ρ' : Nat → Value} {H H' : AHeap} {G O O' : Nat → Prop} {w w' : World} {P : Program} {Z : Glob} {X : Type} {S : Spec X}

theorem WkT.same : ∀ (os : List AV), WkT os os
  | [] => .nil
  | a :: os => .cons (.one (.refl a)) (WkT.same os)
end
end Go.Sx

/-! Calls that always panic. -/
namespace Go.Sx
open Go

/-- An operation that panics: the chain, and the world behind it. -/
def Throws (P : Program) (o : Oper) (e : Operand → Value) (w : World) (R : List PanicEntry → World → Prop) : Prop :=
  match (execOp e o).run P w with
  | .ok (.enter f args) w' => Calls P f args w' fun en w'' => ∃ ch, en = .panicked ch ∧ R ch w''
  | .halt (.panic v) w' => R [{ v, recovered := false }] w'
  | _ => False

/-- What a call always comes to: that panic, and that heap. -/
def FnX (P : Program) (Z : Glob) (f : FuncId) {X : Type} (S : Spec X) (ch : List PanicEntry) : Prop :=
  ∀ x, Needs (S.pre x) → ∀ (ρ : Nat → Value) (G : Nat → Prop) (w : World) (vs : List Value), ZAt Z ρ (lk (S.heap x)) w → Sat ρ (lk (S.heap x)) G w →
    DenL ρ (lk (S.heap x)) (Hot ρ (lk (S.heap x)) G) w (S.args x) vs →
    Calls P f vs.toArray w fun e w' => e = .panicked ch ∧ Good ρ (lk (S.heap x)) G w (lk (S.outH x)) (.s .junk) undef w'

/-- What a run's context owes where the call panics. -/
def panOf {T : Type} (S : Spec T) (x : T) (ch : List PanicEntry) (ρ : Nat → Value) (G : Nat → Prop) (w : World) (e : Ending) (w' : World) : Prop :=
  e = .panicked ch ∧ Good ρ (lk (S.heap x)) G w (lk (S.outH x)) (.s .junk) undef w'

section
variable {ρ ρ' : Nat → Value} {H H' : AHeap} {G O O' : Nat → Prop} {w w' : World} {P : Program} {X : Ctx} {K : List AObj → AV → Prop} {Z : Glob}

theorem wf_plain {f0 : FuncId} {rid : Nat} {vs : List Value} {E : List (Nat × Obj)} {b : Frame} {t : Act} {fs : List Frame} (h : Wf f0 { rid := rid } vs E b t fs) :
    fs = [] ∧ b.fn = f0 ∧ b.roundOf = none ∧ t = { tmps := vs.toArray, defers := [] } := by
  obtain ⟨_, v0, rv, v2, Ds, E1, E2, e1, e2, e3, h1, h2⟩ := h
  obtain ⟨⟨r, hb, hr1, hr2⟩, ha, _⟩ := h1
  obtain ⟨h3, _, h5⟩ := h2
  have e3 : Ds = [] := List.eq_nil_of_length_eq_zero e3
  subst e3 hr1 h3 hr2 hb ha
  exact ⟨h5, rfl, rfl, by rw [e1]; simp⟩

/-- A place ahead of an operation that panics. -/
theorem pan_safe {f : FuncId} {fn : Func} {key i rid : Nat} {ops : Array Oper} {o : Oper} {k : List Item} (hf : P.funcs[f]? = some fn) (hat : opAt fn key i = some (ops, o, k)) (hdf : ∀ c, o.op ≠ .defer c) {tmps : List AV} {L : List AObj} (hg : gOk ops o tmps = true)
    (h : ∀ G E ρ a w, (∀ b, X.G b → G b) → (∀ b, G b → X.G b ∨ X.w.heap.size ≤ b) → Rep (X.at G E) ρ ⟨tmps, L⟩ a w → Throws P o a.eval w fun ch w' => X.pan (.panicked ch) w') : Safe P f X K ⟨tmps, L, cal fn key i, { rid := rid }⟩ := by
  obtain ⟨ho, hc⟩ : ops[i]? = some o ∧ cal fn key i = .inRegion ops (List.range' i (ops.size - i)) :: k := by
    unfold opAt at hat
    split at hat
    · rename_i n ops' d k' hh
      simp only [Option.map_eq_some_iff, Prod.mk.injEq] at hat
      obtain ⟨o', e1, rfl, rfl, rfl⟩ := hat
      exact ⟨e1, by unfold cal; rw [hh]⟩
    · cases hat
  intro G E ρ a w hG1 hG2 hr b t fs hw
  obtain ⟨rfl, hbf, hbr, ht⟩ := wf_plain hw
  have hi : i < ops.size := (Array.getElem?_eq_some_iff.1 ho).1
  have hrange : List.range' i (ops.size - i) = i :: List.range' (i + 1) (ops.size - (i + 1)) := by
    rw [show ops.size - i = ops.size - (i + 1) + 1 from by omega, List.range'_succ]
  have eta : t = a := by
    rw [ht]
    have := hr.defers
    cases a
    simp at this ⊢
    exact this
  subst eta
  have hwant : Region.wanted o (yielded ops t.tmps) = true := gOk_wanted hg hr
  have hy := h G E ρ t w hG1 hG2 hr
  have hgst := fun cs => stepGR_op (P := P) (b := b) (k := k) (cs := cs) (w := w) (rest := List.range' (i + 1) (ops.size - (i + 1))) ho hwant
  simp only [Oper.semAt_eq _ _ _ hdf] at hgst
  show GoesM P f (Post X K) b t (cal fn key i) [] w
  rw [hc, hrange]
  intro cs
  have hraise : ∀ ch, (b.atR t (.inRegion ops (i :: List.range' (i + 1) (ops.size - (i + 1))) :: k)).raise ch = { b.atR t (.inRegion ops (i :: List.range' (i + 1) (ops.size - (i + 1))) :: k) with mode := .panicking ch } := fun ch => by
    simp [Frame.raise, Frame.atR]
  have hleave : ∀ ch w', ({ b.atR t (.inRegion ops (i :: List.range' (i + 1) (ops.size - (i + 1))) :: k) with mode := .panicking ch } : Frame).leaving P w' (.panicked ch) := fun ch w' =>
    ⟨rfl, hr.defers, fn, by show P.funcs[b.fn]? = some fn; rw [hbf]; exact hf⟩
  unfold Throws at hy
  split at hy
  · rename_i g args w1 hrun
    obtain ⟨e, w2, fr, ⟨ch, rfl, hp⟩, h2, h3, h4⟩ := hy (b.atR t (.inRegion ops (i :: List.range' (i + 1) (ops.size - (i + 1))) :: k) :: cs)
    have henter : step P (lone (b.atR t (.inRegion ops (i :: List.range' (i + 1) (ops.size - (i + 1))) :: k)) cs w) =
        .next (lone (Frame.enter P g args .normal) (b.atR t (.inRegion ops (i :: List.range' (i + 1) (ops.size - (i + 1))) :: k) :: cs) w1) :=
      step_lone_go (by rw [hgst]; simp [stepG.apply, hrun, Frame.atR])
    refine ⟨.panicked ch, w2, { b.atR t (.inRegion ops (i :: List.range' (i + 1) (ops.size - (i + 1))) :: k) with mode := .panicking ch }, .inr hp, .head henter (Steps.trans h2 (.one ?_)), hbf, hleave ch w2⟩
    rw [← hraise]; exact step_leave_panicked h4
  · rename_i v w1 hrun
    refine ⟨.panicked [{ v, recovered := false }], w1, { b.atR t (.inRegion ops (i :: List.range' (i + 1) (ops.size - (i + 1))) :: k) with mode := .panicking [{ v, recovered := false }] }, .inr hy, .one (step_lone_go ?_), hbf, hleave _ w1⟩
    rw [hgst, ← hraise]
    simp [stepG.apply, hrun]
  · exact hy.elim

theorem calls_of_safeP {f : FuncId} {fn : Func} {azs : List AV} {L : List AObj} {K : List AObj → AV → Prop} (hf : P.funcs[f]? = some fn) (hb : fn.body.isSome = true) (hn : azs.length ≤ fn.ntmps) (pan : Ending → World → Prop)
    (ρ : Nat → Value) (G : Nat → Prop) (w : World) (vs : List Value) (h : Safe P f ⟨ρ, lk L, G, w, [], pan⟩ K (start fn azs L)) (hs : Sat ρ (lk L) G w)
    (hd : DenL ρ (lk L) (Hot ρ (lk L) G) w azs vs) : Calls P f vs.toArray w (Post ⟨ρ, lk L, G, w, [], pan⟩ K) := by
  obtain ⟨c, hb⟩ := Option.isSome_iff_exists.1 hb
  have hlenV : vs.length = azs.length := by
    have : ∀ {azs : List AV} {vs : List Value}, DenL ρ (lk L) (Hot ρ (lk L) G) w azs vs → vs.length = azs.length := by
      intro azs
      induction azs with
      | nil => intro vs h; rw [DenL_nil.1 h]; rfl
      | cons a azs ih => intro vs h; obtain ⟨v, rest, rfl, _, h2⟩ := DenL_cons.1 h; simp [ih h2]
    exact this hd
  refine calls_of_goes (R := Post ⟨ρ, lk L, G, w, [], pan⟩ K) hf hb ?_
  have := h.goes rfl rfl (ρ := ρ) (a := { tmps := vs.toArray ++ Array.replicate (fn.ntmps - vs.toArray.size) undef, defers := [] }) (w := w)
  simp only [start, hb, Option.getD_some] at this
  refine this ⟨hs, ?_, fun t => ?_, rfl, Step.refl _ _ _ _, ⟨rfl, rfl, rfl, fun _ _ _ => rfl⟩, fun x hx => by cases hx⟩
  · simp [hlenV]
  · have e1 : ∀ (azs : List AV) (vs : List Value), DenL ρ (lk L) (Hot ρ (lk L) G) w azs vs → ∀ t, DenV ρ (lk L) (Hot ρ (lk L) G) w (azs.getD t (.tup [])) (vs.getD t undef) := by
      intro azs
      induction azs with
      | nil => intro vs h t; rw [DenL_nil.1 h]; simp only [List.getD, List.getElem?_nil, Option.getD_none]; exact den_undef
      | cons a azs ih =>
        intro vs h t
        obtain ⟨v, rest, rfl, h1, h2⟩ := DenL_cons.1 h
        cases t with
        | zero => simpa using h1
        | succ t => simpa using ih rest h2 t
    have h1 := e1 _ _ hd t
    simp only [List.getD_eq_getElem?_getD, List.getElem?_append, List.getElem?_replicate, Array.getD_eq_getD_getElem?, Array.getElem?_append, List.getElem?_toArray, Array.getElem?_replicate, List.size_toArray] at h1 ⊢
    rw [hlenV]
    split
    · rename_i ht
      have hv : vs[t]? = some vs[t] := List.getElem?_eq_getElem (by omega)
      have ha : azs[t]? = some azs[t] := List.getElem?_eq_getElem ht
      rw [hv, ha] at h1 ⊢
      exact h1
    · split
      · exact den_undef
      · unfold DenV; trivial

variable {T : Type} {S : Spec T} {ch : List PanicEntry}
/-- .. from a run that comes to panics alone. -/
theorem fnX_of_safe {f : FuncId} {fn : Func} (hf : P.funcs[f]? = some fn) (hb : fn.body.isSome = true) (hn : ∀ x, (S.args x).length ≤ fn.ntmps)
    (h : ∀ x, Needs (S.pre x) → ∀ X : Ctx, X.H = lk (S.heap x) → ZCtx Z X → (∀ e w', panOf S x ch X.ρ X.G X.w e w' → X.pan e w') → Safe P f X (fun _ _ => False) (start fn (S.args x) (S.heap x))) : FnX P Z f S ch := by
  intro x hpre ρ G w vs hz hs hd
  refine (calls_of_safeP hf hb (hn x) (panOf S x ch ρ G w) ρ G w vs (h x hpre _ rfl hz fun _ _ h => h) hs hd).mono ?_
  rintro e w' (⟨_, _, _, _, hk, _⟩ | hp)
  · exact hk.elim
  · exact hp

/-- Behind what was done by a callee: what the run's context owes. -/
theorem pan_of {x : T} {G : Nat → Prop} {E : List (Nat × Obj)} {tmps : List AV} {L : List AObj} {a : Act} (hXH : X.H = lk (S.heap x)) (hG1 : ∀ b, X.G b → G b) (hG2 : ∀ b, G b → X.G b ∨ X.w.heap.size ≤ b)
    (hr : Rep (X.at G E) ρ ⟨tmps, L⟩ a w) (hg : Good ρ (lk L) G w (lk (S.outH x)) (.s .junk) undef w') : panOf S x ch X.ρ X.G X.w (.panicked ch) w' := by
  obtain ⟨ρ1, g1, g2, g3, g4⟩ := hg
  let Y : Ctx := ⟨X.ρ, X.H, X.G, X.w, X.E, fun _ _ => False⟩
  have hrY : Rep (Y.at G E) ρ ⟨tmps, L⟩ a w := ⟨hr.sat, hr.size, hr.den, hr.defers, hr.from_, hr.frm, hr.kept⟩
  have r1 : Rep (Y.at G E) ρ1 ⟨[], S.outH x⟩ { tmps := #[], defers := [] } w' :=
    ⟨g1, rfl, fun t => by simp only [List.getD, List.getElem?_nil, Option.getD_none]; unfold DenV; trivial, rfl, hr.from_.trans g3, Frm.trans hrY g4, hr.kept.frm hr.sat g4⟩
  have := Post.of_rep (X := Y) (K := fun L r => L = S.outH x ∧ r = .s .junk) (r := .s .junk) (v := undef) hG1 hG2 r1 (by unfold DenV; trivial) ⟨rfl, rfl⟩
  rcases this with ⟨v, hv, L2, r, ⟨rfl, rfl⟩, hgood⟩ | h
  · refine ⟨rfl, ?_⟩
    cases hv
    rw [← hXH]
    exact hgood
  · exact False.elim h

/-- A place ahead of a call that panics. -/
theorem callx_safe {U : Type} {R : Spec U} {x : T} {y : U} {f g : FuncId} {fn : Func} {key i rid : Nat} {ops : Array Oper} {o : Oper} {c : Call} {k : List Item} (hf : P.funcs[f]? = some fn) (hat : opAt fn key i = some (ops, o, k)) (ho : o.op = .call c) (hc : c.callee = .value (.func g))
    (hcall : callable P g = true) {tmps : List AV} (hg : gOk ops o tmps = true) (hX : FnX P Z g R ch) (hz : ZCtx Z X) (hXH : X.H = lk (S.heap x)) (hpan : ∀ e w', panOf S x ch X.ρ X.G X.w e w' → X.pan e w')
    (hargs : c.args.toList.map (evOf tmps) = R.args y) (hpre : Needs (R.pre y)) (hout : R.outH y = S.outH x) : Safe P f X K ⟨tmps, R.heap y, cal fn key i, { rid := rid }⟩ := by
  refine pan_safe hf hat (fun c' h => by rw [ho] at h; cases h) hg fun G E ρ a w hG1 hG2 hr => ?_
  have hl : DenL ρ (lk (R.heap y)) (Hot ρ (lk (R.heap y)) G) w (R.args y) (c.args.toList.map a.eval) := by
    rw [← hargs]
    exact DenL_map c.args.toList fun z _ => hr.ev z
  have key := hX y hpre ρ G w _ (zed (hz.at G E) hr.frm hr.sat hr.from_) hr.sat hl
  have e1 : (c.args.toList.map a.eval).toArray = c.args.map a.eval := by apply Array.toList_inj.1; simp
  unfold Throws
  have hrun : (execOp a.eval o).run P w = .ok (.enter g (c.args.toList.map a.eval).toArray) w := by
    rw [e1]
    have hv : a.eval (.func g) = .func (.func g) #[] #[] := rfl
    simp [execOp, ho, resolve, hc, hv, Deferred.ofValue, invoke, callFunc_run hcall]
  rw [hrun]
  refine key.mono ?_
  rintro e w' ⟨rfl, hgood⟩
  rw [hout] at hgood
  exact ⟨ch, rfl, hpan _ _ (pan_of hXH hG1 hG2 hr hgood)⟩
end
end Go.Sx

namespace Ds
open Go Go.Sx Go.Proofs Lf
abbrev obCo (ps : Ps) (n : Int) : AObj := .own [.s (.ro (.typ cP ps)), avI n] eCo
abbrev sOne : Spec (Ps × Int) := ⟨fun _ => [.ptr 0 0], fun (ps, n) => [obCo ps n], fun (_, n) => [0 ≤ n ∧ n < 2000], fun (ps, n) => [obCo ps (n + 1)], fun _ => .tup []⟩
abbrev sOneX : Spec Ps := ⟨fun _ => [.ptr 0 0], fun ps => [obCo ps 2000], fun _ => [], fun ps => [obCo ps 2001], fun _ => .tup []⟩
def nsOne : List (Nat × Norm) := [(midKey + 2001, ⟨[], [14], 1, []⟩), (midKey + 2002, ⟨[], [15], 1, []⟩)]
theorem trOne (ps : Ps) (n : Int) : run P tab0.sum Try.f64 nsOne (start Try.f64 [.ptr 0 0] [obCo ps n]) =
  Tree.need (inI64 (n + (1 : Int))) (Tree.ite (decide (n + (1 : Int) > (2000 : Int))) (Tree.at (Cfg.mk (sl (16 : Nat) [((14 : Nat), AV.agg [])]) [AObj.own [AV.s (SV.ro (Con.typ cP ps)), AV.s (SV.int IntKind.i64 (n + (1 : Int)))] (82 : Nat)] (cal Try.f64 (2 : Nat) (1 : Nat)) (Stk.mk none false (0 : Nat) [] (2 : Nat)))) (Tree.ret [AObj.own [AV.s (SV.ro (Con.typ cP ps)), AV.s (SV.int IntKind.i64 (n + (1 : Int)))] (82 : Nat)] (AV.tup []))) := by kernel_rfl
end Ds

/-! A value made an interface, and a panic of it. -/
namespace Go.Sx
open Go
def mkOf (x : Array Oper × Oper × List Item) : Option (TypeId × Tmp × Tmp) := match x.2.1.op, x.2.1.dst with
  | .makeInterface t (.tmp y), some d => bif noDefer x.1 then some (t, y, d) else none
  | _, _ => none
def thOf (x : Array Oper × Oper × List Item) : Option Tmp := match x.2.1.op with
  | .panic (.tmp y) => some y
  | _ => none
def calOf (g : FuncId) (x : Array Oper × Oper × List Item) : Option (List Operand) := match x.2.1.op with
  | .call c => match c.callee with
    | .value (.func g') => bif Nat.beq g g' then some c.args.toList else none
    | _ => none
  | _ => none
section
variable {ρ ρ' : Nat → Value} {H H' : AHeap} {G O O' : Nat → Prop} {w w' : World} {P : Program} {X : Ctx} {K : List AObj → AV → Prop} {Z : Glob}
theorem agg_nil {v : Value} (h : DenV ρ H O w (.agg []) v) : v = .agg #[] := by
  unfold DenV at h
  obtain ⟨vs, rfl, h⟩ := h
  unfold DenSegs at h
  rw [h]
theorem mkif_safe {f : FuncId} {fn : Func} {key i : Nat} {t : TypeId} {y d : Tmp} (hat : (opAt fn key i).bind mkOf = some (t, y, d)) (hmk : ∀ v w, (Instr.makeInterface t v).run P w = .ok (.iface t v) w) {tmps : List AV} {L : List AObj} {stk : Stk}
    (hg : ((opAt fn key i).all fun y => gOk y.1 y.2.1 tmps) = true) (hin : (stk.plain || ((opAt fn key i).any fun y => slotsIn (Cfg.n ⟨tmps, L, [], stk⟩) y.1)) = true) (hy : tmps.getD y (.s .junk) = .agg [])
    (h : Safe P f X K ⟨tmps.set d (.s (.raw (.iface t (.agg #[])) [])), L, cal fn key (i + 1), stk⟩) : Safe P f X K ⟨tmps, L, cal fn key i, stk⟩ := by
  obtain ⟨⟨ops, o, k⟩, h1, h2⟩ := Option.bind_eq_some_iff.1 hat
  rw [h1] at hin hg
  unfold mkOf at h2
  split at h2
  · rename_i t' y' d' e2 e3
    simp only [] at e2 e3
    rw [Bool.cond_eq_ite] at h2
    split at h2
    · rename_i hnd
      simp only [Option.some.injEq, Prod.mk.injEq] at h2
      obtain ⟨rfl, rfl, rfl⟩ := h2
      refine oneG_safe h1 hnd (by simpa using hg) (by simpa using hin) fun G E ρ a w hr => ?_
      have ey : a.eval (.tmp y') = .agg #[] := by
        have hd := hr.den y'
        rw [show (St.tmps ⟨tmps, L⟩).getD y' (.s .junk) = .agg [] from hy] at hd
        exact agg_nil hd
      have hrun : (execOp a.eval o).run P w = .ok (.value (.iface t' (.agg #[]))) w := by
        simp [execOp, e2, ey, hmk]
      unfold Yields
      rw [hrun]
      have hgood : Good ρ (St.look ⟨tmps, L⟩) (X.at G E).G w (St.put ⟨tmps, L⟩ o.dst ⟨[], [], [], fun _ => .s (.raw (.iface t' (.agg #[])) [])⟩).look (.s (.raw (.iface t' (.agg #[])) [])) (.iface t' (.agg #[])) w := by
        rw [put_none]; exact Good.val hr.sat (DenV_s (.raw _ _ rfl))
      obtain ⟨ρ', hr'⟩ := hr.good (q := ⟨[], [], [], fun _ => .s (.raw (.iface t' (.agg #[])) [])⟩) (.inl rfl) hgood
      refine ⟨_, ρ', hr', ?_⟩
      rw [e3]
      simpa [St.put, upList, setSlot] using h
    · cases h2
  · cases h2
variable {T : Type} {S : Spec T}
theorem raise_safe {x : T} {f : FuncId} {fn : Func} {key i rid : Nat} {y : Tmp} {t : TypeId} {u : Value} (hf : P.funcs[f]? = some fn) (hat : (opAt fn key i).bind thOf = some y) {tmps : List AV} {L : List AObj} (hg : ((opAt fn key i).all fun y => gOk y.1 y.2.1 tmps) = true)
    (hy : tmps.getD y (.s .junk) = .s (.raw (.iface t u) [])) (hXH : X.H = lk (S.heap x)) (hpan : ∀ e w', panOf S x [{ v := .iface t u, recovered := false }] X.ρ X.G X.w e w' → X.pan e w') (hout : S.outH x = L) : Safe P f X K ⟨tmps, L, cal fn key i, { rid := rid }⟩ := by
  obtain ⟨⟨ops, o, k⟩, h1, h2⟩ := Option.bind_eq_some_iff.1 hat
  rw [h1] at hg
  unfold thOf at h2
  split at h2
  · rename_i y' e2
    simp only [] at e2
    simp only [Option.some.injEq] at h2
    subst h2
    refine pan_safe hf h1 (fun c' h => by rw [e2] at h; cases h) (by simpa using hg) fun G E ρ a w hG1 hG2 hr => ?_
    have ey : a.eval (.tmp y') = .iface t u := by
      have hd := hr.den y'
      rw [show (St.tmps ⟨tmps, L⟩).getD y' (.s .junk) = .s (.raw (.iface t u) []) from hy] at hd
      have := DenS_of_V (by simp) hd
      show a.tmps.getD y' undef = _
      generalize a.tmps.getD y' undef = u at this
      cases this
      rfl
    have hrun : (execOp a.eval o).run P w = .halt (.panic (.iface t u)) w := by
      simp [execOp, e2, ey, Instr.panic, goPanic]
    unfold Throws
    rw [hrun]
    refine hpan _ _ (pan_of hXH hG1 hG2 hr ?_)
    rw [hout]
    exact Good.val hr.sat (by unfold DenV; trivial)
  · cases h2
theorem callx2_safe {U : Type} {R : Spec U} {ch : List PanicEntry} {x : T} {y : U} {f g : FuncId} {fn : Func} {key i rid : Nat} {us : List Operand} (hf : P.funcs[f]? = some fn) (hat : (opAt fn key i).bind (calOf g) = some us)
    (hcall : callable P g = true) {tmps : List AV} (hg : ((opAt fn key i).all fun y => gOk y.1 y.2.1 tmps) = true) (hX : FnX P Z g R ch) (hz : ZCtx Z X) (hXH : X.H = lk (S.heap x)) (hpan : ∀ e w', panOf S x ch X.ρ X.G X.w e w' → X.pan e w')
    (hargs : us.map (evOf tmps) = R.args y) (hpre : Needs (R.pre y)) (hout : R.outH y = S.outH x) : Safe P f X K ⟨tmps, R.heap y, cal fn key i, { rid := rid }⟩ := by
  obtain ⟨⟨ops, o, k⟩, h1, h2⟩ := Option.bind_eq_some_iff.1 hat
  rw [h1] at hg
  unfold calOf at h2
  split at h2
  · rename_i c e2
    simp only [] at e2
    split at h2
    · rename_i g' e3
      rw [Bool.cond_eq_ite] at h2
      split at h2
      · rename_i e4
        have e4 : g = g' := Nat.eq_of_beq_eq_true e4
        subst e4
        simp only [Option.some.injEq] at h2
        subst h2
        exact callx_safe hf h1 e2 e3 hcall (by simpa using hg) hX hz hXH hpan hargs hpre hout
      · cases h2
    · cases h2
  · cases h2
end
end Go.Sx

namespace Ds
open Go Go.Sx Go.Proofs Lf
abbrev chM : List PanicEntry := [{ v := .iface 84 (.agg #[]), recovered := false }]
noncomputable def cOne (ps : Ps) : Cfg := ⟨sl 16 [(14, .agg [])], [obCo ps 2001], cal Try.f64 2 1, ⟨none, false, 0, [], 2⟩⟩
def mOne : List AV → RM ((Ps × Int) × List Nat)
  | [.ptr id 0] => .look id fun o => match o with
    | some (.own [.s (.ro (.typ [.str, .rows [.str, .int .u8, .int .i64, .str], .rows [.str, .int .u8, .int .i64, .int .i64, .int .u8, .str, .str, .str, .bool, .rows [.str, .int .u8, .int .i64, .str], .strs], .rows [.int .i64, .int .i64, .str, .bool]] ps)), .s (.int .i64 n)] _) => .ret ((ps, n), [id])
    | _ => .fail "no count"
  | _ => .fail "no count"
abbrev sumOne := sumS sOne mOne
theorem one_ok {Z : Glob} : FnS P Z 64 sOne := by
  refine fnS_of_safe Try.func64 (by kernel_rfl) (fun x => Nat.le_of_ble_eq_true (by kernel_rfl)) ?_
  rintro ⟨(ps : Ps), (n : Int)⟩ ⟨⟨h0, h1⟩, _⟩ X hX hz
  have hns : ∀ x ∈ nsOne, (sOne.heap (ps, n)).length ≤ x.2.m := by intro y hy; simp [nsOne] at hy; rcases hy with rfl | rfl <;> exact Nat.le_refl _
  refine goS hz hX hns Tab.Ok.nil Try.func64 (trOne ps n) ⟨⟨by omega, by omega⟩, no_and (decide_eq_false (by omega)) ?_⟩
  exact endS 1 rfl (Nat.le_refl _) rfl rfl
theorem oneX_ok {Z : Glob} : FnX P Z 64 sOneX chM := by
  refine fnX_of_safe Try.func64 (by kernel_rfl) (fun x => Nat.le_of_ble_eq_true (by kernel_rfl)) ?_
  rintro (ps : Ps) _ X hX hz hpan
  have hns : ∀ x ∈ nsOne, (sOneX.heap ps).length ≤ x.2.m := by intro y hy; simp [nsOne] at hy; rcases hy with rfl | rfl <;> exact Nat.le_refl _
  refine goS hz hX hns Tab.Ok.nil Try.func64 (trOne ps 2000) ⟨⟨by omega, by omega⟩, yes_and (decide_eq_true (by omega)) ?_⟩
  show Safe P 64 X _ (cOne ps)
  refine mkif_safe (f := 64) (fn := Try.f64) (key := 2) (i := 1) (t := 84) (y := 14) (d := 15) (by kernel_rfl) (fun v w => run_makeInterface w 84 v (by kernel_rfl)) (by kernel_rfl) (by kernel_rfl) rfl ?_
  exact raise_safe (S := sOneX) (x := ps) (i := 2) (y := 15) Try.func64 (by kernel_rfl) (by kernel_rfl) rfl hX hpan rfl
end Ds
