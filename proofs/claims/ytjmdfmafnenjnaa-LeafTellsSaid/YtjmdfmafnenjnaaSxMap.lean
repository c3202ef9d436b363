import Derived.Test.YtjmdfmafnenjnaaSxHeap
import Derived.MapKept
/-! Maps: what their entries are, in the row in which they came. -/
namespace Go.Sx
open Go

section
variable {P : Program} {w : World} {b : Nat} {es : Array MapEntry} {clock : Nat} {ck : CK} {m : List (Int × ck.V)}

theorem MapIs.get (h : MapIs ck m es.toList clock) {j : Nat} {e : MapEntry} (hj : es.toList[j]? = some e) : ∃ k v, m[j]? = some (k, v) ∧ e.key = .int .i64 k ∧ e.val = ck.val v := by
  have h1 := congrArg (fun l => l[j]?) h.eq
  simp only [List.getElem?_map, hj, Option.map_some] at h1
  cases hm : m[j]? with
  | none => rw [hm] at h1; cases h1
  | some p =>
    rw [hm] at h1
    simp only [Option.map_some, Option.some.injEq, Prod.mk.injEq] at h1
    exact ⟨p.1, p.2, rfl, h1.1, h1.2⟩

theorem MapIs.key (h : MapIs ck m es.toList clock) : ∀ e ∈ es.toList, MapKept.IsKey (.int .i64) e.key := by
  intro e he
  obtain ⟨j, hj⟩ := List.getElem?_of_mem he
  obtain ⟨k, v, _, h2, _⟩ := h.get hj
  rw [h2]; rfl

theorem find_nodup {V : Type} : ∀ {m : List (Int × V)} {j : Nat} {k : Int} {v : V}, (m.map (·.1)).Nodup → m[j]? = some (k, v) → m.find? (fun p => p.1 == k) = some (k, v)
  | [], j, k, v, _, h => by simp at h
  | p :: m, 0, k, v, hn, h => by
    simp only [List.getElem?_cons_zero, Option.some.injEq] at h
    subst h
    simp
  | p :: m, j + 1, k, v, hn, h => by
    simp only [List.getElem?_cons_succ] at h
    simp only [List.map_cons, List.nodup_cons] at hn
    have hne : (p.1 == k) = false := by
      rw [beq_eq_false_iff_ne]
      rintro rfl
      exact hn.1 (List.mem_map.2 ⟨_, List.mem_of_getElem? h, rfl⟩)
    rw [List.find?_cons, hne]
    exact find_nodup hn.2 h

theorem find_none {V : Type} {m : List (Int × V)} {k : Int} (h : ∀ p ∈ m, p.1 ≠ k) : m.find? (fun p => p.1 == k) = none :=
  List.find?_eq_none.2 fun p hp => by simpa using h p hp

/-- What the look for a key finds. -/
theorem MapIs.find (h : MapIs ck m es.toList clock) {kt : TypeId} (hk : P.underlying kt = some (.int .i64)) (n : Int) :
    ((Instr.findKey kt (.int .i64 n) es.toList).run P w = .ok none w ∧ mget m n = none ∧ mhas m n = false) ∨
    ∃ j e v, (Instr.findKey kt (.int .i64 n) es.toList).run P w = .ok (some (j, ck.val v)) w ∧ es.toList[j]? = some e ∧ e.key = .int .i64 n ∧ e.val = ck.val v ∧ m[j]? = some (n, v) ∧ mget m n = some v ∧ mhas m n = true := by
  rcases MapKept.findNow_spec (d := .int .i64) (k := .int .i64 n) rfl es.toList 0 h.key with ⟨h1, h2⟩ | ⟨j, e, h1, h2, h3⟩
  · have hno : ∀ p ∈ m, p.1 ≠ n := by
      intro p hp e
      obtain ⟨j, hj⟩ := List.getElem?_of_mem hp
      have hlen : es.toList.length = m.length := by have := congrArg List.length h.eq; simpa using this
      have hlt : j < es.toList.length := by rw [hlen]; exact (List.getElem?_eq_some_iff.1 hj).1
      obtain ⟨k, v, g1, g2, _⟩ := h.get (List.getElem?_eq_getElem hlt)
      rw [hj] at g1
      cases g1
      exact h2 _ (List.getElem_mem hlt) (by rw [g2]; exact congrArg _ e)
    refine .inl ⟨MapKept.run_findKey hk h1, by simp [mget, find_none hno], ?_⟩
    simp only [mhas, List.any_eq_false, beq_iff_eq]
    exact hno
  · obtain ⟨k, v, g1, g2, g3⟩ := h.get h2
    rw [h3] at g2
    cases g2
    rw [Nat.zero_add] at h1
    refine .inr ⟨j, e, v, by rw [← g3]; exact MapKept.run_findKey hk h1, h2, h3, g3, g1, by simp [mget, find_nodup h.keys g1], ?_⟩
    simp only [mhas, List.any_eq_true, beq_iff_eq]
    exact ⟨_, List.mem_of_getElem? g1, rfl⟩

theorem run_lookup (h : MapIs ck m es.toList clock) (hb : w.heap[b]? = some (.map es clock)) {t kt et : TypeId} (ht : P.underlying t = some (.map kt et)) (hk : P.underlying kt = some (.int .i64)) {z : Value} (hz : (zeroValue et).run P w = .ok z w) (n : Int) (ok : Bool) :
    (Instr.lookup t (.map (some b)) (.int .i64 n) ok).run P w = .ok (if ok = true then .tuple #[((mget m n).map ck.val).getD z, .bool (mhas m n)] else ((mget m n).map ck.val).getD z) w := by
  have hc := MapKept.run_checkKey (w := w) hk (k := .int .i64 n) rfl es.isEmpty 9999
  rcases h.find (w := w) hk n with ⟨h1, h2, h3⟩ | ⟨j, e, v, h1, _, _, _, _, h2, h3⟩
  · simp [Instr.lookup, run_underlying ht, MapKept.run_getObj_map hb, hc, h1, h2, h3, hz, Result.andThen]
  · simp [Instr.lookup, run_underlying ht, MapKept.run_getObj_map hb, hc, h1, h2, h3, Result.andThen]

theorem stays (n : Int) : (Instr.keyThatStays (.int .i64 n) (.int .i64 n)).run P w = .ok (.int .i64 n) w := by
  simp [Instr.keyThatStays, Instr.sameBits]

theorem map_keys_put (m : List (Int × ck.V)) (k : Int) (v : ck.V) : ((m.map fun p => if p.1 == k then (k, v) else p).map (·.1)) = m.map (·.1) := by
  rw [List.map_map]
  refine List.map_congr_left fun p _ => ?_
  simp only [Function.comp]
  by_cases h : p.1 == k
  · rw [if_pos h]; exact (beq_iff_eq.1 h).symm
  · rw [if_neg h]

/-- What a store of an entry leaves. -/
theorem MapIs.put (h : MapIs ck m es.toList clock) {n : Int} {v : ck.V} (hv : ck.fits v) :
    (mhas m n = false → MapIs ck (mput m n v) (es.push { key := .int .i64 n, val := ck.val v, born := clock }).toList (clock + 1)) ∧
    ∀ (j : Nat) (e : MapEntry), es.toList[j]? = some e → e.key = .int .i64 n → mhas m n = true →
      MapIs ck (mput m n v) (es.modify j fun e => { e with key := .int .i64 n, val := ck.val v }).toList clock := by
  constructor
  · intro hno
    have hno' : ∀ p ∈ m, p.1 ≠ n := by simpa [mhas] using hno
    unfold mput
    rw [if_neg (by rw [hno]; simp)]
    refine ⟨?_, ?_, ?_, ?_, ?_⟩
    · simp only [Array.toList_push, List.map_append, h.eq, List.map_cons, List.map_nil]
    · rw [List.map_append, List.nodup_append]
      refine ⟨h.keys, by simp, fun a ha b hb => ?_⟩
      simp only [List.map_cons, List.map_nil, List.mem_singleton] at hb
      obtain ⟨p, hp, rfl⟩ := List.mem_map.1 ha
      rw [hb]; exact hno' p hp
    · rw [Array.toList_push, List.map_append, List.nodup_append]
      refine ⟨h.borns, by simp, fun a ha b hb => ?_⟩
      simp only [List.map_cons, List.map_nil, List.mem_singleton] at hb
      obtain ⟨e, he, rfl⟩ := List.mem_map.1 ha
      have := h.old e he
      omega
    · intro e he
      rw [Array.toList_push, List.mem_append] at he
      rcases he with he | he
      · have := h.old e he; omega
      · rw [List.mem_singleton.1 he]; exact Nat.lt_succ_self _
    · intro p hp
      rcases List.mem_append.1 hp with hp | hp
      · exact h.fits p hp
      · rw [List.mem_singleton.1 hp]; exact hv
  · intro j e hj he hyes
    obtain ⟨k, u, g1, g2, g3⟩ := h.get hj
    rw [he] at g2
    cases g2
    have hlt : j < es.toList.length := (List.getElem?_eq_some_iff.1 hj).1
    unfold mput
    rw [if_pos hyes]
    have hmod : (es.modify j fun e => { e with key := .int .i64 n, val := ck.val v }).toList = es.toList.set j { e with key := .int .i64 n, val := ck.val v } := by
      refine List.ext_getElem? fun i => ?_
      simp only [Array.toList_modify, List.getElem?_modify, List.getElem?_set]
      by_cases hij : j = i
      · subst hij
        have hlt' : j < es.size := by simpa using hlt
        rw [hj]
        simp [hlt']
      · simp [hij]
    rw [hmod]
    have hset : (m.map fun p => if p.1 == n then (n, v) else p) = m.set j (n, v) := by
      refine List.ext_getElem? fun i => ?_
      rw [List.getElem?_map, List.getElem?_set]
      by_cases hij : j = i
      · subst hij
        have hlt2 : j < m.length := (List.getElem?_eq_some_iff.1 g1).1
        rw [g1]
        simp [hlt2]
      · rw [if_neg hij]
        cases hm : m[i]? with
        | none => rfl
        | some p =>
          have hne : (p.1 == n) = false := by
            rw [beq_eq_false_iff_ne]
            intro e1
            obtain ⟨hi1, hi2⟩ := List.getElem?_eq_some_iff.1 hm
            obtain ⟨hj1, hj2⟩ := List.getElem?_eq_some_iff.1 g1
            refine hij ((List.getElem_inj (h₀ := by simpa using hj1) (h₁ := by simpa using hi1) h.keys).1 ?_)
            simp only [List.getElem_map, hi2, hj2, e1]
          rw [Option.map_some, hne]; rfl
    refine ⟨?_, by rw [map_keys_put]; exact h.keys, ?_, ?_, ?_⟩
    · rw [hset, List.map_set, List.map_set, h.eq]
    · rw [List.map_set]
      have : (es.toList.map (·.born)).set j e.born = es.toList.map (·.born) := by
        refine List.ext_getElem? fun i => ?_
        rw [List.getElem?_set]
        by_cases hij : j = i
        · subst hij
          rw [if_pos rfl, if_pos (by simpa using hlt), List.getElem?_map, hj]; rfl
        · rw [if_neg hij]
      rw [this]; exact h.borns
    · intro x hx
      rcases List.mem_or_eq_of_mem_set hx with hx | rfl
      · exact h.old x hx
      · exact h.old e (List.mem_of_getElem? hj)
    · intro p hp
      obtain ⟨q, hq, rfl⟩ := List.mem_map.1 hp
      split
      · exact hv
      · exact h.fits q hq

theorem run_mapUpdate (h : MapIs ck m es.toList clock) (hb : w.heap[b]? = some (.map es clock)) {t kt et : TypeId} (ht : P.underlying t = some (.map kt et)) (hk : P.underlying kt = some (.int .i64)) (n : Int) {v : ck.V} (hv : ck.fits v) :
    ∃ es' clock', (Instr.mapUpdate t (.map (some b)) (.int .i64 n) (ck.val v)).run P w = .ok () { w with heap := w.heap.setIfInBounds b (.map es' clock') } ∧ MapIs ck (mput m n v) es'.toList clock' := by
  have hc := MapKept.run_checkKey (w := w) hk (k := .int .i64 n) rfl false 9999
  rcases h.find (w := w) hk n with ⟨h1, h2, h3⟩ | ⟨j, e, u, h1, g1, g2, g3, g4, h2, h3⟩
  · exact ⟨_, _, by simp [Instr.mapUpdate, run_underlying ht, MapKept.run_getObj_map hb, hc, h1, Result.andThen, MapKept.run_setObj_map _ hb], (h.put hv).1 h3⟩
  · have hkey : ((es[j]?).map (·.key)).getD (.int .i64 n) = .int .i64 n := by
      rw [show es[j]? = some e from by rw [← Array.getElem?_toList]; exact g1]
      exact g2
    refine ⟨_, _, ?_, (h.put hv).2 j e g1 g2 h3⟩
    simp [Instr.mapUpdate, run_underlying ht, MapKept.run_getObj_map hb, hc, h1, Result.andThen, MapKept.run_setObj_map _ hb, hkey, stays]
end
end Go.Sx
