import Derived.Test.YtjmdfmafnenjnaaSxNew
import Derived.Test.YtjmdfmafnenjnaaSxMap
import Derived.Carry
/-! Operations on maps. -/
namespace Go.Sx
open Go

section
variable {ρ ρ' : Nat → Value} {H H' : AHeap} {G O O' : Nat → Prop} {w w' : World} {P : Program}

theorem isK64_ok {t : TypeId} (h : isK64 P t = true) : P.underlying t = some (.int .i64) := by
  unfold isK64 at h
  split at h
  · assumption
  · cases h

theorem zeroIs_ok {t : TypeId} {ck : CK} (h : zeroIs P t ck = true) : (zeroValue t).run P w = .ok (ck.val ck.d) w ∧ ck.fits ck.d := by
  have key : ∀ v, (P.info? t).bind (·.zero) = some v → (zeroValue t).run P w = .ok v w := by
    intro v hv
    obtain ⟨i, h1, h2⟩ := Option.bind_eq_some_iff.1 hv
    simp [zeroValue, typeInfo, h1, h2]
  unfold zeroIs at h
  rw [Bool.and_eq_true] at h
  replace h := h.2
  split at h
  · rename_i k' k hz
    obtain rfl := kindEq_eq h
    exact ⟨key _ hz, trivial⟩
  · rename_i hz; exact ⟨key _ hz, trivial⟩
  · rename_i s hz
    have : s = ByteArray.empty := by
      have := Nat.eq_of_beq_eq_true h
      obtain ⟨⟨l⟩⟩ := s
      cases l with
      | nil => rfl
      | cons a l => simp [ByteArray.size] at this
    subst this
    exact ⟨key _ hz, trivial⟩
  · rename_i cs k n hz
    simp only [Bool.and_eq_true] at h
    have h1 := zeroNums_ok k _ h.1
    have h2 := Nat.eq_of_beq_eq_true h.2
    refine ⟨?_, by show (List.replicate n (0 : Int)).length = n; simp⟩
    rw [key _ hz]
    congr 1
    show Value.agg cs = .agg ((List.replicate n (0 : Int)).map (Value.int k)).toArray
    rw [← h2, ← h1]
  · cases h

theorem av_den {ck : CK} {v : ck.V} (h : ck.fits v) (hp : ck.av v ≠ .s .junk) : DenV ρ H O w (ck.av v) (ck.val v) := by
  cases ck with
  | int k => exact DenV_s (.int _ _)
  | bool => exact DenV_s (.bool _)
  | str => exact DenV_s (.str _)
  | arr k n =>
    show DenV ρ H O w (.ints k n v) _
    unfold DenV
    exact ⟨h, rfl⟩
  | _ => exact (hp rfl).elim

theorem zeroIs_plain {t : TypeId} {ck : CK} (h : zeroIs P t ck = true) (v : ck.V) : ck.av v ≠ .s .junk := by
  unfold zeroIs at h
  rw [Bool.and_eq_true] at h
  replace h := h.1
  cases ck <;> first
    | (cases h; done)
    | (intro e; cases e; done)

theorem map_obj (hs : Sat ρ H G w) {id b : Nat} {ck : CK} {m : List (Int × ck.V)} (ho : H id = some (.map ck m)) (hb : ρ id = .map (some b)) : ∃ es clock, w.heap[b]? = some (.map es clock) ∧ MapIs ck m es.toList clock := by
  obtain ⟨b', es, clock, h1, h2, h3⟩ := hs.obj id _ ho
  rw [hb] at h1
  cases h1
  exact ⟨es, clock, h2, h3⟩

theorem mget_fits {ck : CK} {m : List (Int × ck.V)} (h : ∀ p ∈ m, ck.fits p.2) {n : Int} {v : ck.V} (hv : mget m n = some v) : ck.fits v := by
  simp only [mget, Option.map_eq_some_iff] at hv
  obtain ⟨p, hp, rfl⟩ := hv
  exact h p (List.mem_of_find?_eq_some hp)

theorem lookupR_ok {t : TypeId} {x i : AV} {ok : Bool} {vx vi : Value} {q : Res} (h : (lookupR P t x i ok).eval H = some q) (hn : Needs q.need) (hs : Sat ρ H G w) (hx : DenV ρ H (Hot ρ H G) w x vx) (hi : DenV ρ H (Hot ρ H G) w i vi) :
    ValOK P ρ H (Hot ρ H G) w q (Instr.lookup t vx vi ok) := by
  unfold lookupR at h
  split at h
  · rename_i kt et id k lit n ht hnum
    rw [Bool.cond_eq_ite] at h
    split at h
    · rename_i hk
      simp only [Bool.and_eq_true] at hk
      obtain rfl := isI64_eq hk.2
      obtain rfl := num_den hnum hi
      simp only [RM.eval] at h
      split at h
      · rename_i ck m ho
        rw [Bool.cond_eq_ite] at h
        split at h
        · rename_i hz
          unfold DenV Den1 at hx
          obtain ⟨b, hb, rfl, _⟩ := hx
          obtain ⟨es, clock, h1, h2⟩ := map_obj hs ho hb
          obtain ⟨hz1, hz2⟩ := zeroIs_ok (w := w) hz
          have hrun := run_lookup h2 h1 ht (isK64_ok hk.1) hz1 n ok
          have hval : DenV ρ H (Hot ρ H G) w (ck.av ((mget m n).getD ck.d)) (((mget m n).map ck.val).getD (ck.val ck.d)) := by
            cases hg : mget m n with
            | none => exact av_den hz2 (zeroIs_plain hz _)
            | some v => exact av_den (mget_fits h2.fits hg) (zeroIs_plain hz _)
          refine plain_ok h (fun _ => ⟨_, hrun, ?_⟩) hn
          cases ok
          · exact hval
          · simp only [cond_true, if_true]
            unfold DenV
            exact ⟨[_, _], rfl, DenL_cons.2 ⟨_, _, rfl, hval, DenL_cons.2 ⟨_, _, rfl, DenV_s (.bool _), DenL_nil.2 rfl⟩⟩⟩
        · cases h
      · cases h
    · cases h
  · cases h

theorem rdv_ok {ck : CK} {a : AV} {y : ck.V} {v : Value} (h : ck.rdv a = some y) (hd : DenV ρ H O w a v) : v = ck.val y ∧ ck.fits y := by
  cases ck with
  | int k =>
    simp only [CK.rdv] at h
    split at h
    · rw [Bool.cond_eq_ite] at h
      split at h
      · rename_i hk; obtain rfl := kindEq_eq hk; cases h
        have := DenS_of_V (by simp) hd
        cases this; exact ⟨rfl, trivial⟩
      · cases h
    · rw [Bool.cond_eq_ite] at h
      split at h
      · rename_i hk; obtain rfl := kindEq_eq hk; cases h
        have := DenS_of_V (by simp) hd
        cases this; exact ⟨rfl, trivial⟩
      · cases h
    · cases h
  | bool =>
    simp only [CK.rdv] at h
    split at h
    · cases h
      have := DenS_of_V (by simp) hd
      cases this; exact ⟨rfl, trivial⟩
    · cases h
      have := DenS_of_V (by simp) hd
      cases this; exact ⟨rfl, trivial⟩
    · cases h
  | str =>
    simp only [CK.rdv] at h
    split at h
    · cases h
      have := DenS_of_V (by simp) hd
      cases this; exact ⟨rfl, trivial⟩
    · cases h
  | arr k n =>
    simp only [CK.rdv] at h
    split at h
    · rw [Bool.cond_eq_ite] at h
      split at h
      · rename_i hk
        simp only [Bool.and_eq_true] at hk
        obtain rfl := kindEq_eq hk.1
        obtain rfl := Nat.eq_of_beq_eq_true hk.2
        cases h
        unfold DenV at hd
        exact ⟨hd.2, hd.1⟩
      · cases h
    · cases h
  | _ => cases h

theorem mapUpdateR_ok {t : TypeId} {x i a : AV} {vx vi va : Value} {q : Res} (h : (mapUpdateR P t x i a).eval H = some q) (hs : Sat ρ H G w) (hx : DenV ρ H (Hot ρ H G) w x vx) (hi : DenV ρ H (Hot ρ H G) w i vi) (ha : DenV ρ H (Hot ρ H G) w a va) :
    ∃ w', (Instr.mapUpdate t vx vi va).run P w = .ok () w' ∧ ∀ base, Good ρ H G w (resH H q.up base q.new) (q.r base) undef w' := by
  unfold mapUpdateR at h
  split at h
  · rename_i kt et id k lit n ht hnum
    rw [Bool.cond_eq_ite] at h
    split at h
    · rename_i hk
      simp only [Bool.and_eq_true] at hk
      obtain rfl := isI64_eq hk.2
      obtain rfl := num_den hnum hi
      simp only [RM.eval] at h
      split at h
      · rename_i ck m ho
        split at h
        · rename_i y hy
          simp only [RM.eval, Option.some.injEq] at h
          subst h
          obtain ⟨rfl, hf⟩ := rdv_ok hy ha
          unfold DenV Den1 at hx
          obtain ⟨b, hb, rfl, _⟩ := hx
          obtain ⟨es, clock, h1, h2⟩ := map_obj hs ho hb
          obtain ⟨es', clock', h3, h4⟩ := run_mapUpdate h2 h1 ht (isK64_ok hk.1) n hf
          refine ⟨_, h3, fun base => ?_⟩
          simp only [resH_up]
          exact Good.write hs ho rfl rfl (by rw [hb]; rfl) (fun _ _ hc => by cases hc) ⟨b, es', clock', hb, setBlk_get h1, h4⟩ den_undef
        · cases h
      · cases h
    · cases h
  · cases h

theorem makeMapR_ok {t : TypeId} {r : Option AV} {q : Res} (h : (makeMapR P t r).eval H = some q) (hs : Sat ρ H G w) {base : Nat} (hb : ∀ i, i < q.new.length → H (base + i) = none) :
    r = none ∧ ∃ v w', (Instr.makeMap t none).run P w = .ok v w' ∧ Good ρ H G w (resH H q.up base q.new) (q.r base) v w' := by
  unfold makeMapR at h
  split at h
  · split at h
    · rename_i ck _
      simp only [RM.eval, Option.some.injEq] at h
      subst h
      have hn : H base = none := by simpa using hb 0 (by simp)
      refine ⟨rfl, .map (some w.heap.size), w.alloc (.map #[] 0), RowKit.run_makeMap .., ?_⟩
      simp only [resH_new]
      refine Good.fresh hs hn (root := .map (some w.heap.size)) (w1 := w) rfl rfl rfl rfl (fun b hb => by simpa [blk] using hb.symm) ⟨w.heap.size, #[], 0, rfl, (MapKept.heap_alloc w _).1, ⟨rfl, by simp, by simp, by simp, by simp⟩⟩ ?_
      unfold DenV Den1
      exact ⟨w.heap.size, by simp, rfl, by simp [updH]⟩
    · cases h
  · cases h
end
end Go.Sx
