import Derived.Test.YtjmdfmafnenjnaaSxExecOk
/-! The same state, seen with other names for its own objects, and with less of it. -/
namespace Go.Sx
open Go

def allM {α β : Type} (f : α → Option β) : List α → Option (List β)
  | [] => some []
  | a :: as => match f a, allM f as with
    | some b, some bs => some (b :: bs)
    | _, _ => none

/-- A literal is an answer like any other one. -/
def rnS : SV → SV
  | .ilit k n => .int k n
  | .blit b => .bool b
  | x => x

def rn (g : Nat → Option Nat) : Nat → AV → Option AV
  | 0, _ => none
  | d + 1, a =>
    match a with
    | .s x => some (.s (rnS x))
    | .ptr id off => (g id).map fun j => .ptr j off
    | .ptrx id off n i => (g id).map fun j => .ptrx j off n i
    | .eptr c m j => some (.eptr c m j)
    | .vec id => (g id).map fun j => .vec j
    | .vptr id i j => (g id).map fun l => .vptr l i j
    | .part id lo n => (g id).map fun l => .part l lo n
    | .emp => some .emp
    | .agg segs => (allM (rn g d) segs).map .agg
    | .ints k n ws => some (.ints k n ws)
    | .tup vs => (allM (rn g d) vs).map .tup
    | .fn f caps => (allM (rn g d) caps).map (.fn f)
    | .mapv id => (g id).map fun j => .mapv j

def rnO (g : Nat → Option Nat) : AObj → Option AObj
  | .own segs e => (allM (rn g 20) segs).map fun s => .own s e
  | .vec c e => some (.vec c e)
  | .map ck m => some (.map ck m)
  | .dead => some .dead

structure Emb (g : Nat → Option Nat) (ρ : Nat → Value) (H : AHeap) (O : Nat → Prop) (ρ' : Nat → Value) (H' : AHeap) (O' : Nat → Prop) : Prop where
  id : ∀ i j, g i = some j → ρ' j = ρ i ∧ ∀ o, H i = some o → ∃ o', H' j = some o' ∧ ∀ c e, o' = .vec c e → o = .vec c e
  hot : ∀ b, O' b → O b

section
variable {g : Nat → Option Nat} {ρ ρ' : Nat → Value} {H H' : AHeap} {G O O' : Nat → Prop} {w w' : World} {P : Program} {S : SummB} {Z : Glob} {X : Ctx} {s : St} {a : Act} {K : List AObj → AV → Prop} {C : Cfg → Prop}

theorem allM_cons {α β : Type} {f : α → Option β} {a : α} {as : List α} {l : List β} (h : allM f (a :: as) = some l) : ∃ b bs, f a = some b ∧ allM f as = some bs ∧ l = b :: bs := by
  unfold allM at h
  split at h
  · rename_i b bs h1 h2
    simp only [Option.some.injEq] at h
    exact ⟨b, bs, h1, h2, h.symm⟩
  · cases h

theorem allM_length {α β : Type} {f : α → Option β} : ∀ {as : List α} {l : List β}, allM f as = some l → l.length = as.length
  | [], l, h => by simp only [allM, Option.some.injEq] at h; subst h; rfl
  | a :: as, l, h => by
    obtain ⟨b, bs, _, h2, rfl⟩ := allM_cons h
    simp [allM_length h2]

theorem allM_get {α β : Type} {f : α → Option β} : ∀ {as : List α} {l : List β}, allM f as = some l → ∀ (i : Nat) (a : α), as[i]? = some a → ∃ b, f a = some b ∧ l[i]? = some b
  | [], l, h, i, a, hi => by simp at hi
  | a :: as, l, h, i, x, hi => by
    obtain ⟨b, bs, h1, h2, rfl⟩ := allM_cons h
    cases i with
    | zero => simp only [List.getElem?_cons_zero, Option.some.injEq] at hi; subst hi; exact ⟨b, h1, rfl⟩
    | succ i => simpa using allM_get h2 i x (by simpa using hi)

theorem DenS.less (hot : ∀ b, O' b → O b) {x : SV} {v : Value} (h : DenS O w x v) : DenS O' w x v :=
  h.step (fun b hb => .inl (hot b hb)) (fun _ _ _ => rfl) (Nat.le_refl _)

theorem DenS.rnS {x : SV} {v : Value} (h : DenS O w x v) : DenS O w (rnS x) v := by
  cases h <;> first
    | exact DenS.int _ _
    | exact DenS.bool _
    | (refine DenS.ro _ _ _ _ _ _ ?_ ?_ ?_ ?_ ?_ <;> assumption)
    | (constructor <;> assumption)
    | constructor

theorem DenV_s_rn (hot : ∀ b, O' b → O b) {x : SV} {v : Value} (h : DenV ρ H O w (.s x) v) : DenV ρ' H' O' w (.s (Sx.rnS x)) v := by
  by_cases hx : x = .junk
  · subst hx; unfold DenV; trivial
  · have h1 := DenS_of_V hx h
    exact DenV_s (h1.less hot).rnS

theorem rn_den (E : Emb g ρ H O ρ' H' O') : ∀ (d : Nat),
    (∀ a a' v, rn g d a = some a' → DenV ρ H O w a v → DenV ρ' H' O' w a' v) ∧ (∀ a a' cs, rn g d a = some a' → DenC ρ H O w a cs → DenC ρ' H' O' w a' cs) := by
  have isSome : ∀ {i j : Nat}, g i = some j → (H i).isSome = true → (H' j).isSome = true := by
    intro i j hg hi
    obtain ⟨o, ho⟩ := Option.isSome_iff_exists.1 hi
    obtain ⟨o', ho', _⟩ := (E.id i j hg).2 o ho
    rw [ho']; rfl
  have vec1 : ∀ {i j : Nat} {v : Value}, g i = some j → Den1 ρ H O w (.vec i) v → Den1 ρ' H' O' w (.vec j) v := by
    intro i j v hg h
    unfold Den1 at *
    obtain ⟨h0, o, ho, h1⟩ := h
    obtain ⟨hr, h2⟩ := E.id i j hg
    obtain ⟨o', ho', h3⟩ := h2 o ho
    exact ⟨h0, o', ho', fun c e hc => by rw [hr]; exact h1 c e (h3 c e hc)⟩
  have vptr1 : ∀ {i j : Nat} {v : Value} {m n : Nat}, g i = some j → Den1 ρ H O w (.vptr i m n) v → Den1 ρ' H' O' w (.vptr j m n) v := by
    intro i j v m n hg h
    unfold Den1 at *
    obtain ⟨h0, o, ho, h1⟩ := h
    obtain ⟨hr, h2⟩ := E.id i j hg
    obtain ⟨o', ho', h3⟩ := h2 o ho
    exact ⟨h0, o', ho', fun c e hc => by rw [hr]; exact h1 c e (h3 c e hc)⟩
  have part1 : ∀ {i j : Nat} {v : Value} {m n : Nat}, g i = some j → Den1 ρ H O w (.part i m n) v → Den1 ρ' H' O' w (.part j m n) v := by
    intro i j v m n hg h
    unfold Den1 at *
    obtain ⟨h0, o, ho, h1⟩ := h
    obtain ⟨hr, h2⟩ := E.id i j hg
    obtain ⟨o', ho', h3⟩ := h2 o ho
    exact ⟨h0, o', ho', fun c e hc => by rw [hr]; exact h1 c e (h3 c e hc)⟩
  have ptr1 : ∀ {i j : Nat} {v : Value} {off : Nat}, g i = some j → Den1 ρ H O w (.ptr i off) v → Den1 ρ' H' O' w (.ptr j off) v := by
    intro i j v off hg h
    unfold Den1 at *
    obtain ⟨b, h1, h2, h3⟩ := h
    exact ⟨b, by rw [(E.id i j hg).1, h1], h2, isSome hg h3⟩
  have map1 : ∀ {i j : Nat} {v : Value}, g i = some j → Den1 ρ H O w (.mapv i) v → Den1 ρ' H' O' w (.mapv j) v := by
    intro i j v hg h
    unfold Den1 at *
    obtain ⟨b, h1, h2, h3⟩ := h
    exact ⟨b, by rw [(E.id i j hg).1, h1], h2, isSome hg h3⟩
  have ptrx1 : ∀ {i j : Nat} {v : Value} {off n l : Nat}, g i = some j → Den1 ρ H O w (.ptrx i off n l) v → Den1 ρ' H' O' w (.ptrx j off n l) v := by
    intro i j v off n l hg h
    unfold Den1 at *
    obtain ⟨h0, b, h1, h2, h3⟩ := h
    exact ⟨h0, b, by rw [(E.id i j hg).1, h1], h2, isSome hg h3⟩
  have eptr1 : ∀ {c : Con} {m j : Nat} {v : Value}, Den1 ρ H O w (.eptr c m j) v → Den1 ρ' H' O' w (.eptr c m j) v := by
    intro c m j v h
    unfold Den1 at *
    obtain ⟨b, o, us, h1, h2, h3, h4⟩ := h
    exact ⟨b, o, us, h1, fun h5 => h2 (E.hot b h5), h3, fun i hi => ⟨(h4 i hi).1, (h4 i hi).2.less E.hot⟩⟩
  intro d
  induction d with
  | zero => exact ⟨fun a a' v h => by simp [rn] at h, fun a a' cs h => by simp [rn] at h⟩
  | succ d ih =>
    have lst : ∀ (as as' : List AV) (vs : List Value), allM (rn g d) as = some as' → DenL ρ H O w as vs → DenL ρ' H' O' w as' vs := by
      intro as
      induction as with
      | nil => intro as' vs h hd; simp only [allM, Option.some.injEq] at h; subst h; rw [DenL_nil.1 hd]; exact DenL_nil.2 rfl
      | cons a as ihl =>
        intro as' vs h hd
        obtain ⟨b, bs, h1, h2, rfl⟩ := allM_cons h
        obtain ⟨v, rest, rfl, h3, h4⟩ := DenL_cons.1 hd
        exact DenL_cons.2 ⟨v, rest, rfl, ih.1 a b v h1 h3, ihl bs rest h2 h4⟩
    have sgs : ∀ (as as' : List AV) (cs : List Value), allM (rn g d) as = some as' → DenSegs ρ H O w as cs → DenSegs ρ' H' O' w as' cs := by
      intro as
      induction as with
      | nil => intro as' vs h hd; simp only [allM, Option.some.injEq] at h; subst h; rw [DenSegs_nil.1 hd]; exact DenSegs_nil.2 rfl
      | cons a as ihl =>
        intro as' vs h hd
        obtain ⟨b, bs, h1, h2, rfl⟩ := allM_cons h
        obtain ⟨c1, c2, rfl, h3, h4⟩ := DenSegs_cons.1 hd
        exact DenSegs_cons.2 ⟨c1, c2, rfl, ih.2 a b c1 h1 h3, ihl bs c2 h2 h4⟩
    refine ⟨fun a a' v h hd => ?_, fun a a' cs h hd => ?_⟩
    · cases a <;> simp only [rn, Option.map_eq_some_iff, Option.some.injEq, reduceCtorEq] at h
      case s x => subst h; exact DenV_s_rn E.hot hd
      case ptr id off => obtain ⟨j, hg, rfl⟩ := h; unfold DenV at *; exact ptr1 hg hd
      case ptrx id off n i => obtain ⟨j, hg, rfl⟩ := h; unfold DenV at *; exact ptrx1 hg hd
      case eptr c m j => subst h; unfold DenV at *; exact eptr1 hd
      case vec id => obtain ⟨j, hg, rfl⟩ := h; unfold DenV at *; exact vec1 hg hd
      case vptr id i j => obtain ⟨l, hg, rfl⟩ := h; unfold DenV at *; exact vptr1 hg hd
      case part id lo n => obtain ⟨l, hg, rfl⟩ := h; unfold DenV at *; exact part1 hg hd
      case emp => subst h; unfold DenV at *; exact hd
      case agg segs => obtain ⟨l, hl, rfl⟩ := h; unfold DenV at *; obtain ⟨cs, h1, h2⟩ := hd; exact ⟨cs, h1, sgs _ _ _ hl h2⟩
      case ints k n ws => subst h; unfold DenV at *; exact hd
      case tup vs => obtain ⟨l, hl, rfl⟩ := h; unfold DenV at *; obtain ⟨us, h1, h2⟩ := hd; exact ⟨us, h1, lst _ _ _ hl h2⟩
      case fn f caps => obtain ⟨l, hl, rfl⟩ := h; unfold DenV at *; obtain ⟨us, h1, h2⟩ := hd; exact ⟨us, h1, lst _ _ _ hl h2⟩
      case mapv id => obtain ⟨j, hg, rfl⟩ := h; unfold DenV at *; exact map1 hg hd
    · cases a <;> simp only [rn, Option.map_eq_some_iff, Option.some.injEq, reduceCtorEq] at h
      case s x => subst h; unfold DenC at *; obtain ⟨u, h1, h2⟩ := hd; exact ⟨u, h1, (h2.less E.hot).rnS⟩
      case ptr id off => obtain ⟨j, hg, rfl⟩ := h; unfold DenC at *; obtain ⟨u, h1, h2⟩ := hd; exact ⟨u, h1, ptr1 hg h2⟩
      case ptrx id off n i => obtain ⟨j, hg, rfl⟩ := h; unfold DenC at *; obtain ⟨u, h1, h2⟩ := hd; exact ⟨u, h1, ptrx1 hg h2⟩
      case eptr c m j => subst h; unfold DenC at *; obtain ⟨u, h1, h2⟩ := hd; exact ⟨u, h1, eptr1 h2⟩
      case vec id => obtain ⟨j, hg, rfl⟩ := h; unfold DenC at *; obtain ⟨u, h1, h2⟩ := hd; exact ⟨u, h1, vec1 hg h2⟩
      case vptr id i j => obtain ⟨l, hg, rfl⟩ := h; unfold DenC at *; obtain ⟨u, h1, h2⟩ := hd; exact ⟨u, h1, vptr1 hg h2⟩
      case part id lo n => obtain ⟨l, hg, rfl⟩ := h; unfold DenC at *; obtain ⟨u, h1, h2⟩ := hd; exact ⟨u, h1, part1 hg h2⟩
      case emp => subst h; unfold DenC at *; exact hd
      case agg segs => unfold DenC at hd; exact hd.elim
      case ints k n ws => subst h; unfold DenC at *; exact hd
      case tup vs => unfold DenC at hd; exact hd.elim
      case fn f caps => obtain ⟨l, hl, rfl⟩ := h; unfold DenC at *; obtain ⟨u, h1, us, h2, h3⟩ := hd; exact ⟨u, h1, us, h2, lst _ _ _ hl h3⟩
      case mapv id => obtain ⟨j, hg, rfl⟩ := h; unfold DenC at *; obtain ⟨u, h1, h2⟩ := hd; exact ⟨u, h1, map1 hg h2⟩

theorem rnL_den (E : Emb g ρ H O ρ' H' O') {d : Nat} : ∀ {as as' : List AV} {vs : List Value}, allM (rn g d) as = some as' → DenL ρ H O w as vs → DenL ρ' H' O' w as' vs
  | [], as', vs, h, hd => by simp only [allM, Option.some.injEq] at h; subst h; rw [DenL_nil.1 hd]; exact DenL_nil.2 rfl
  | a :: as, as', vs, h, hd => by
    obtain ⟨b, bs, h1, h2, rfl⟩ := allM_cons h
    obtain ⟨v, rest, rfl, h3, h4⟩ := DenL_cons.1 hd
    exact DenL_cons.2 ⟨v, rest, rfl, (rn_den E d).1 a b v h1 h3, rnL_den E h2 h4⟩

theorem rnSegs_den (E : Emb g ρ H O ρ' H' O') {d : Nat} : ∀ {as as' : List AV} {cs : List Value}, allM (rn g d) as = some as' → DenSegs ρ H O w as cs → DenSegs ρ' H' O' w as' cs
  | [], as', vs, h, hd => by simp only [allM, Option.some.injEq] at h; subst h; rw [DenSegs_nil.1 hd]; exact DenSegs_nil.2 rfl
  | a :: as, as', vs, h, hd => by
    obtain ⟨b, bs, h1, h2, rfl⟩ := allM_cons h
    obtain ⟨c1, c2, rfl, h3, h4⟩ := DenSegs_cons.1 hd
    exact DenSegs_cons.2 ⟨c1, c2, rfl, (rn_den E d).2 a b c1 h1 h3, rnSegs_den E h2 h4⟩

theorem rnO_sat (E : Emb g ρ H O ρ' H' O') {o o' : AObj} {root : Value} (h : rnO g o = some o') (hs : ObjSat ρ H O w root o) : ObjSat ρ' H' O' w root o' := by
  cases o with
  | dead => simp only [rnO, Option.some.injEq] at h; subst h; trivial
  | map ck m => simp only [rnO, Option.some.injEq] at h; subst h; exact hs
  | own segs e =>
    simp only [rnO, Option.map_eq_some_iff] at h
    obtain ⟨l, hl, rfl⟩ := h
    obtain ⟨b, cells, fr, h0, h1, h2, h3⟩ := hs
    exact ⟨b, cells, fr, h0, h1, h2, rnSegs_den E hl h3⟩
  | vec c e =>
    simp only [rnO, Option.some.injEq] at h
    subst h
    obtain ⟨r, cap, h0, h1, h2, h3⟩ := hs
    refine ⟨r, cap, h0, h1, h2, h3.imp id ?_⟩
    rintro ⟨b, f, cells, fr, us, h4, h5, h6, h7, h8⟩
    exact ⟨b, f, cells, fr, us, h4, h5, h6, h7, fun i j hi hj => ⟨(h8 i j hi hj).1, (h8 i j hi hj).2.less E.hot⟩⟩

theorem rnO_alive {o o' : AObj} (h : rnO g o = some o') : o'.alive = o.alive ∧ ∀ c e, o' = .vec c e → o = .vec c e := by
  cases o with
  | dead => simp only [rnO, Option.some.injEq] at h; subst h; exact ⟨rfl, fun c e hc => by cases hc⟩
  | map ck m => simp only [rnO, Option.some.injEq] at h; subst h; exact ⟨rfl, fun c e hc => by cases hc⟩
  | own segs e =>
    simp only [rnO, Option.map_eq_some_iff] at h
    obtain ⟨l, hl, rfl⟩ := h
    exact ⟨rfl, fun c e hc => by cases hc⟩
  | vec c e => simp only [rnO, Option.some.injEq] at h; subst h; exact ⟨rfl, fun c e hc => hc⟩

def idxF : List Nat → Nat → Nat → Option Nat
  | [], _, _ => none
  | x :: xs, k, id => bif x.beq id then some k else idxF xs (k + 1) id
def idx (σ : List Nat) (id : Nat) : Option Nat := idxF σ 0 id

def viewH (σ : List Nat) (L : List AObj) : Option (List AObj) := allM (fun id => match L[id]? with | some o => rnO (idx σ) o | none => none) σ

def nodupB : List Nat → Bool
  | [] => true
  | x :: xs => !(xs.any (x.beq ·)) && nodupB xs

theorem idxF_spec : ∀ {σ : List Nat} {k id j : Nat}, idxF σ k id = some j → k ≤ j ∧ σ[j - k]? = some id
  | [], k, id, j, h => by simp [idxF] at h
  | x :: xs, k, id, j, h => by
    simp only [idxF, Bool.cond_eq_ite] at h
    split at h
    · rename_i hx
      obtain rfl : x = id := Nat.eq_of_beq_eq_true hx
      obtain rfl : k = j := by simpa using h
      exact ⟨Nat.le_refl _, by simp⟩
    · obtain ⟨h1, h2⟩ := idxF_spec h
      refine ⟨by omega, ?_⟩
      rw [show j - k = (j - (k + 1)) + 1 from by omega]
      simpa using h2

theorem idx_spec {σ : List Nat} {id j : Nat} (h : idx σ id = some j) : σ[j]? = some id := by simpa using (idxF_spec h).2

theorem nodupB_spec : ∀ {σ : List Nat}, nodupB σ = true → σ.Nodup
  | [], _ => .nil
  | x :: xs, h => by
    simp only [nodupB, Bool.and_eq_true, Bool.not_eq_true', List.any_eq_false] at h
    refine List.nodup_cons.2 ⟨fun hm => ?_, nodupB_spec h.2⟩
    have := h.1 x hm
    simp at this

theorem viewH_get {σ : List Nat} {L L' : List AObj} (h : viewH σ L = some L') {j : Nat} {o' : AObj} (hj : L'[j]? = some o') : ∃ (id : Nat) (o : AObj), σ[j]? = some id ∧ L[id]? = some o ∧ rnO (idx σ) o = some o' := by
  have hlen := allM_length h
  have hlt : j < σ.length := by rw [← hlen]; exact (List.getElem?_eq_some_iff.1 hj).1
  obtain ⟨b, h1, h2⟩ := allM_get h j σ[j] (List.getElem?_eq_getElem hlt)
  rw [hj] at h2
  simp only [Option.some.injEq] at h2
  subst h2
  split at h1
  · rename_i o ho
    exact ⟨σ[j], o, List.getElem?_eq_getElem hlt, ho, h1⟩
  · cases h1

theorem viewH_of {σ : List Nat} {L L' : List AObj} (h : viewH σ L = some L') {j id : Nat} (hj : σ[j]? = some id) : ∃ o o', L[id]? = some o ∧ rnO (idx σ) o = some o' ∧ L'[j]? = some o' := by
  obtain ⟨b, h1, h2⟩ := allM_get h j id hj
  split at h1
  · rename_i o ho
    exact ⟨o, b, ho, h1, h2⟩
  · cases h1

def pull (σ : List Nat) (ρ : Nat → Value) : Nat → Value := fun j => ρ (σ.getD j 0)

theorem view_own {σ : List Nat} {L L' : List AObj} (hv : viewH σ L = some L') {b : Nat} (h : Own (pull σ ρ) (fun j => L'[j]?) b) : ∃ (j id : Nat) (o : AObj), σ[j]? = some id ∧ L[id]? = some o ∧ o.alive = true ∧ blk (ρ id) = some b := by
  obtain ⟨j, o', ho', ha, hb⟩ := h
  obtain ⟨id, o, h1, h2, h3⟩ := viewH_get hv ho'
  have : pull σ ρ j = ρ id := by simp [pull, List.getD, h1]
  rw [this] at hb
  exact ⟨j, id, o, h1, h2, by rw [← (rnO_alive h3).1]; exact ha, hb⟩

theorem view_core {σ : List Nat} {L L' : List AObj} {G' : Nat → Prop} (hs : Sat ρ (fun i => L[i]?) G w) (hn : σ.Nodup) (hv : viewH σ L = some L') (hG : ∀ b, G' b → Hot ρ (fun i => L[i]?) G b) (hap : ∀ b, Own (pull σ ρ) (fun j => L'[j]?) b → ¬ G' b) :
    Sat (pull σ ρ) (fun j => L'[j]?) G' w ∧ Emb (idx σ) ρ (fun i => L[i]?) (Hot ρ (fun i => L[i]?) G) (pull σ ρ) (fun j => L'[j]?) (Hot (pull σ ρ) (fun j => L'[j]?) G') := by
  have hpull : ∀ {j id : Nat}, σ[j]? = some id → pull σ ρ j = ρ id := fun h1 => by simp [pull, List.getD, h1]
  have E : Emb (idx σ) ρ (fun i => L[i]?) (Hot ρ (fun i => L[i]?) G) (pull σ ρ) (fun j => L'[j]?) (Hot (pull σ ρ) (fun j => L'[j]?) G') := by
    refine ⟨fun i j hij => ?_, fun b hb => ?_⟩
    · have h1 := idx_spec hij
      refine ⟨hpull h1, fun o ho => ?_⟩
      obtain ⟨o1, o', h2, h3, h4⟩ := viewH_of hv h1
      rw [show L[i]? = some o from ho] at h2
      simp only [Option.some.injEq] at h2
      subst h2
      exact ⟨o', h4, (rnO_alive h3).2⟩
    · rcases hb with hb | hb
      · obtain ⟨j, id, o, h1, h2, h3, h4⟩ := view_own hv hb
        exact .inl ⟨id, o, h2, h3, h4⟩
      · exact hG b hb
  refine ⟨⟨fun j o' ho' => ?_, fun i j oi oj b hi hj ai aj bi bj => ?_, hap, fun b hb => hot_lt hs (hG b hb)⟩, E⟩
  · obtain ⟨id, o, h1, h2, h3⟩ := viewH_get hv ho'
    rw [hpull h1]
    exact rnO_sat E h3 (hs.obj id o h2)
  · obtain ⟨id, o, h1, h2, h3⟩ := viewH_get hv hi
    obtain ⟨id', o', h1', h2', h3'⟩ := viewH_get hv hj
    rw [hpull h1] at bi
    rw [hpull h1'] at bj
    have := hs.inj id id' o o' b h2 h2' (by rw [← (rnO_alive h3).1]; exact ai) (by rw [← (rnO_alive h3').1]; exact aj) bi bj
    subst this
    have hi' := List.getElem?_eq_some_iff.1 h1
    have hj' := List.getElem?_eq_some_iff.1 h1'
    obtain ⟨hi1, hi2⟩ := hi'
    obtain ⟨hj1, hj2⟩ := hj'
    exact (List.getElem_inj hn).1 (hi2.trans hj2.symm)

theorem view_step {σ : List Nat} {L L' : List AObj} {ρ0 : Nat → Value} {H0 : AHeap} {O0 : Nat → Prop} {w0 : World} {m : Nat} (hs : Sat ρ (fun i => L[i]?) G w) (hn : σ.Nodup) (hv : viewH σ L = some L') (hfix : ∀ i, i < m → σ[i]? = some i) (h0 : ∀ id, m ≤ id → H0 id = none)
    (st : Step ρ0 H0 O0 w0 ρ (fun i => L[i]?) (Hot ρ (fun i => L[i]?) G) w) : Step ρ0 H0 O0 w0 (pull σ ρ) (fun j => L'[j]?) (Hot (pull σ ρ) (fun j => L'[j]?) G) w := by
  have E := (view_core (G' := G) hs hn hv (fun b hb => .inr hb) (fun b hb => by
    obtain ⟨j, id, o, h1, h2, h3, h4⟩ := view_own hv hb
    exact hs.apart b ⟨id, o, h2, h3, h4⟩)).2
  have hlt : ∀ {id : Nat} {o : AObj}, H0 id = some o → id < m := fun {id o} h => by
    rcases Nat.lt_or_ge id m with h1 | h1
    · exact h1
    · rw [h0 id h1] at h; cases h
  refine ⟨fun id o ho => ?_, fun id o ho => ?_, fun b hb => st.hot b (E.hot b hb), st.heap, st.size⟩
  · rw [show pull σ ρ id = ρ id from by simp [pull, List.getD, hfix id (hlt ho)]]
    exact st.rho id o ho
  · obtain ⟨o1, h1, h2⟩ := st.keep id o ho
    obtain ⟨o2, o', h3, h4, h5⟩ := viewH_of hv (hfix id (hlt ho))
    rw [show L[id]? = some o1 from h1] at h3
    simp only [Option.some.injEq] at h3
    subst h3
    exact ⟨o', h5, fun c e hc => h2 c e ((rnO_alive h4).2 c e hc)⟩

theorem Good.view {σ : List Nat} {L L' : List AObj} {m d : Nat} {r r' : AV} {v : Value} (h : Good ρ H G w (fun i => L[i]?) r v w') (hn : σ.Nodup) (hv : viewH σ L = some L') (hfix : ∀ i, i < m → σ[i]? = some i) (h0 : ∀ id, m ≤ id → H id = none) (hr : rn (idx σ) d r = some r') :
    Good ρ H G w (fun i => L'[i]?) r' v w' := by
  obtain ⟨ρ', h1, h2, h3, h4⟩ := h
  obtain ⟨h5, h6⟩ := view_core (G' := G) h1 hn hv (fun b hb => .inr hb) (fun b hb => by
    obtain ⟨j, id, o, h1', h2, h3, h4⟩ := view_own hv hb
    exact h1.apart b ⟨id, o, h2, h3, h4⟩)
  exact ⟨pull σ ρ', h5, (rn_den h6 d).1 r r' v hr h2, view_step h1 hn hv hfix h0 h3, h4⟩

theorem Rep.view {σ : List Nat} {tmps tmps' : List AV} {L L' : List AObj} {m d : Nat} (h : Rep X ρ ⟨tmps, L⟩ a w) (hn : σ.Nodup) (hv : viewH σ L = some L') (hfix : ∀ i, i < m → σ[i]? = some i) (h0 : ∀ id, m ≤ id → X.H id = none) (ht : allM (rn (idx σ) d) tmps = some tmps') :
    Rep X (pull σ ρ) ⟨tmps', L'⟩ a w := by
  have hs : Sat ρ (fun i => L[i]?) X.G w := h.sat
  obtain ⟨h5, h6⟩ := view_core (G' := X.G) hs hn hv (fun b hb => .inr hb) (fun b hb => by
    obtain ⟨j, id, o, h1', h2, h3, h4⟩ := view_own hv hb
    exact hs.apart b ⟨id, o, h2, h3, h4⟩)
  refine ⟨h5, by rw [← h.size]; exact allM_length ht, fun t => ?_, h.defers, view_step hs hn hv hfix h0 h.from_, h.frm⟩
  have hd := h.den t
  simp only [] at hd ⊢
  rcases Nat.lt_or_ge t tmps.length with hlt | hge
  · obtain ⟨b, h1, h2⟩ := allM_get ht t tmps[t] (List.getElem?_eq_getElem hlt)
    have e1 : tmps.getD t (.s .junk) = tmps[t] := by simp [List.getD, hlt]
    have e2 : tmps'.getD t (.s .junk) = b := by simp [List.getD, h2]
    rw [e1] at hd
    rw [e2]
    exact (rn_den h6 d).1 _ _ _ h1 hd
  · have e2 : tmps'.getD t (.s .junk) = .s .junk := by
      have := allM_length ht
      simp [List.getD, List.getElem?_eq_none (show tmps'.length ≤ t by omega)]
    rw [e2]
    unfold DenV
    trivial

/-! ### less -/
def keepOnly (ks : List Nat) : Nat → List AV → List AV
  | _, [] => []
  | i, a :: as => (bif ks.any (i.beq ·) then a else .s .junk) :: keepOnly ks (i + 1) as

theorem keepOnly_length (ks : List Nat) : ∀ (i : Nat) (as : List AV), (keepOnly ks i as).length = as.length
  | _, [] => rfl
  | i, a :: as => by simp [keepOnly, keepOnly_length ks (i + 1) as]

theorem keepOnly_get (ks : List Nat) : ∀ (i : Nat) (as : List AV) (t : Nat), (keepOnly ks i as).getD t (.s .junk) = as.getD t (.s .junk) ∨ (keepOnly ks i as).getD t (.s .junk) = .s .junk
  | _, [], t => .inl rfl
  | i, a :: as, 0 => by
    simp only [keepOnly, List.getD_cons_zero]
    cases ks.any (i.beq ·)
    · exact .inr rfl
    · exact .inl rfl
  | i, a :: as, t + 1 => by
    simp only [keepOnly, List.getD_cons_succ]
    exact keepOnly_get ks (i + 1) as t

theorem Rep.keepOnly {tmps : List AV} {L : List AObj} (ks : List Nat) (h : Rep X ρ ⟨tmps, L⟩ a w) : Rep X ρ ⟨keepOnly ks 0 tmps, L⟩ a w := by
  refine ⟨h.sat, by rw [← h.size]; exact keepOnly_length ks 0 tmps, fun t => ?_, h.defers, h.from_, h.frm⟩
  rcases keepOnly_get ks 0 tmps t with h1 | h1
  · simp only []; rw [h1]; exact h.den t
  · simp only []; rw [h1]; unfold DenV; trivial

/-! ### a nil slice, seen as a row of none -/
def nilSlot (c : Con) (e : TypeId) (t : Nat) (tmps : List AV) (L : List AObj) : List AV × List AObj :=
  match tmps.getD t (.s .junk) with
  | .emp => bif c.n.beq 0 then (tmps.set t (.vec L.length), L ++ [.vec c e]) else (tmps, L)
  | _ => (tmps, L)

theorem Step.alloc {v : Value} {c : Con} {e : TypeId} {L : List AObj} (hb : blk v = none) :
    Step ρ (fun i => L[i]?) (Hot ρ (fun i => L[i]?) G) w (fun j => if j = L.length then v else ρ j) (fun i => (L ++ [AObj.vec c e])[i]?) (Hot (fun j => if j = L.length then v else ρ j) (fun i => (L ++ [AObj.vec c e])[i]?) G) w := by
  have hlt : ∀ {id : Nat} {o : AObj}, L[id]? = some o → id < L.length := fun h => (List.getElem?_eq_some_iff.1 h).1
  refine ⟨fun id o ho => ?_, fun id o ho => ?_, fun b hb' => .inl ?_, fun _ _ _ => rfl, Nat.le_refl _⟩
  · have := hlt ho
    rw [if_neg (by omega)]
  · have h1 := hlt ho
    exact ⟨o, by show (L ++ [AObj.vec c e])[id]? = _; rw [List.getElem?_append_left h1]; exact ho, fun c' e' hc => ⟨c', e', hc, rfl, rfl⟩⟩
  · rcases hb' with ⟨id, o, ho, ha, hbl⟩ | hg
    · by_cases hid : id = L.length
      · simp only [hid, if_true] at hbl
        rw [hb] at hbl; cases hbl
      · simp only [hid, if_false] at hbl
        have ho' : L[id]? = some o := by
          have h2 := (List.getElem?_eq_some_iff.1 ho).1
          simp only [List.length_append, List.length_cons, List.length_nil] at h2
          have h3 : id < L.length := by omega
          have h4 : (L ++ [AObj.vec c e])[id]? = L[id]? := List.getElem?_append_left h3
          rw [← h4]; exact ho
        exact .inl ⟨id, o, ho', ha, hbl⟩
    · exact .inr hg

theorem Rep.nilSlot {c : Con} {e : TypeId} {t : Nat} {tmps : List AV} {L : List AObj} (h : Rep X ρ ⟨tmps, L⟩ a w) : ∃ ρ', Rep X ρ' ⟨(nilSlot c e t tmps L).1, (nilSlot c e t tmps L).2⟩ a w := by
  unfold Sx.nilSlot
  split
  · rename_i he
    rw [Bool.cond_eq_ite]
    split
    · rename_i hc
      have hc : c.n = 0 := Nat.eq_of_beq_eq_true hc
      have hd := h.den t
      simp only [] at hd
      rw [he] at hd
      unfold DenV at hd
      obtain ⟨r, hv⟩ := hd
      have hbk : blk (.slice r 0 0) = none := by cases r <;> simp [blk]
      let ρ' : Nat → Value := fun j => if j = L.length then .slice r 0 0 else ρ j
      have st : Step ρ (fun i => L[i]?) (Hot ρ (fun i => L[i]?) X.G) w ρ' (fun i => (L ++ [AObj.vec c e])[i]?) (Hot ρ' (fun i => (L ++ [AObj.vec c e])[i]?) X.G) w := Step.alloc hbk
      have hs : Sat ρ (fun i => L[i]?) X.G w := h.sat
      have old : ∀ {id : Nat} {o : AObj}, (L ++ [AObj.vec c e])[id]? = some o → (id = L.length ∧ o = .vec c e) ∨ (id ≠ L.length ∧ L[id]? = some o) := by
        intro id o ho
        have h2 := (List.getElem?_eq_some_iff.1 ho).1
        simp only [List.length_append, List.length_cons, List.length_nil] at h2
        by_cases hid : id = L.length
        · subst hid
          simp at ho
          exact .inl ⟨rfl, ho.symm⟩
        · refine .inr ⟨hid, ?_⟩
          rwa [List.getElem?_append_left (by omega)] at ho
      have hown : ∀ b, Own ρ' (fun i => (L ++ [AObj.vec c e])[i]?) b → Own ρ (fun i => L[i]?) b := by
        rintro b ⟨id, o, ho, ha, hb⟩
        rcases old ho with ⟨h1, h2⟩ | ⟨h1, h2⟩
        · simp only [ρ', h1, if_true] at hb
          rw [hbk] at hb; cases hb
        · simp only [ρ', h1, if_false] at hb
          exact ⟨id, o, h2, ha, hb⟩
      refine ⟨ρ', ⟨⟨fun id o ho => ?_, fun i j oi oj b hi hj ai aj bi bj => ?_, fun b hb => hs.apart b (hown b hb), hs.low⟩, by simpa using h.size, fun u => ?_, h.defers, ?_, h.frm⟩⟩
      · rcases old ho with ⟨h1, h2⟩ | ⟨h1, h2⟩
        · subst h2
          simp only [ρ', h1, if_true]
          exact ⟨r, 0, by rw [hc], by omega, Nat.zero_le _, .inl rfl⟩
        · simp only [ρ', h1, if_false]
          exact (hs.obj id o h2).step st (fun _ _ _ => rfl)
      · rcases old hi with ⟨h1, h2⟩ | ⟨h1, h2⟩
        · simp only [ρ', h1, if_true] at bi
          rw [hbk] at bi; cases bi
        · rcases old hj with ⟨h3, h4⟩ | ⟨h3, h4⟩
          · simp only [ρ', h3, if_true] at bj
            rw [hbk] at bj; cases bj
          · simp only [ρ', h1, if_false] at bi
            simp only [ρ', h3, if_false] at bj
            exact hs.inj i j oi oj b h2 h4 ai aj bi bj
      · simp only []
        rw [getD_set_list]
        split
        · rename_i hu
          obtain ⟨rfl, _⟩ := hu
          rw [hv]
          unfold DenV Den1
          refine ⟨rfl, .vec c e, by simp [St.look], fun c' e' _ => ?_⟩
          exact (if_pos rfl).symm
        · exact DenV.step st _ _ (h.den u)
      · exact h.from_.trans st
    · exact ⟨ρ, h⟩
  · exact ⟨ρ, h⟩

/-! ### a loop's head, made alike -/
def idsOf : Nat → AV → List Nat
  | 0, _ => []
  | d + 1, a => match a with
    | .ptr id _ | .ptrx id _ _ _ | .vec id | .vptr id _ _ | .part id _ _ | .mapv id => [id]
    | .agg as | .tup as | .fn _ as => as.flatMap (idsOf d)
    | _ => []

def objIds : Option AObj → List Nat
  | some (.own segs _) => segs.flatMap (idsOf 20)
  | _ => []

def reach (L : List AObj) : Nat → List Nat → List Nat → List Nat
  | 0, _, acc => acc
  | _, [], acc => acc
  | n + 1, id :: todo, acc => bif acc.any (id.beq ·) then reach L n todo acc else reach L n (todo ++ objIds L[id]?) (acc ++ [id])

def fixB (m : Nat) (σ : List Nat) : Bool := (List.range m).all fun i => match σ[i]? with | some j => i.beq j | none => false

/-- How a loop's head is made alike: which slots are kept, which are rows though nil, how many objects the call was handed. -/
structure Norm where
  nils : List (Nat × Con × TypeId)
  keep : List Nat
  m : Nat
  cells : List (Nat × Nat × Bool × Con × TypeId)

def nilSlots : List (Nat × Con × TypeId) → List AV → List AObj → List AV × List AObj
  | [], tmps, L => (tmps, L)
  | (t, c, e) :: ns, tmps, L => let p := nilSlot c e t tmps L; nilSlots ns p.1 p.2

/-- A nil slice in an own object's cell. -/
def nilCell (id j : Nat) (c : Con) (e : TypeId) (L : List AObj) : List AObj :=
  match L[id]? with
  | some (.own segs e0) => (match segs[j]? with
    | some .emp => bif c.n.beq 0 then L.set id (.own (segs.set j (.vec L.length)) e0) ++ [.vec c e] else L
    | _ => L)
  | _ => L

/-- The same, seen as a row of none that stands still. -/
def roCell (id j : Nat) (c : Con) (L : List AObj) : List AObj :=
  match L[id]? with
  | some (.own segs e0) => (match segs[j]? with
    | some .emp => bif c.n.beq 0 then L.set id (.own (segs.set j (.s (.ro c))) e0) else L
    | _ => L)
  | _ => L

def nilCells : List (Nat × Nat × Bool × Con × TypeId) → List AObj → List AObj
  | [], L => L
  | (id, j, ro, c, e) :: ns, L => nilCells ns (bif ro then roCell id j c L else nilCell id j c e L)

def roots (L : List AObj) (m : Nat) (tmps : List AV) : List Nat :=
  reach L 4000 ((List.range m).flatMap (fun i => objIds L[i]?) ++ tmps.flatMap (idsOf 20)) (List.range m)

def compact (m : Nat) (tmps : List AV) (L : List AObj) : Option (List AV × List AObj) :=
  let σ := roots L m tmps
  bif nodupB σ && fixB m σ then
    match viewH σ L, allM (rn (idx σ) 20) tmps with
    | some L', some tmps' => some (tmps', L')
    | _, _ => none
  else none

def Norm.run (N : Norm) (c : Cfg) : Option Cfg :=
  match compact N.m (keepOnly N.keep 0 c.tmps) c.H with
  | some (t1, L1) =>
    let p := nilSlots N.nils t1 L1
    (match compact N.m p.1 (nilCells N.cells p.2) with
    | some (t2, L2) => some ⟨t2, L2, c.todo⟩
    | none => none)
  | none => none

theorem segs_nil : ∀ (segs : List AV) (j : Nat) {cells : List Value}, segs[j]? = some .emp → DenSegs ρ H O w segs cells →
    ∃ r, ∀ (ρ' : Nat → Value) (H' : AHeap) (O' : Nat → Prop) (x : AV), (∀ a cs, DenC ρ H O w a cs → DenC ρ' H' O' w a cs) → DenC ρ' H' O' w x [.slice r 0 0] → DenSegs ρ' H' O' w (segs.set j x) cells
  | [], j, cells, h, hd => by simp at h
  | a :: as, 0, cells, h, hd => by
    simp only [List.getElem?_cons_zero, Option.some.injEq] at h
    subst h
    obtain ⟨c1, c2, rfl, h1, h2⟩ := DenSegs_cons.1 hd
    unfold DenC at h1
    obtain ⟨u, rfl, r, rfl⟩ := h1
    refine ⟨r, fun ρ' H' O' x hs hx => ?_⟩
    simp only [List.set_cons_zero]
    refine DenSegs_cons.2 ⟨_, c2, rfl, hx, ?_⟩
    clear hd
    induction as generalizing c2 with
    | nil => rw [DenSegs_nil.1 h2]; exact DenSegs_nil.2 rfl
    | cons b bs ih =>
      obtain ⟨d1, d2, rfl, h3, h4⟩ := DenSegs_cons.1 h2
      exact DenSegs_cons.2 ⟨d1, d2, rfl, hs _ _ h3, ih d2 h4⟩
  | a :: as, j + 1, cells, h, hd => by
    obtain ⟨c1, c2, rfl, h1, h2⟩ := DenSegs_cons.1 hd
    obtain ⟨r, h3⟩ := segs_nil as j (by simpa using h) h2
    refine ⟨r, fun ρ' H' O' x hs hx => ?_⟩
    simp only [List.set_cons_succ]
    exact DenSegs_cons.2 ⟨c1, c2, rfl, hs _ _ h1, h3 ρ' H' O' x hs hx⟩

theorem Rep.nilCell {id j : Nat} {c : Con} {e : TypeId} {tmps : List AV} {L : List AObj} (h : Rep X ρ ⟨tmps, L⟩ a w) : ∃ ρ', Rep X ρ' ⟨tmps, nilCell id j c e L⟩ a w := by
  unfold Sx.nilCell
  split
  · rename_i segs e0 hid
    split
    · rename_i hj
      rw [Bool.cond_eq_ite]
      split
      · rename_i hc
        have hc : c.n = 0 := Nat.eq_of_beq_eq_true hc
        have hs : Sat ρ (fun i => L[i]?) X.G w := h.sat
        obtain ⟨b, cells, fr, h0, h1, h2, h3⟩ := hs.obj id _ hid
        obtain ⟨r, hset⟩ := segs_nil segs j hj h3
        have hbk : blk (.slice r 0 0) = none := by cases r <;> simp [blk]
        have hlt : id < L.length := (List.getElem?_eq_some_iff.1 hid).1
        let ρ' : Nat → Value := fun k => if k = L.length then .slice r 0 0 else ρ k
        let L' := L.set id (.own (segs.set j (.vec L.length)) e0) ++ [AObj.vec c e]
        have old : ∀ {k : Nat} {o : AObj}, L'[k]? = some o → (k = L.length ∧ o = .vec c e) ∨ (k = id ∧ k ≠ L.length ∧ o = .own (segs.set j (.vec L.length)) e0) ∨ (k ≠ L.length ∧ k ≠ id ∧ L[k]? = some o) := by
          intro k o ho
          have h2 := (List.getElem?_eq_some_iff.1 ho).1
          simp only [L', List.length_append, List.length_set, List.length_cons, List.length_nil] at h2
          by_cases hk : k = L.length
          · subst hk
            simp only [L'] at ho
            rw [List.getElem?_append_right (by simp)] at ho
            simp at ho
            exact .inl ⟨rfl, ho.symm⟩
          · simp only [L'] at ho
            rw [List.getElem?_append_left (by simp; omega), List.getElem?_set] at ho
            split at ho
            · rename_i hki
              exact .inr (.inl ⟨hki.symm, hk, by simpa using ho.symm⟩)
            · rename_i hki
              exact .inr (.inr ⟨hk, Ne.symm hki, ho⟩)
        have new : ∀ {k : Nat} {o : AObj}, L[k]? = some o → ∃ o', L'[k]? = some o' ∧ (∀ c' e', o' = .vec c' e' → o = .vec c' e') := by
          intro k o ho
          have hk : k < L.length := (List.getElem?_eq_some_iff.1 ho).1
          by_cases hki : k = id
          · subst hki
            refine ⟨.own (segs.set j (.vec L.length)) e0, ?_, fun c' e' hc => by cases hc⟩
            simp only [L']
            rw [List.getElem?_append_left (by simpa using hk), List.getElem?_set_self hk]
          · refine ⟨o, ?_, fun c' e' hc => hc⟩
            simp only [L']
            rw [List.getElem?_append_left (by simpa using hk), List.getElem?_set_ne (Ne.symm hki)]
            exact ho
        have hown : ∀ b, Own ρ' (fun i => L'[i]?) b → Own ρ (fun i => L[i]?) b := by
          rintro b ⟨k, o, ho, ha, hb⟩
          rcases old ho with ⟨h1, h2⟩ | ⟨h1, h2, h3⟩ | ⟨h1, h2, h3⟩
          · simp only [ρ', h1, if_true] at hb
            rw [hbk] at hb; cases hb
          · simp only [ρ', h2, if_false] at hb
            exact ⟨id, _, hid, rfl, h1 ▸ hb⟩
          · simp only [ρ', h1, if_false] at hb
            exact ⟨k, o, h3, ha, hb⟩
        have st : Step ρ (fun i => L[i]?) (Hot ρ (fun i => L[i]?) X.G) w ρ' (fun i => L'[i]?) (Hot ρ' (fun i => L'[i]?) X.G) w := by
          refine ⟨fun k o ho => ?_, fun k o ho => ?_, fun b hb => .inl ?_, fun _ _ _ => rfl, Nat.le_refl _⟩
          · have hk : k < L.length := (List.getElem?_eq_some_iff.1 ho).1
            simp only [ρ']; rw [if_neg (by omega)]
          · obtain ⟨o', h4, h5⟩ := new ho
            exact ⟨o', h4, fun c' e' hc => ⟨c', e', h5 c' e' hc, rfl, rfl⟩⟩
          · rcases hb with hb | hb
            · exact .inl (hown b hb)
            · exact .inr hb
        have hnew : Den1 ρ' (fun i => L'[i]?) (Hot ρ' (fun i => L'[i]?) X.G) w (.vec L.length) (.slice r 0 0) := by
          unfold Den1
          refine ⟨rfl, .vec c e, ?_, fun c' e' _ => (if_pos rfl).symm⟩
          simp only [L']
          rw [List.getElem?_append_right (by simp)]
          simp
        refine ⟨ρ', ⟨⟨fun k o ho => ?_, fun i l oi ol b hi hl ai al bi bl => ?_, fun b hb => hs.apart b (hown b hb), hs.low⟩, h.size, fun u => DenV.step st _ _ (h.den u), h.defers, h.from_.trans st, h.frm⟩⟩
        · rcases old ho with ⟨g1, g2⟩ | ⟨g1, g2, g3⟩ | ⟨g1, g2, g3⟩
          · subst g2
            simp only [ρ', g1, if_true]
            exact ⟨r, 0, by rw [hc], by omega, Nat.zero_le _, .inl rfl⟩
          · subst g3
            simp only [ρ', g2, if_false]
            rw [g1, h0]
            exact ⟨b, cells, fr, rfl, h1, h2, hset ρ' _ _ _ (fun a cs hd => DenC.step st a cs hd) (by unfold DenC; exact ⟨_, rfl, hnew⟩)⟩
          · simp only [ρ', g1, if_false]
            exact (hs.obj k o g3).step st (fun _ _ _ => rfl)
        · have low : ∀ {k : Nat} {o : AObj}, L'[k]? = some o → o.alive = true → blk (ρ' k) = some b → ∃ o2, L[k]? = some o2 ∧ o2.alive = true ∧ blk (ρ k) = some b := by
            intro k o ho ha hb
            rcases old ho with ⟨g1, g2⟩ | ⟨g1, g2, g3⟩ | ⟨g1, g2, g3⟩
            · simp only [ρ', g1, if_true] at hb
              rw [hbk] at hb; cases hb
            · simp only [ρ', g2, if_false] at hb
              exact ⟨_, g1 ▸ hid, rfl, hb⟩
            · simp only [ρ', g1, if_false] at hb
              exact ⟨o, g3, ha, hb⟩
          obtain ⟨o1, q1, q2, q3⟩ := low hi ai bi
          obtain ⟨o2, q4, q5, q6⟩ := low hl al bl
          exact hs.inj i l o1 o2 b q1 q4 q2 q5 q3 q6
      · exact ⟨ρ, h⟩
    · exact ⟨ρ, h⟩
  · exact ⟨ρ, h⟩

theorem emp_ro' {c : Con} (hc : c.n = 0) (r : Option Addr) : DenS O w (.ro c) (.slice r 0 0) := by
  have := DenS.ro (O := O) (w := w) c r 0 (fun _ _ => undef) 0 0 (by omega) (Nat.zero_le _) (fun h => by omega) (fun i j hi hj => by omega) (fun i j hi hj => by omega)
  rwa [hc] at this

theorem Rep.roCell {id j : Nat} {c : Con} {tmps : List AV} {L : List AObj} (h : Rep X ρ ⟨tmps, L⟩ a w) : Rep X ρ ⟨tmps, roCell id j c L⟩ a w := by
  unfold Sx.roCell
  split
  · rename_i segs e0 hid
    split
    · rename_i hj
      rw [Bool.cond_eq_ite]
      split
      · rename_i hc
        have hc : c.n = 0 := Nat.eq_of_beq_eq_true hc
        have hs : Sat ρ (fun i => L[i]?) X.G w := h.sat
        obtain ⟨b, cells, fr, h0, h1, h2, h3⟩ := hs.obj id _ hid
        obtain ⟨r, hset⟩ := segs_nil segs j hj h3
        have hlt : id < L.length := (List.getElem?_eq_some_iff.1 hid).1
        let L' := L.set id (.own (segs.set j (.s (.ro c))) e0)
        have old : ∀ {k : Nat} {o : AObj}, L'[k]? = some o → (k = id ∧ o = .own (segs.set j (.s (.ro c))) e0) ∨ (k ≠ id ∧ L[k]? = some o) := by
          intro k o ho
          simp only [L'] at ho
          rw [List.getElem?_set] at ho
          split at ho
          · rename_i hki
            exact .inl ⟨hki.symm, by simpa using ho.symm⟩
          · rename_i hki
            exact .inr ⟨Ne.symm hki, ho⟩
        have hown : ∀ b, Own ρ (fun i => L'[i]?) b → Own ρ (fun i => L[i]?) b := by
          rintro b ⟨k, o, ho, ha, hb⟩
          rcases old ho with ⟨h1, h2⟩ | ⟨h1, h2⟩
          · exact ⟨id, _, hid, rfl, h1 ▸ hb⟩
          · exact ⟨k, o, h2, ha, hb⟩
        have st : Step ρ (fun i => L[i]?) (Hot ρ (fun i => L[i]?) X.G) w ρ (fun i => L'[i]?) (Hot ρ (fun i => L'[i]?) X.G) w := by
          refine ⟨fun _ _ _ => rfl, fun k o ho => ?_, fun b hb => .inl ?_, fun _ _ _ => rfl, Nat.le_refl _⟩
          · by_cases hk : k = id
            · subst hk
              refine ⟨.own (segs.set j (.s (.ro c))) e0, ?_, fun c' e' hc => ?_⟩
              · show (L.set k _)[k]? = _
                rw [List.getElem?_set_self hlt]
              · cases hc
            · refine ⟨o, ?_, fun c' e' hc => ⟨c', e', hc, rfl, rfl⟩⟩
              show (L.set id _)[k]? = _
              rw [List.getElem?_set_ne (Ne.symm hk)]
              exact ho
          · rcases hb with hb | hb
            · exact .inl (hown b hb)
            · exact .inr hb
        refine ⟨⟨fun k o ho => ?_, fun i l oi ol b hi hl ai al bi bl => ?_, fun b hb => hs.apart b (hown b hb), hs.low⟩, h.size, fun u => DenV.step st _ _ (h.den u), h.defers, h.from_.trans st, h.frm⟩
        · rcases old ho with ⟨g1, g2⟩ | ⟨g1, g2⟩
          · subst g2
            rw [g1, h0]
            exact ⟨b, cells, fr, rfl, h1, h2, hset ρ _ _ _ (fun a cs hd => DenC.step st a cs hd) (by unfold DenC; exact ⟨_, rfl, emp_ro' hc r⟩)⟩
          · exact (hs.obj k o g2).step st (fun _ _ _ => rfl)
        · have low : ∀ {k : Nat} {o : AObj}, L'[k]? = some o → o.alive = true → ∃ o2, L[k]? = some o2 ∧ o2.alive = true := by
            intro k o ho ha
            rcases old ho with ⟨g1, g2⟩ | ⟨g1, g2⟩
            · exact ⟨_, g1 ▸ hid, rfl⟩
            · exact ⟨o, g2, ha⟩
          obtain ⟨o1, q1, q2⟩ := low hi ai
          obtain ⟨o2, q4, q5⟩ := low hl al
          exact hs.inj i l o1 o2 b q1 q4 q2 q5 bi bl
      · exact h
    · exact h
  · exact h

theorem Rep.nilCells : ∀ (ns : List (Nat × Nat × Bool × Con × TypeId)) {ρ : Nat → Value} {tmps : List AV} {L : List AObj}, Rep X ρ ⟨tmps, L⟩ a w → ∃ ρ', Rep X ρ' ⟨tmps, nilCells ns L⟩ a w
  | [], ρ, tmps, L, h => ⟨ρ, h⟩
  | (id, j, ro, c, e) :: ns, ρ, tmps, L, h => by
    cases ro
    · obtain ⟨ρ', h'⟩ := h.nilCell (c := c) (e := e) (id := id) (j := j)
      exact Rep.nilCells ns h'
    · exact Rep.nilCells ns (h.roCell (c := c) (id := id) (j := j))

theorem Rep.nilSlots : ∀ (ns : List (Nat × Con × TypeId)) {ρ : Nat → Value} {tmps : List AV} {L : List AObj}, Rep X ρ ⟨tmps, L⟩ a w → ∃ ρ', Rep X ρ' ⟨(nilSlots ns tmps L).1, (nilSlots ns tmps L).2⟩ a w
  | [], ρ, tmps, L, h => ⟨ρ, h⟩
  | (t, c, e) :: ns, ρ, tmps, L, h => by
    obtain ⟨ρ', h'⟩ := h.nilSlot (c := c) (e := e) (t := t)
    exact Rep.nilSlots ns h'

theorem fixB_spec {m : Nat} {σ : List Nat} (h : fixB m σ = true) : ∀ i, i < m → σ[i]? = some i := by
  intro i hi
  simp only [fixB, List.all_eq_true, List.mem_range] at h
  have := h i hi
  split at this
  · rename_i j hj
    rw [hj, Nat.eq_of_beq_eq_true this]
  · cases this

theorem Rep.compact {m : Nat} {tmps t1 : List AV} {L L1 : List AObj} (h0 : ∀ id, m ≤ id → X.H id = none) (h : compact m tmps L = some (t1, L1)) (hr : Rep X ρ ⟨tmps, L⟩ a w) : ∃ ρ', Rep X ρ' ⟨t1, L1⟩ a w := by
  unfold Sx.compact at h
  simp only [Bool.cond_eq_ite] at h
  split at h
  · rename_i hb
    simp only [Bool.and_eq_true] at hb
    split at h
    · rename_i L' tmps' hL ht
      simp only [Option.some.injEq, Prod.mk.injEq] at h
      obtain ⟨rfl, rfl⟩ := h
      exact ⟨_, hr.view (nodupB_spec hb.1) hL (fixB_spec hb.2) h0 ht⟩
    · cases h
  · cases h

theorem Norm.safe {N : Norm} {f : FuncId} {c c' : Cfg} (h0 : ∀ id, N.m ≤ id → X.H id = none) (h : N.run c = some c') (hs : Safe P f X K c') : Safe P f X K c := by
  intro ρ a w hr
  unfold Norm.run at h
  split at h
  · rename_i t1 L1 h1
    simp only [] at h
    split at h
    · rename_i t2 L2 h2
      simp only [Option.some.injEq] at h
      subst h
      obtain ⟨ρ1, r1⟩ := Rep.compact h0 h1 (Rep.keepOnly N.keep hr)
      obtain ⟨ρ2, r2⟩ := Rep.nilSlots N.nils r1
      obtain ⟨ρ3, r3⟩ := Rep.nilCells N.cells r2
      obtain ⟨ρ4, r4⟩ := Rep.compact h0 h2 r3
      exact hs _ a w r4
    · cases h
  · cases h
end
end Go.Sx
