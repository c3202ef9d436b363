import Derived.Test.YtjmdfmafnenjnaaSxKind
/-! Abstract values and what they stand for. -/
namespace Go.Sx
open Go

mutual
/-- A value of one cell that bears no name of an own object. -/
inductive SV where
  | junk
  | bool (b : Bool)
  | blit (b : Bool)
  | anyb (n : Nat) (eq : Bool)
  | int (k : IntKind) (n : Int)
  | ilit (k : IntKind) (n : Int)
  | str (s : ByteArray)
  | nilp
  | nili
  | nilf
  | nilm
  | nils
  | fn0 (f : FuncId)
  | ro (c : Con)
/-- What a row of elements holds. -/
inductive Con where
  | ints (k : IntKind) (zs : List Int)
  | strs (ss : List ByteArray)
  | bools (bs : List Bool)
  | typ (cs : List CK) (xs : List (CL cs))
  | recs (size n : Nat) (get : Nat → Nat → SV)
end

def Con.n : Con → Nat
  | .ints _ zs => zs.length
  | .strs ss => ss.length
  | .bools bs => bs.length
  | .typ _ xs => xs.length
  | .recs _ n _ => n

def Con.size : Con → Nat
  | .ints .. | .strs _ | .bools _ => 1
  | .typ cs _ => CL.wide cs
  | .recs s _ _ => s

def CK.cell : (c : CK) → c.V → Nat → SV
  | .int k, x, _ => .int k x
  | .bool, x, _ => .bool x
  | .str, x, _ => .str x
  | .ints k, x, _ => .ro (.ints k x)
  | .strs, x, _ => .ro (.strs x)
  | .bools, x, _ => .ro (.bools x)
  | .rows cs, x, _ => .ro (.typ cs x)
  | .arr k _, x, j => .int k (List.getD (α := Int) x j 0)

def CL.cell : (cs : List CK) → CL cs → Nat → SV
  | [], _, _ => .junk
  | c :: cs, x, j => bif j.blt c.wide then c.cell x.1 j else CL.cell cs x.2 (j - c.wide)

def Con.cell : Con → Nat → Nat → SV
  | .ints k zs, i, _ => .int k (zs.getD i 0)
  | .strs ss, i, _ => .str (ss.getD i ByteArray.empty)
  | .bools bs, i, _ => .bool (bs.getD i false)
  | .typ cs xs, i, j => CL.cell cs (xs.getD i (CL.d cs)) j
  | .recs _ _ get, i, j => get i j

inductive AV where
  | s (v : SV)
  | ptr (id off : Nat)
  | ptrx (id off n i : Nat)
  | eptr (c : Con) (i j : Nat)
  | vec (id : Nat)
  | vptr (id i j : Nat)
  | part (id lo n : Nat)
  | emp
  | agg (segs : List AV)
  | ints (k : IntKind) (n : Nat) (ws : List Int)
  | tup (vs : List AV)
  | fn (f : FuncId) (caps : List AV)
  | mapv (id : Nat)

inductive AObj where
  | own (segs : List AV) (elem : TypeId)
  | vec (c : Con) (elem : TypeId)
  | map (ck : CK) (m : List (Int × ck.V))
  | dead

abbrev AHeap := Nat → Option AObj

def AObj.alive : AObj → Bool
  | .dead => false
  | _ => true

/-- The block of an own object's root. -/
def blk : Value → Option Nat
  | .pointer (some a) => some a.block
  | .slice (some a) _ cap => if cap = 0 then none else some a.block
  | .map (some b) => some b
  | _ => none

def Own (ρ : Nat → Value) (H : AHeap) (b : Nat) : Prop := ∃ id o, H id = some o ∧ o.alive = true ∧ blk (ρ id) = some b

/-- What may not be read as standing still: what is own, here or further out. -/
def Hot (ρ : Nat → Value) (H : AHeap) (G : Nat → Prop) (b : Nat) : Prop := Own ρ H b ∨ G b

inductive DenS (O : Nat → Prop) (w : World) : SV → Value → Prop
  | junk (v : Value) : v.oneCell' = true → DenS O w .junk v
  | bool (b : Bool) : DenS O w (.bool b) (.bool b)
  | blit (b : Bool) : DenS O w (.blit b) (.bool b)
  | anyb (n : Nat) (eq b : Bool) : (b = eq → n = 0) → DenS O w (.anyb n eq) (.bool b)
  | int (k : IntKind) (n : Int) : DenS O w (.int k n) (.int k n)
  | ilit (k : IntKind) (n : Int) : DenS O w (.ilit k n) (.int k n)
  | str (s : ByteArray) : DenS O w (.str s) (.string s)
  | nilp : DenS O w .nilp (.pointer none)
  | nili : DenS O w .nili .nilIface
  | nilf : DenS O w .nilf .nilFunc
  | nilm : DenS O w .nilm (.map none)
  | nils : DenS O w .nils (.slice none 0 0)
  | fn0 (f : FuncId) : DenS O w (.fn0 f) (.func (.func f) #[] #[])
  | ro (c : Con) (a : Option Addr) (cap : Nat) (us : Nat → Nat → Value) (b o : Nat) : c.n ≤ cap → cap ≤ maxLen →
      (0 < c.n → a = some ⟨b, o, none⟩ ∧ ¬ O b ∧ b < w.heap.size) →
      (∀ i j, i < c.n → j < c.size → w.cell? ⟨b, o + i * c.size + j, none⟩ = some (us i j)) →
      (∀ i j, i < c.n → j < c.size → DenS O w (c.cell i j) (us i j)) → DenS O w (.ro c) (.slice a c.n cap)

mutual
/-- A value of one cell. -/
def Den1 (ρ : Nat → Value) (H : AHeap) (O : Nat → Prop) (w : World) : AV → Value → Prop
  | .s x, v => DenS O w x v
  | .ptr id off, v => ∃ b, ρ id = .pointer (some ⟨b, 0, none⟩) ∧ v = .pointer (some ⟨b, off, none⟩) ∧ (H id).isSome = true
  | .ptrx id off n i, v => i < n ∧ ∃ b, ρ id = .pointer (some ⟨b, 0, none⟩) ∧ v = .pointer (some ⟨b, off + i, none⟩) ∧ (H id).isSome = true
  | .eptr c i j, v => ∃ (b o : Nat) (us : Nat → Value), v = .pointer (some ⟨b, o + j, none⟩) ∧ ¬ O b ∧ b < w.heap.size ∧
      (∀ l, l < c.size → w.cell? ⟨b, o + l, none⟩ = some (us l) ∧ DenS O w (c.cell i l) (us l))
  | .vec id, v => v.oneCell' = true ∧ ∃ o, H id = some o ∧ ∀ c e, o = .vec c e → v = ρ id
  | .vptr id i j, v => v.oneCell' = true ∧ ∃ o, H id = some o ∧ ∀ c e, o = .vec c e → i < c.n ∧ j < c.size ∧
      ∃ b f n cap, ρ id = .slice (some ⟨b, f, none⟩) n cap ∧ v = .pointer (some ⟨b, f + i * c.size + j, none⟩)
  | .part id lo n, v => v.oneCell' = true ∧ ∃ o, H id = some o ∧ ∀ c e, o = .vec c e → lo + n ≤ c.n ∧
      ∃ a cap a', ρ id = .slice a c.n cap ∧ c.n ≤ cap ∧ v = .slice a' n (cap - lo) ∧ (cap ≠ lo → a' = a.map (·.add (lo * c.size)))
  | .emp, v => ∃ a, v = .slice a 0 0
  | .fn f caps, v => ∃ vs : List Value, v = .func (.func f) #[] vs.toArray ∧ DenL ρ H O w caps vs
  | .agg _, _ => False
  | .ints _ _ _, _ => False
  | .tup _, _ => False
  | .mapv id, v => ∃ b, ρ id = .map (some b) ∧ v = .map (some b) ∧ (H id).isSome = true
/-- Values one by one (a tuple's parts, a call's arguments). -/
def DenL (ρ : Nat → Value) (H : AHeap) (O : Nat → Prop) (w : World) : List AV → List Value → Prop
  | [], vs => vs = []
  | a :: as, vs => ∃ v rest, vs = v :: rest ∧ DenV ρ H O w a v ∧ DenL ρ H O w as rest
/-- Cells, part behind part. -/
def DenSegs (ρ : Nat → Value) (H : AHeap) (O : Nat → Prop) (w : World) : List AV → List Value → Prop
  | [], cs => cs = []
  | a :: as, cs => ∃ c1 c2, cs = c1 ++ c2 ∧ DenC ρ H O w a c1 ∧ DenSegs ρ H O w as c2
def DenC (ρ : Nat → Value) (H : AHeap) (O : Nat → Prop) (w : World) : AV → List Value → Prop
  | .agg _, _ => False
  | .ints k n ws, cs => ws.length = n ∧ cs = ws.map (Value.int k)
  | .s x, cs => ∃ u, cs = [u] ∧ DenS O w x u
  | .ptr id off, cs => ∃ u, cs = [u] ∧ Den1 ρ H O w (.ptr id off) u
  | .ptrx id off n i, cs => ∃ u, cs = [u] ∧ Den1 ρ H O w (.ptrx id off n i) u
  | .eptr c i j, cs => ∃ u, cs = [u] ∧ Den1 ρ H O w (.eptr c i j) u
  | .vec id, cs => ∃ u, cs = [u] ∧ Den1 ρ H O w (.vec id) u
  | .vptr id i j, cs => ∃ u, cs = [u] ∧ Den1 ρ H O w (.vptr id i j) u
  | .part id lo n, cs => ∃ u, cs = [u] ∧ Den1 ρ H O w (.part id lo n) u
  | .emp, cs => ∃ u, cs = [u] ∧ ∃ a, u = .slice a 0 0
  | .fn f caps, cs => ∃ u, cs = [u] ∧ ∃ vs : List Value, u = .func (.func f) #[] vs.toArray ∧ DenL ρ H O w caps vs
  | .tup _, _ => False
  | .mapv id, cs => ∃ u, cs = [u] ∧ Den1 ρ H O w (.mapv id) u
def DenV (ρ : Nat → Value) (H : AHeap) (O : Nat → Prop) (w : World) : AV → Value → Prop
  | .agg segs, v => ∃ cs : List Value, v = .agg cs.toArray ∧ DenSegs ρ H O w segs cs
  | .ints k n ws, v => ws.length = n ∧ v = .agg (ws.map (Value.int k)).toArray
  | .tup vs, v => ∃ us : List Value, v = .tuple us.toArray ∧ DenL ρ H O w vs us
  | .s .junk, _ => True
  | .s x, v => DenS O w x v
  | .ptr id off, v => Den1 ρ H O w (.ptr id off) v
  | .ptrx id off n i, v => Den1 ρ H O w (.ptrx id off n i) v
  | .eptr c m j, v => Den1 ρ H O w (.eptr c m j) v
  | .vec id, v => Den1 ρ H O w (.vec id) v
  | .vptr id i j, v => Den1 ρ H O w (.vptr id i j) v
  | .part id lo n, v => Den1 ρ H O w (.part id lo n) v
  | .emp, v => ∃ a, v = .slice a 0 0
  | .fn f caps, v => ∃ vs : List Value, v = .func (.func f) #[] vs.toArray ∧ DenL ρ H O w caps vs
  | .mapv id, v => Den1 ρ H O w (.mapv id) v
end

theorem DenS.one {O : Nat → Prop} {w : World} {x : SV} {v : Value} (h : DenS O w x v) : v.oneCell' = true := by
  cases h <;> first | rfl | assumption

/-- How a state may go on so that what was read of it stands. -/
structure Step (ρ : Nat → Value) (H : AHeap) (O : Nat → Prop) (w : World) (ρ' : Nat → Value) (H' : AHeap) (O' : Nat → Prop) (w' : World) : Prop where
  rho : ∀ id o, H id = some o → ρ' id = ρ id
  keep : ∀ id o, H id = some o → ∃ o', H' id = some o' ∧ ∀ c' e', o' = .vec c' e' → ∃ c e, o = .vec c e ∧ c'.n = c.n ∧ c'.size = c.size
  hot : ∀ b, O' b → O b ∨ w.heap.size ≤ b
  heap : ∀ b, b < w.heap.size → ¬ O b → w'.heap[b]? = w.heap[b]?
  size : w.heap.size ≤ w'.heap.size

theorem Step.refl (ρ : Nat → Value) (H : AHeap) (O : Nat → Prop) (w : World) : Step ρ H O w ρ H O w :=
  ⟨fun _ _ _ => rfl, fun _ o h => ⟨o, h, fun c' e' e => ⟨c', e', e, rfl, rfl⟩⟩, fun _ h => .inl h, fun _ _ _ => rfl, Nat.le_refl _⟩

theorem cell?_same {w w' : World} {b o : Nat} (h : w'.heap[b]? = w.heap[b]?) : w'.cell? ⟨b, o, none⟩ = w.cell? ⟨b, o, none⟩ := by
  simp [World.cell?, h]

section
variable {ρ ρ' : Nat → Value} {H H' : AHeap} {O O' : Nat → Prop} {w w' : World}

theorem Step.trans {ρ'' : Nat → Value} {H'' : AHeap} {O'' : Nat → Prop} {w'' : World} (h : Step ρ H O w ρ' H' O' w') (k : Step ρ' H' O' w' ρ'' H'' O'' w'')
    : Step ρ H O w ρ'' H'' O'' w'' := by
  refine ⟨fun id o ho => ?_, fun id o ho => ?_, fun b hb => ?_, fun b hb hO => ?_, Nat.le_trans h.size k.size⟩
  · obtain ⟨o', ho', _⟩ := h.keep id o ho
    rw [k.rho id o' ho', h.rho id o ho]
  · obtain ⟨o', ho', q⟩ := h.keep id o ho
    obtain ⟨o'', ho'', q'⟩ := k.keep id o' ho'
    refine ⟨o'', ho'', fun c e hc => ?_⟩
    obtain ⟨c1, e1, h1, n1, s1⟩ := q' c e hc
    obtain ⟨c2, e2, h2, n2, s2⟩ := q c1 e1 h1
    exact ⟨c2, e2, h2, n1.trans n2, s1.trans s2⟩
  · rcases k.hot b hb with h1 | h1
    · exact h.hot b h1
    · exact .inr (Nat.le_trans h.size h1)
  · have hnot : ¬ O' b := fun h1 => by rcases h.hot b h1 with h2 | h2 <;> first | exact hO h2 | omega
    rw [k.heap b (by have := h.size; omega) hnot, h.heap b hb hO]

theorem DenS.step (hot : ∀ b, O' b → O b ∨ w.heap.size ≤ b) (heap : ∀ b, b < w.heap.size → ¬ O b → w'.heap[b]? = w.heap[b]?)
    (size : w.heap.size ≤ w'.heap.size) {x : SV} {v : Value} (h : DenS O w x v) : DenS O' w' x v := by
  induction h with
  | junk v hv => exact .junk v hv
  | bool b => exact .bool b
  | blit b => exact .blit b
  | anyb n eq b hb => exact .anyb n eq b hb
  | int k n => exact .int k n
  | ilit k n => exact .ilit k n
  | str s => exact .str s
  | nilp => exact .nilp
  | nili => exact .nili
  | nilf => exact .nilf
  | nilm => exact .nilm
  | nils => exact .nils
  | fn0 f => exact .fn0 f
  | ro c a cap us b o hn hm hb hc _ ih =>
    refine .ro c a cap us b o hn hm (fun h0 => ?_) (fun i j hi hj => ?_) ih
    · obtain ⟨e, h1, h2⟩ := hb h0
      exact ⟨e, fun h3 => by rcases hot b h3 with h4 | h4 <;> first | exact h1 h4 | omega, by omega⟩
    · obtain ⟨_, h1, h2⟩ := hb (by omega)
      rw [cell?_same (heap b h2 h1)]
      exact hc i j hi hj

mutual
theorem Den1.step (st : Step ρ H O w ρ' H' O' w') : ∀ (x : AV) (v : Value), Den1 ρ H O w x v → Den1 ρ' H' O' w' x v
  | .s x, v, h => by unfold Den1 at *; exact h.step st.hot st.heap st.size
  | .ptr id off, v, h => by
    unfold Den1 at *
    obtain ⟨b, h1, h2, h3⟩ := h
    obtain ⟨o, ho⟩ := Option.isSome_iff_exists.1 h3
    obtain ⟨o', ho', _⟩ := st.keep id o ho
    exact ⟨b, by rw [st.rho id o ho, h1], h2, by rw [ho']; rfl⟩
  | .ptrx id off n i, v, h => by
    unfold Den1 at *
    obtain ⟨hi, b, h1, h2, h3⟩ := h
    obtain ⟨o, ho⟩ := Option.isSome_iff_exists.1 h3
    obtain ⟨o', ho', _⟩ := st.keep id o ho
    exact ⟨hi, b, by rw [st.rho id o ho, h1], h2, by rw [ho']; rfl⟩
  | .eptr c m j, v, h => by
    unfold Den1 at *
    obtain ⟨b, o, us, h1, h2, h3, h4⟩ := h
    refine ⟨b, o, us, h1, fun h5 => ?_, by have := st.size; omega, fun i hi => ?_⟩
    · rcases st.hot b h5 with h6 | h6 <;> first | exact h2 h6 | omega
    · obtain ⟨h5, h6⟩ := h4 i hi
      exact ⟨by rw [cell?_same (st.heap b h3 h2)]; exact h5, h6.step st.hot st.heap st.size⟩
  | .vec id, v, h => by
    unfold Den1 at *
    obtain ⟨h0, o, ho, h1⟩ := h
    obtain ⟨o', ho', h2⟩ := st.keep id o ho
    refine ⟨h0, o', ho', fun c e hc => ?_⟩
    obtain ⟨c1, e1, h3, _, _⟩ := h2 c e hc
    rw [st.rho id o ho]
    exact h1 c1 e1 h3
  | .vptr id i j, v, h => by
    unfold Den1 at *
    obtain ⟨h0, o, ho, h1⟩ := h
    obtain ⟨o', ho', h2⟩ := st.keep id o ho
    refine ⟨h0, o', ho', fun c e hc => ?_⟩
    obtain ⟨c1, e1, h3, hn, hs⟩ := h2 c e hc
    rw [st.rho id o ho, hn, hs]
    exact h1 c1 e1 h3
  | .part id lo n, v, h => by
    unfold Den1 at *
    obtain ⟨h0, o, ho, h1⟩ := h
    obtain ⟨o', ho', h2⟩ := st.keep id o ho
    refine ⟨h0, o', ho', fun c e hc => ?_⟩
    obtain ⟨c1, e1, h3, hn, hs⟩ := h2 c e hc
    rw [st.rho id o ho, hn, hs]
    exact h1 c1 e1 h3
  | .emp, v, h => by unfold Den1 at *; exact h
  | .fn f caps, v, h => by
    unfold Den1 at *
    obtain ⟨vs, h1, h2⟩ := h
    exact ⟨vs, h1, DenL.step st caps vs h2⟩
  | .agg _, v, h => by unfold Den1 at h; exact h.elim
  | .ints _ _ _, v, h => by unfold Den1 at h; exact h.elim
  | .tup _, v, h => by unfold Den1 at h; exact h.elim
  | .mapv id, v, h => by
    unfold Den1 at *
    obtain ⟨b, h1, h2, h3⟩ := h
    obtain ⟨o, ho⟩ := Option.isSome_iff_exists.1 h3
    obtain ⟨o', ho', _⟩ := st.keep id o ho
    exact ⟨b, by rw [st.rho id o ho, h1], h2, by rw [ho']; rfl⟩
theorem DenL.step (st : Step ρ H O w ρ' H' O' w') : ∀ (xs : List AV) (vs : List Value), DenL ρ H O w xs vs → DenL ρ' H' O' w' xs vs
  | [], vs, h => by unfold DenL at *; exact h
  | a :: as, vs, h => by
    unfold DenL at *
    obtain ⟨v, rest, h1, h2, h3⟩ := h
    exact ⟨v, rest, h1, DenV.step st a v h2, DenL.step st as rest h3⟩
theorem DenSegs.step (st : Step ρ H O w ρ' H' O' w') : ∀ (xs : List AV) (cs : List Value), DenSegs ρ H O w xs cs → DenSegs ρ' H' O' w' xs cs
  | [], vs, h => by unfold DenSegs at *; exact h
  | a :: as, vs, h => by
    unfold DenSegs at *
    obtain ⟨c1, c2, h1, h2, h3⟩ := h
    exact ⟨c1, c2, h1, DenC.step st a c1 h2, DenSegs.step st as c2 h3⟩
theorem DenC.step (st : Step ρ H O w ρ' H' O' w') : ∀ (x : AV) (cs : List Value), DenC ρ H O w x cs → DenC ρ' H' O' w' x cs
  | .agg _, cs, h => by unfold DenC at h; exact h.elim
  | .ints _ _ _, cs, h => by unfold DenC at *; exact h
  | .s x, cs, h => by unfold DenC at *; obtain ⟨u, h1, h2⟩ := h; exact ⟨u, h1, h2.step st.hot st.heap st.size⟩
  | .ptr id off, cs, h => by unfold DenC at *; obtain ⟨u, h1, h2⟩ := h; exact ⟨u, h1, Den1.step st (.ptr id off) u h2⟩
  | .ptrx id off n i, cs, h => by unfold DenC at *; obtain ⟨u, h1, h2⟩ := h; exact ⟨u, h1, Den1.step st (.ptrx id off n i) u h2⟩
  | .eptr c m j, cs, h => by unfold DenC at *; obtain ⟨u, h1, h2⟩ := h; exact ⟨u, h1, Den1.step st (.eptr c m j) u h2⟩
  | .vec id, cs, h => by unfold DenC at *; obtain ⟨u, h1, h2⟩ := h; exact ⟨u, h1, Den1.step st (.vec id) u h2⟩
  | .vptr id i j, cs, h => by unfold DenC at *; obtain ⟨u, h1, h2⟩ := h; exact ⟨u, h1, Den1.step st (.vptr id i j) u h2⟩
  | .part id lo n, cs, h => by unfold DenC at *; obtain ⟨u, h1, h2⟩ := h; exact ⟨u, h1, Den1.step st (.part id lo n) u h2⟩
  | .emp, cs, h => by unfold DenC at *; exact h
  | .fn f caps, cs, h => by
    unfold DenC at *
    obtain ⟨u, h1, vs, h2, h3⟩ := h
    exact ⟨u, h1, vs, h2, DenL.step st caps vs h3⟩
  | .tup _, cs, h => by unfold DenC at h; exact h.elim
  | .mapv id, cs, h => by unfold DenC at *; obtain ⟨u, h1, h2⟩ := h; exact ⟨u, h1, Den1.step st (.mapv id) u h2⟩
theorem DenV.step (st : Step ρ H O w ρ' H' O' w') : ∀ (x : AV) (v : Value), DenV ρ H O w x v → DenV ρ' H' O' w' x v
  | .agg segs, v, h => by unfold DenV at *; obtain ⟨cs, h1, h2⟩ := h; exact ⟨cs, h1, DenSegs.step st segs cs h2⟩
  | .ints _ _ _, v, h => by unfold DenV at *; exact h
  | .tup vs, v, h => by unfold DenV at *; obtain ⟨us, h1, h2⟩ := h; exact ⟨us, h1, DenL.step st vs us h2⟩
  | .s .junk, v, h => by unfold DenV; trivial
  | .s (.bool b), v, h => by unfold DenV at *; exact h.step st.hot st.heap st.size
  | .s (.blit b), v, h => by unfold DenV at *; exact h.step st.hot st.heap st.size
  | .s (.anyb _ _), v, h => by unfold DenV at *; exact h.step st.hot st.heap st.size
  | .s (.int k n), v, h => by unfold DenV at *; exact h.step st.hot st.heap st.size
  | .s (.ilit k n), v, h => by unfold DenV at *; exact h.step st.hot st.heap st.size
  | .s (.str b), v, h => by unfold DenV at *; exact h.step st.hot st.heap st.size
  | .s .nilp, v, h => by unfold DenV at *; exact h.step st.hot st.heap st.size
  | .s .nili, v, h => by unfold DenV at *; exact h.step st.hot st.heap st.size
  | .s .nilf, v, h => by unfold DenV at *; exact h.step st.hot st.heap st.size
  | .s .nilm, v, h => by unfold DenV at *; exact h.step st.hot st.heap st.size
  | .s .nils, v, h => by unfold DenV at *; exact h.step st.hot st.heap st.size
  | .s (.fn0 b), v, h => by unfold DenV at *; exact h.step st.hot st.heap st.size
  | .s (.ro b), v, h => by unfold DenV at *; exact h.step st.hot st.heap st.size
  | .ptr id off, v, h => by unfold DenV at *; exact Den1.step st (.ptr id off) v h
  | .ptrx id off n i, v, h => by unfold DenV at *; exact Den1.step st (.ptrx id off n i) v h
  | .eptr c m j, v, h => by unfold DenV at *; exact Den1.step st (.eptr c m j) v h
  | .vec id, v, h => by unfold DenV at *; exact Den1.step st (.vec id) v h
  | .vptr id i j, v, h => by unfold DenV at *; exact Den1.step st (.vptr id i j) v h
  | .part id lo n, v, h => by unfold DenV at *; exact Den1.step st (.part id lo n) v h
  | .emp, v, h => by unfold DenV at *; exact h
  | .fn f caps, v, h => by
    unfold DenV at *
    obtain ⟨vs, h2, h3⟩ := h
    exact ⟨vs, h2, DenL.step st caps vs h3⟩
  | .mapv id, v, h => by unfold DenV at *; exact Den1.step st (.mapv id) v h
end
end
end Go.Sx
