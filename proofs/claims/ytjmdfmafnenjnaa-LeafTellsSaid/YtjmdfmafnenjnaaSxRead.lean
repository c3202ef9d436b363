import Derived.WalkSpells
import Derived.Test.YtjmdfmafnenjnaaSxLoad
/-! Addresses, parts, lengths: operations that give a value and leave the world alone. -/
namespace Go.Sx
open Go

section
variable {ρ ρ' : Nat → Value} {H H' : AHeap} {G O O' : Nat → Prop} {w w' : World} {P : Program}

theorem slice_inj {a a' : Option Addr} {n n' c c' : Nat} (h : Value.slice a n c = .slice a' n' c') : a' = a ∧ c' = c := by
  cases h; exact ⟨rfl, rfl⟩

theorem fieldAt_run {t : TypeId} {fs : Array Field} {f : Nat} {fd : Field} {n b off : Nat} (ht : P.underlying t = some (.struct fs)) (hf : fs[f]? = some fd) (hs : szOf P fd.type = some n) (hn : 1 ≤ n) (w : World) :
    (Instr.fieldAt t (.pointer (some ⟨b, off, none⟩)) f).run P w = .ok (.pointer (some ⟨b, off + fd.offset, none⟩)) w := by
  have h0 : ¬ n = 0 := by omega
  simp [Instr.fieldAt, run_underlying ht, hf, Instr.sureAddr, fieldPlace, run_sizeOf hs, h0, add_zero_spot]

theorem fieldAddrR_ok {t : TypeId} {x : AV} {f : Nat} {vx : Value} {q : Res} (h : (fieldAddrR P t x f).eval H = some q) (hn : Needs q.need) (hd : DenV ρ H O w x vx) :
    ValOK P ρ H O w q (Instr.fieldAt t vx f) := by
  unfold fieldAddrR at h
  split at h
  · rename_i fs ht
    split at h
    · rename_i fd hf
      rw [Bool.cond_eq_ite] at h
      split at h
      · rename_i hsz
        obtain ⟨n, hs, hn1⟩ : ∃ n, szOf P fd.type = some n ∧ 1 ≤ n := by
          cases hs : szOf P fd.type with
          | none => simp [hs] at hsz
          | some n => exact ⟨n, rfl, Nat.le_of_ble_eq_true (by simpa [hs] using hsz)⟩
        split at h
        · rename_i id off
          unfold DenV Den1 at hd
          obtain ⟨b, hb, rfl, hi⟩ := hd
          exact plain_ok h (fun _ => ⟨_, fieldAt_run ht hf hs hn1 w, by unfold DenV Den1; exact ⟨b, hb, rfl, hi⟩⟩) hn
        · rename_i c m j
          unfold DenV Den1 at hd
          obtain ⟨b, o, us, rfl, h1⟩ := hd
          exact plain_ok h (fun _ => ⟨_, fieldAt_run ht hf hs hn1 w, by unfold DenV Den1; exact ⟨b, o, us, by rw [Nat.add_assoc], h1⟩⟩) hn
        · rename_i id i j
          simp only [RM.eval] at h
          split at h
          · rename_i c e ho
            rw [Bool.cond_eq_ite] at h
            split at h
            · rename_i hlt
              have hlt : j + fd.offset < c.size := by simpa [Nat.blt, Nat.lt_iff_add_one_le] using hlt
              unfold DenV Den1 at hd
              obtain ⟨h1, o, ho', hv⟩ := hd
              rw [ho] at ho'
              cases ho'
              obtain ⟨hi, hj, b, f', n', cap, hroot, rfl⟩ := hv c e rfl
              refine plain_ok h (fun _ => ⟨_, fieldAt_run ht hf hs hn1 w, ?_⟩) hn
              unfold DenV Den1
              refine ⟨rfl, _, ho, fun c' e' hc => ?_⟩
              cases hc
              exact ⟨hi, hlt, b, f', n', cap, hroot, by rw [Nat.add_assoc]⟩
            · cases h
          · cases h
        · cases h
      · cases h
    · cases h
  · cases h

theorem indexAt_slice_run {t e : TypeId} {n b o len cap : Nat} {k : IntKind} {i : Int} (ht : P.underlying t = some (.slice e)) (hs : szOf P e = some n) (h0 : 0 ≤ i) (h1 : i < len) (w : World) :
    (Instr.indexAt t (.slice (some ⟨b, o, none⟩) len cap) (.int k i)).run P w = .ok (.pointer (some ⟨b, o + i.toNat * n, none⟩)) w := by
  simp [Instr.indexAt, run_underlying ht, asIntOf, run_sizeOf hs, h0, h1, add_zero_spot]

theorem indexAt_array_run {t e : TypeId} {n b o len : Nat} {k : IntKind} {i : Int} (ht : P.underlying t = some (.array len e)) (hs : szOf P e = some n) (h0 : 0 ≤ i) (h1 : i < len) (w : World) :
    (Instr.indexAt t (.pointer (some ⟨b, o, none⟩)) (.int k i)).run P w = .ok (.pointer (some ⟨b, o + i.toNat * n, none⟩)) w := by
  simp [Instr.indexAt, run_underlying ht, asIntOf, Instr.sureAddr, run_sizeOf hs, h0, h1, add_zero_spot]

theorem indexAddrR_ok {t : TypeId} {x i : AV} {vx vi : Value} {q : Res} (h : (indexAddrR P t x i).eval H = some q) (hn : Needs q.need) (hs : Sat ρ H G w) (hd : DenV ρ H (Hot ρ H G) w x vx) (hi : DenV ρ H (Hot ρ H G) w i vi) :
    ValOK P ρ H (Hot ρ H G) w q (Instr.indexAt t vx vi) := by
  unfold indexAddrR at h
  split at h
  · rename_i k lit n e hnum ht
    obtain rfl := num_den hnum hi
    split at h
    · rename_i sz c hsz
      rw [Bool.cond_eq_ite] at h
      split at h
      · rename_i he
        have he : sz = c.size := by simpa using he
        have hx := DenS_of_V (by simp) hd
        cases hx with
        | ro _ a cap us b o h1 h2 h3 h4 h5 =>
          refine plain_ok h (fun hne => ?_) hn
          obtain ⟨h6, h7, _⟩ := hne
          have hlt : n.toNat < c.n := by omega
          obtain ⟨rfl, h8, h9⟩ := h3 (by omega)
          refine ⟨_, indexAt_slice_run ht hsz h6 h7 w, ?_⟩
          unfold DenV Den1
          refine ⟨b, o + n.toNat * c.size, fun j => us n.toNat j, by rw [he]; rfl, h8, h9, fun j hj => ⟨h4 _ _ hlt hj, h5 _ _ hlt hj⟩⟩
      · cases h
    · rename_i sz id hsz
      simp only [RM.eval] at h
      split at h
      · rename_i c e' ho
        rw [Bool.cond_eq_ite] at h
        split at h
        · rename_i he
          simp only [Bool.and_eq_true, Nat.beq_eq] at he
          obtain ⟨rfl, hge⟩ := he
          have hge := Nat.le_of_ble_eq_true hge
          unfold DenV Den1 at hd
          obtain ⟨_, o, ho', hv⟩ := hd
          rw [ho] at ho'
          cases ho'
          obtain rfl := hv c e' rfl
          obtain ⟨a, cap, hr, h2, h3, h4⟩ := hs.obj id _ ho
          refine plain_ok h (fun hne => ?_) hn
          obtain ⟨h6, h7, _⟩ := hne
          rcases h4 with h4 | ⟨b, o, cells, fr, us, rfl, h5, _⟩
          · omega
          · refine ⟨.pointer (some ⟨b, o + n.toNat * c.size, none⟩), by rw [hr]; exact indexAt_slice_run ht hsz h6 h7 w, ?_⟩
            unfold DenV Den1
            refine ⟨rfl, _, ho, fun c' e'' hc => ?_⟩
            cases hc
            exact ⟨by omega, by omega, b, o, c.n, cap, hr, rfl⟩
        · cases h
      · cases h
    · rename_i sz id lo m hsz
      simp only [RM.eval] at h
      split at h
      · rename_i c e' ho
        rw [Bool.cond_eq_ite] at h
        split at h
        · rename_i he
          simp only [Bool.and_eq_true, Nat.beq_eq] at he
          obtain ⟨rfl, hge⟩ := he
          have hge := Nat.le_of_ble_eq_true hge
          unfold DenV Den1 at hd
          obtain ⟨_, o, ho', hv⟩ := hd
          rw [ho] at ho'
          cases ho'
          obtain ⟨hlm, a0, cap0, a', hr0, hcap0, rfl, ha'⟩ := hv c e' rfl
          obtain ⟨a, cap, hr, h2, h3, h4⟩ := hs.obj id _ ho
          obtain ⟨rfl, rfl⟩ := slice_inj (hr0.symm.trans hr)
          refine plain_ok h (fun hne => ?_) hn
          obtain ⟨h6, h7, _⟩ := hne
          rcases h4 with h4 | ⟨b, o, cells, fr, us, rfl, h5, _⟩
          · omega
          · refine ⟨.pointer (some ⟨b, o + lo * c.size + n.toNat * c.size, none⟩), ?_, ?_⟩
            · rw [ha' (by omega)]
              simp only [Option.map_some, add_zero_spot]
              exact indexAt_slice_run ht hsz h6 h7 w
            · unfold DenV Den1
              refine ⟨rfl, _, ho, fun c' e'' hc => ?_⟩
              cases hc
              exact ⟨by omega, by omega, b, o, c.n, cap, hr, by rw [Nat.add_mul, Nat.add_assoc]; rfl⟩
        · cases h
      · cases h
    · cases h
  · rename_i k lit n len e hnum ht
    obtain rfl := num_den hnum hi
    split at h
    · rename_i sz id off hsz
      unfold DenV Den1 at hd
      obtain ⟨b, hb, rfl, hid⟩ := hd
      cases lit
      · simp only [cond_false] at h
        rw [Bool.cond_eq_ite] at h
        split at h
        · rename_i h1
          have h1 : sz = 1 := by simpa using h1
          subst h1
          refine plain_ok h (fun hne => ?_) hn
          obtain ⟨h6, h7, _⟩ := hne
          exact ⟨_, indexAt_array_run ht hsz h6 h7 w, by unfold DenV Den1; exact ⟨by omega, b, hb, by simp, hid⟩⟩
        · cases h
      · simp only [cond_true] at h
        rw [Bool.cond_eq_ite] at h
        split at h
        · rename_i h1
          simp only [Bool.and_eq_true, decide_eq_true_eq] at h1
          exact plain_ok h (fun _ => ⟨_, indexAt_array_run ht hsz h1.1 h1.2 w, by unfold DenV Den1; exact ⟨b, hb, rfl, hid⟩⟩) hn
        · cases h
    · cases h
  · cases h

theorem indexR_ok {t : TypeId} {x i : AV} {vx vi : Value} {q : Res} (h : (indexR P t x i).eval H = some q) (hn : Needs q.need) (hd : DenV ρ H O w x vx) (hi : DenV ρ H O w i vi) :
    ValOK P ρ H O w q (Instr.index t vx vi) := by
  unfold indexR at h
  split at h
  · rename_i k lit n len e kk m ws hnum ht
    obtain rfl := num_den hnum hi
    rw [Bool.cond_eq_ite] at h
    split at h
    · rename_i hc
      simp only [Bool.and_eq_true, Nat.beq_eq] at hc
      obtain ⟨⟨rfl, hag⟩, hsz⟩ := hc
      have hag' : aggT P e = some false := by cases ha : aggT P e with | none => simp [ha] at hag | some b => simp [ha] at hag; rw [hag]
      have hsz' : szOf P e = some 1 := by cases ha : szOf P e with | none => simp [ha] at hsz | some b => simp [ha] at hsz; rw [hsz]
      unfold DenV at hd
      obtain ⟨hl, rfl⟩ := hd
      refine plain_ok h (fun hne => ?_) hn
      obtain ⟨h6, h7, _⟩ := hne
      have hlt : n.toNat < ws.length := by omega
      refine ⟨.int kk (ws.getD n.toNat 0), ?_, DenV_s (.int _ _)⟩
      simp [Instr.index, run_underlying ht, asIntOf, h6, h7, run_sizeOf hsz', part, run_isAgg hag', hlt]
    · cases h
  · rename_i k lit n s hnum ht
    obtain rfl := num_den hnum hi
    obtain rfl := str_den hd
    refine plain_ok h (fun hne => ?_) hn
    obtain ⟨h6, h7, _⟩ := hne
    have hlt : n.toNat < s.size := by omega
    refine ⟨.int .u8 (byteAt s n.toNat), ?_, DenV_s (.int _ _)⟩
    have hb : s[n.toNat]? = some s.data[n.toNat] := by
      simp only [getElem?, decidableGetElem?]
      rw [dif_pos hlt]
      rfl
    have hlt' : n.toNat < s.data.size := hlt
    simp [Instr.index, run_underlying ht, asIntOf, h6, hb, byteAt]
    rw [Array.getElem?_eq_getElem hlt']
    rfl
  · cases h

theorem fieldR_ok {t : TypeId} {x : AV} {f : Nat} {vx : Value} {q : Res} (h : (fieldR P t x f).eval H = some q) (hn : Needs q.need) (hd : DenV ρ H O w x vx) :
    ValOK P ρ H O w q (Instr.field t vx f) := by
  unfold fieldR at h
  split at h
  · rename_i fs segs ht
    unfold DenV at hd
    obtain ⟨cs, rfl, hsegs⟩ := hd
    split at h
    · rename_i fd hf
      split at h
      · rename_i sz hsz hag
        split at h
        · rename_i ss hss
          simp only [Option.bind_eq_some_iff] at hss
          obtain ⟨s1, h4, h5⟩ := hss
          obtain ⟨h6, h7⟩ := dropSegs_ok segs _ h4 hsegs
          obtain ⟨h8, h9⟩ := takeSegs_ok s1 sz h5 h7
          refine plain_ok h (fun _ => ⟨.agg ((cs.drop fd.offset).take sz).toArray, ?_, ofSegs_ok h9⟩) hn
          simp [Instr.field, run_underlying ht, hf, asAgg, part, run_isAgg hag, run_sizeOf hsz, List.extract_eq_take_drop]
        · cases h
      · rename_i sz hsz hag
        split at h
        · rename_i v hv
          obtain ⟨u, h4, h5, h6⟩ := cellAt_ok segs _ hv hsegs
          refine plain_ok h (fun _ => ⟨u, ?_, h6⟩) hn
          simp [Instr.field, run_underlying ht, hf, asAgg, part, run_isAgg hag, h4]
        · cases h
      · cases h
    · cases h
  · cases h

theorem DenL_get : ∀ {xs : List AV} {vs : List Value} {i : Nat} {x : AV}, DenL ρ H O w xs vs → xs[i]? = some x → ∃ v, vs[i]? = some v ∧ DenV ρ H O w x v
  | [], vs, i, x, _, hx => by simp at hx
  | a :: as, vs, i, x, h, hx => by
    obtain ⟨v, rest, rfl, h1, h2⟩ := DenL_cons.1 h
    cases i with
    | zero => simp at hx; subst hx; exact ⟨v, rfl, h1⟩
    | succ i => obtain ⟨u, h3, h4⟩ := DenL_get (i := i) h2 (by simpa using hx); exact ⟨u, by simpa using h3, h4⟩

theorem extractR_ok {x : AV} {i : Nat} {vx : Value} {q : Res} (h : (extractR x i).eval H = some q) (hn : Needs q.need) (hd : DenV ρ H O w x vx) :
    ValOK P ρ H O w q (Instr.extract vx i) := by
  unfold extractR at h
  split at h
  · rename_i vs
    unfold DenV at hd
    obtain ⟨us, rfl, hl⟩ := hd
    split at h
    · rename_i v hv
      obtain ⟨u, h1, h2⟩ := DenL_get hl hv
      exact plain_ok h (fun _ => ⟨u, by simp [Instr.extract, h1], h2⟩) hn
    · cases h
  · cases h

theorem vec_val (hs : Sat ρ H G w) {id : Nat} {c : Con} {e : TypeId} {v : Value} (ho : H id = some (.vec c e)) (hd : DenV ρ H O w (.vec id) v) : ∃ a cap, v = .slice a c.n cap ∧ ρ id = v ∧ c.n ≤ cap ∧ cap ≤ maxLen := by
  unfold DenV Den1 at hd
  obtain ⟨_, o, ho', hv⟩ := hd
  rw [ho] at ho'
  cases ho'
  obtain ⟨a, cap, h1, h2, h3, _⟩ := hs.obj id _ ho
  exact ⟨a, cap, by rw [hv c e rfl, h1], (hv c e rfl).symm, h2, h3⟩

/-- What a part of an own row is. -/
theorem part_val (hs : Sat ρ H G w) {id lo n : Nat} {c : Con} {e : TypeId} {v : Value} (ho : H id = some (.vec c e)) (hd : DenV ρ H O w (.part id lo n) v) :
    lo + n ≤ c.n ∧ ∃ a cap a', ρ id = .slice a c.n cap ∧ c.n ≤ cap ∧ cap ≤ maxLen ∧ v = .slice a' n (cap - lo) ∧ (cap ≠ lo → a' = a.map (·.add (lo * c.size))) ∧ (cap ≠ 0 → ∃ b o, a = some ⟨b, o, none⟩) := by
  unfold DenV Den1 at hd
  obtain ⟨_, o, ho', hv⟩ := hd
  rw [ho] at ho'
  cases ho'
  obtain ⟨h0, a, cap, a', h1, h2, h3, h4⟩ := hv c e rfl
  obtain ⟨a2, cap2, g1, g2, g3, g4⟩ := hs.obj id _ ho
  obtain ⟨rfl, rfl⟩ := slice_inj (h1.symm.trans g1)
  refine ⟨h0, _, _, a', h1, h2, g3, h3, h4, fun hc => ?_⟩
  rcases g4 with g4 | ⟨b, o, _, _, _, g5, _⟩
  · exact absurd g4 hc
  · exact ⟨b, o, g5⟩

theorem lenR_ok {t ty : TypeId} {ts : List TypeId} {x : AV} {vx : Value} {q : Res} (h : (lenR P t x).eval H = some q) (hn : Needs q.need) (hs : Sat ρ H G w) (hd : DenV ρ H O w x vx) :
    ValOK P ρ H O w q (Builtin.len_ (t :: ts).toArray ty #[vx]) := by
  unfold lenR at h
  split at h
  · rename_i s ht
    obtain rfl := str_den hd
    exact plain_ok h (fun _ => ⟨_, by simp [Builtin.len_, run_underlying ht]; rfl, DenV_s (.int _ _)⟩) hn
  · rename_i n e ht
    exact plain_ok h (fun _ => ⟨_, by cases vx <;> simp [Builtin.len_, run_underlying ht] <;> rfl, DenV_s (.ilit _ _)⟩) hn
  · rename_i e c ht
    have hx := DenS_of_V (by simp) hd
    cases hx
    exact plain_ok h (fun _ => ⟨_, by simp [Builtin.len_, run_underlying ht]; rfl, DenV_s (.int _ _)⟩) hn
  · rename_i e ht
    unfold DenV at hd
    obtain ⟨a, rfl⟩ := hd
    exact plain_ok h (fun _ => ⟨_, by simp [Builtin.len_, run_underlying ht]; rfl, DenV_s (.ilit _ _)⟩) hn
  · rename_i e id ht
    simp only [RM.eval] at h
    split at h
    · rename_i c e' ho
      obtain ⟨a, cap, rfl, _⟩ := vec_val hs ho hd
      exact plain_ok h (fun _ => ⟨_, by simp [Builtin.len_, run_underlying ht]; rfl, DenV_s (.int _ _)⟩) hn
    · cases h
  · rename_i e id lo n ht
    simp only [RM.eval] at h
    split at h
    · rename_i c e' ho
      obtain ⟨_, a, cap, a', _, _, _, rfl, _⟩ := part_val hs ho hd
      exact plain_ok h (fun _ => ⟨_, by simp [Builtin.len_, run_underlying ht]; rfl, DenV_s (.int _ _)⟩) hn
    · cases h
  · cases h

theorem eqGuard_slice (op : BinOp) (t : TypeId) (x y : Operand) (a b : Option Addr) (n c m d : Nat) : (eqGuard op t x y (.slice a n c) (.slice b m d)).run P w = .ok () w := by
  cases op <;> simp [eqGuard]

theorem nilR_ok {op : BinOp} {t : TypeId} {x : AV} {ox oy : Operand} {vx vy : Value} {q : Res} (h : (nilR P op t x).eval H = some q) (hn : Needs q.need) (hs : Sat ρ H G w)
    (hx : DenV ρ H O w x vx) (hy : vy = .slice none 0 0) : ValOK P ρ H O w q (do eqGuard op t ox oy vx vy; binOp op t vx vy : Sem Value) := by
  subst hy
  have key : ∀ e, P.underlying t = some (.slice e) → (op = .eql ∨ op = .neq) → ∀ a n c n', vx = .slice a n c → (a = none → n' = 0) → (plain [] (.s (.anyb n' (isEql op)))).eval H = some q → ValOK P ρ H O w q (do eqGuard op t ox oy vx (.slice none 0 0); binOp op t vx (.slice none 0 0) : Sem Value) := by
    rintro e ht hop a n c n' rfl ha h
    refine plain_ok h (fun _ => ?_) hn
    rcases hop with rfl | rfl
    · exact ⟨.bool a.isNone, by simp [eqGuard_slice, Lib.run_eql_slice_nil w t e a n c 0 0 ht], DenV_s (.anyb _ _ _ (fun e => ha (by simpa [isEql] using e)))⟩
    · exact ⟨.bool (!a.isNone), by simp [eqGuard_slice, run_neq_slice_nil_any w t e a n c 0 0 ht], DenV_s (.anyb _ _ _ (fun e => ha (by simpa [isEql] using e)))⟩
  have key2 : ∀ x, DenV ρ H O w x vx → (op = .eql ∨ op = .neq) → (match P.underlying t with
    | some (.slice _) =>
      match x with
      | .s (.ro c) => plain [] (.s (.anyb c.n (isEql op)))
      | .emp => plain [] (.s (.anyb 0 (isEql op)))
      | .vec id => .look id fun o => match o with
        | some (.vec c _) => plain [] (.s (.anyb c.n (isEql op)))
        | _ => .fail "== nil: no row"
      | _ => .fail "== nil"
    | _ => .fail "== nil: the type" : RM Res).eval H = some q → ValOK P ρ H O w q (do eqGuard op t ox oy vx (.slice none 0 0); binOp op t vx (.slice none 0 0) : Sem Value) := by
    intro x hx hop h
    split at h
    · rename_i e ht
      split at h
      · have h1 := DenS_of_V (by simp) hx
        cases h1 with
        | ro c a cap us b o q1 q2 q3 q4 q5 => exact key e ht hop _ _ _ _ rfl (fun ha => Decidable.byContradiction fun hn0 => by have := (q3 (Nat.pos_of_ne_zero hn0)).1; rw [ha] at this; cases this) h
      · unfold DenV at hx
        obtain ⟨a, rfl⟩ := hx
        exact key e ht hop _ _ _ _ rfl (fun _ => rfl) h
      · simp only [RM.eval] at h
        split at h
        · rename_i ho
          obtain ⟨a, cap, rfl, hroot, hle, _⟩ := vec_val hs ho hx
          refine key e ht hop _ _ _ _ rfl (fun ha => ?_) h
          obtain ⟨a2, cap2, hroot2, _, _, h3⟩ := hs.obj _ _ ho
          rw [hroot] at hroot2
          cases hroot2
          rcases h3 with h3 | ⟨_, _, _, _, _, h3, _⟩
          · omega
          · rw [ha] at h3; cases h3
        · cases h
      · cases h
    · cases h
  unfold nilR at h
  split at h
  · exact key2 x hx (.inl rfl) h
  · exact key2 x hx (.inr rfl) h
  · cases h

theorem relax_den {x : AV} {v : Value} (h : DenV ρ H O w x v) : DenV ρ H O w (relax x) v := by
  unfold relax
  split
  · have h1 := DenS_of_V (by simp) h
    cases h1
    unfold DenV
    exact ⟨none, rfl⟩
  · exact h

theorem nils_den {x : AV} {v : Value} (h : DenV ρ H O w x v) (hx : isNils x = true) : v = .slice none 0 0 := by
  unfold isNils at hx
  split at hx
  · have h1 := DenS_of_V (by simp) h
    cases h1
    rfl
  · cases hx

theorem minR_ok {ts : Array TypeId} {ty : TypeId} {mx : Bool} {x y : AV} {vx vy : Value} {q : Res} (h : (minR mx x y).eval H = some q) (hn : Needs q.need) (hx : DenV ρ H O w x vx) (hy : DenV ρ H O w y vy) :
    ValOK P ρ H O w q (if mx then Builtin.max_ ts ty #[vx, vy] else Builtin.min_ ts ty #[vx, vy]) := by
  unfold minR at h
  split at h
  · rename_i k lx a k' ly b h1 h2
    obtain rfl := num_den h1 hx
    obtain rfl := num_den h2 hy
    rw [Bool.cond_eq_ite] at h
    split at h
    · rename_i hk
      obtain rfl := kindEq_eq hk
      cases mx
      · exact plain_ok h (fun _ => ⟨_, by simp [run_min_int2, imin], mkInt_den _ _ _⟩) hn
      · exact plain_ok h (fun _ => ⟨_, by simp [run_max_int2, imax], mkInt_den _ _ _⟩) hn
    · cases h
  · cases h

theorem nilCheckR_ok {x : AV} {vx : Value} {q : Res} (h : (nilCheckR x).eval H = some q) (hn : Needs q.need) (hd : DenV ρ H O w x vx) (e : Operand → Value) (o : Oper) (y : Operand) (ho : o.op = .nilCheck y) (he : e y = vx) :
    q.up = [] ∧ q.new = [] ∧ (execOp e o).run P w = .ok (.value vx) w ∧ ∀ base, DenV ρ H O w (q.r base) vx := by
  have fin : ∀ r, (plain [] r).eval H = some q → r = x → (execOp e o).run P w = .ok (.value vx) w → q.up = [] ∧ q.new = [] ∧ (execOp e o).run P w = .ok (.value vx) w ∧ ∀ base, DenV ρ H O w (q.r base) vx := by
    intro r hr hx hrun
    simp only [plain, RM.eval, Option.some.injEq] at hr
    subst hr; subst hx
    exact ⟨rfl, rfl, hrun, fun _ => hd⟩
  unfold nilCheckR at h
  split at h
  · unfold DenV Den1 at hd; obtain ⟨b, _, rfl, _⟩ := hd; exact fin _ h rfl (by simp [execOp, ho, he])
  · unfold DenV Den1 at hd; obtain ⟨_, b, _, rfl, _⟩ := hd; exact fin _ h rfl (by simp [execOp, ho, he])
  · unfold DenV Den1 at hd; obtain ⟨b, o', us, rfl, _⟩ := hd; exact fin _ h rfl (by simp [execOp, ho, he])
  · unfold DenV at hd; obtain ⟨vs, rfl, _⟩ := hd; exact fin _ h rfl (by simp [execOp, ho, he])
  · have h1 := DenS_of_V (by simp) hd; cases h1; exact fin _ h rfl (by simp [execOp, ho, he])
  · cases h

theorem makeFuncR_ok {fn : Fn} {first caps : List AV} {vf vc : List Value} {q : Res} (h : (makeFuncR fn first caps).eval H = some q) (hn : Needs q.need) (hf : DenL ρ H O w first vf) (hc : DenL ρ H O w caps vc) :
    ValOK P ρ H O w q (Instr.makeFunc fn vf.toArray vc.toArray) := by
  unfold makeFuncR at h
  split at h
  · rename_i f
    obtain rfl := DenL_nil.1 hf
    obtain rfl := DenL_nil.1 hc
    exact plain_ok h (fun _ => ⟨_, rfl, DenV_s (.fn0 f)⟩) hn
  · rename_i f c cs
    obtain rfl := DenL_nil.1 hf
    exact plain_ok h (fun _ => ⟨_, rfl, by unfold DenV; exact ⟨vc, rfl, hc⟩⟩) hn
  · cases h
end
end Go.Sx
