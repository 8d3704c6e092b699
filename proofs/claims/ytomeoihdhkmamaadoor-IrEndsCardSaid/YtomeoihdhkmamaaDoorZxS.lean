/- Regions that draw their order: one step of the head, from whatever has come. -/
import Derived.Test.YtomeoihdhkmamaaDoorZxR
set_option linter.unusedVariables false
set_option linter.unusedSimpArgs false
namespace Go.X
open Go.RowKit (Below)

section
variable {P : Program} {E : Env} {call : FuncId → List V → Mem → T (V × Option Mem)} {ops : Array Oper} {n low0 : Nat} {base : List O} {NW : Nat → List O} {TM : Nat → List V} {ρ0 : Ren} {w0 : World} {a0 : Act}

def Pres (n : Nat) (base : List O) (NW : Nat → List O) (S : Nat → Prop) (id : Nat) (o : O) : Prop :=
  objL base id = some o ∨ ∃ k, k < n ∧ S k ∧ base.length + off NW k ≤ id ∧ objL (NW k) (id - (base.length + off NW k)) = some o

/-- What stands where the operations of S have come. -/
structure J (ops : Array Oper) (n : Nat) (base : List O) (NW : Nat → List O) (TM : Nat → List V) (ρ0 : Ren) (w0 : World) (a0 : Act) (S : Nat → Prop) (a : Act) (w : World) (ρ : Ren) : Prop where
  seg : ∀ j, j < n → S j → ∀ i o, objL (NW j) i = some o → ORel (upto ρ (base.length + off NW (j + 1))) w (base.length + off NW j + i) o
  dom : ∀ id j b, ρ id j = some b → b < w.heap.size ∧ (ρ0 id j = some b ∨ (w0.heap.size ≤ b ∧ ∃ k, k < n ∧ S k ∧ base.length + off NW k ≤ id ∧ id < base.length + off NW (k + 1)))
  sub : Sub ρ0 ρ
  inj : ∀ id j id' j' o o' b, Pres n base NW S id o → Pres n base NW S id' o' → o.has j → o'.has j' → (id ≠ id' ∨ j ≠ j') → o.wr → ρ id j = some b → ρ id' j' = some b → False
  below : Below w0.heap.size w0 w
  tms : ∀ d k, k ≤ n → (∀ j o, j < n → ops[j]? = some o → o.dst = some d → (S j ↔ j < k)) → R (upto ρ (base.length + off NW k)) (getL (TM k) d) (a.tmps.getD d undef)
  tml : a.tmps.size = a0.tmps.size
  dfr : a.defers = a0.defers

theorem Act.put_size (a : Act) (d : Option Tmp) (v : Value) : (a.put d v).tmps.size = a.tmps.size := by
  cases d with
  | none => rfl
  | some d => simp [Act.put]

theorem putL_length (tm : List V) (d : Option Tmp) (v : V) : (putL tm d v).length = tm.length := by
  cases d with
  | none => rfl
  | some d => exact setL_length _ _ _

theorem getL_out : ∀ (tm : List V) (i : Nat), tm.length ≤ i → getL tm i = .unk
  | [], _, _ => rfl
  | v :: tm, 0, h => by simp at h
  | v :: tm, i + 1, h => getL_out tm i (by simpa using h)

/-- What no later operation writes stays known. -/
theorem later {pad : Nat → List O} (hst : ∀ k o, k < n → ops[k]? = some o → StepOk P E call ops (pad k) o (TM k) (TM (k + 1)) (NW k)) (hn : n ≤ ops.size) {d : Nat} : ∀ (m k : Nat), k + m ≤ n →
    (∀ j o, k ≤ j → j < k + m → ops[j]? = some o → o.dst ≠ some d) → ∀ σ x, R σ (getL (TM k) d) x → R σ (getL (TM (k + m)) d) x
  | 0, k, h, hw, σ, x, hx => hx
  | m + 1, k, h, hw, σ, x, hx => by
    have hk : k < ops.size := by omega
    obtain ⟨o, ho⟩ : ∃ o, ops[k]? = some o := ⟨_, Array.getElem?_eq_getElem hk⟩
    have h1 : R σ (getL (TM (k + 1)) d) x := by
      obtain ⟨tm1, hr, hc⟩ := hst k o (by omega) ho
      have hne := hw k o (Nat.le_refl _) (by omega) ho
      have key : ∀ v, getL (putL tm1 o.dst v) d = getL tm1 d := fun v => by
        cases hd : o.dst with
        | none => rfl
        | some d' =>
          simp only [putL]
          rw [getL_setL, if_neg]
          rintro ⟨q, _⟩
          exact hne (by rw [hd, q])
      rcases hc with ⟨v, _, _, e⟩ | ⟨_, _, e⟩ <;> rw [e, key] <;> exact hr.2 σ d x hx
    have := later hst hn m (k + 1) (by omega) (fun j o h1 h2 => hw j o (by omega) (by omega)) σ x h1
    rw [show k + (m + 1) = k + 1 + m by omega]
    exact this

theorem Pres.mono {S S' : Nat → Prop} (h : ∀ j, S j → S' j) {id : Nat} {o : O} (hp : Pres n base NW S id o) : Pres n base NW S' id o := by
  rcases hp with hp | ⟨k, h1, h2, h3, h4⟩
  · exact .inl hp
  · exact .inr ⟨k, h1, h k h2, h3, h4⟩

theorem J.step (hE : EnvOk P E) (hc : CallOk P call) (h0 : Rel ρ0 ⟨base, low0⟩ w0) (hn : n ≤ ops.size) (anc : List Nat) {pad : Nat → List O}
    (hst : ∀ k o, k < n → ops[k]? = some o → StepOk P E call ops (pad k) o (TM k) (TM (k + 1)) (NW k)) {k : Nat} (hk : k < n) {o : Oper} (ho : ops[k]? = some o)
    (hpad : pad k = base ++ cat (fun j => bif anc.any (Nat.beq j) then NW j else deads (NW j)) k) (hlen : ∀ k, k ≤ n → (TM k).length ≤ a0.tmps.size)
    {S : Nat → Prop} {a : Act} {w : World} {ρ : Ren} (hJ : J ops n base NW TM ρ0 w0 a0 S a w ρ) (hkS : ¬ S k) (hanc : ∀ j, j < k → anc.any (Nat.beq j) = true → S j)
    (hvm : ∀ d ∈ o.looksAt ops, ∀ j o', j < n → ops[j]? = some o' → o'.dst = some d → (S j ↔ j < k))
    (hww : ∀ d, o.dst = some d → ∀ j o', k < j → j < n → ops[j]? = some o' → o'.dst = some d → ¬ S j)
    {K : Act → World → Prop} {Q : Exit → Act → World → Prop} (hK : ∀ a' w' ρ', J ops n base NW TM ρ0 w0 a0 (fun j => S j ∨ j = k) a' w' ρ' → K a' w') : wpOp P ops Q k K a w := by
  have hdom0 : ∀ id j b, ρ0 id j = some b → id < base.length ∧ b < w0.heap.size := fun id j b h => h0.dom id j b h
  have hNk : base.length ≤ base.length + off NW k := Nat.le_add_right _ _
  -- the temporaries that it looks at
  have htr : TR (upto ρ (base.length + off NW k)) (maskL (o.looksAt ops) 0 (TM k)) a.tmps := by
    refine ⟨by rw [maskL_length, hJ.tml]; exact hlen k (by omega), fun d => ?_⟩
    rw [getL_maskL, Nat.zero_add]
    split
    · rename_i hd
      exact hJ.tms d k (by omega) (hvm d (any_beq.1 hd))
    · exact .unk _
  obtain ⟨tm1, hrf, hcase⟩ := hst k o hk ho
  have htr1 : TR (upto ρ (base.length + off NW k)) (maskL (o.looksAt ops) 0 tm1) a.tmps := by
    refine ⟨by rw [maskL_length, hrf.1, hJ.tml]; exact hlen k (by omega), fun d => ?_⟩
    have := htr.at_ d
    rw [getL_maskL, Nat.zero_add] at this ⊢
    split
    · rename_i hd
      rw [if_pos hd] at this
      exact hrf.2 _ _ _ this
    · exact .unk _
  -- what is left behind
  have fin : ∀ (v : V) (x : Value) (w' : World) (ρ' : Ren), TM (k + 1) = putL tm1 o.dst v → Below w.heap.size w w' → Sub ρ ρ' →
      (∀ id j b, ρ' id j = some b → ρ id j = some b ∨ (base.length + off NW k ≤ id ∧ id < base.length + off NW (k + 1) ∧ w.heap.size ≤ b ∧ b < w'.heap.size)) →
      (∀ i o', objL (NW k) i = some o' → ORel (upto ρ' (base.length + off NW (k + 1))) w' (base.length + off NW k + i) o') →
      (∀ i j i' j' o1 o2 b, objL (NW k) i = some o1 → objL (NW k) i' = some o2 → o1.has j → o2.has j' → (i ≠ i' ∨ j ≠ j') → o1.wr → ρ' (base.length + off NW k + i) j = some b → ρ' (base.length + off NW k + i') j' = some b → False) →
      (∀ d, o.dst = some d → R (upto ρ' (base.length + off NW (k + 1))) v ((a.put o.dst x).tmps.getD d undef)) →
      J ops n base NW TM ρ0 w0 a0 (fun j => S j ∨ j = k) (a.put o.dst x) w' ρ' := by
    intro v x w' ρ' hTM hb hs hnew hseg hinj hv
    have hslot : ∀ j, S j → j ≠ k := fun j h q => hkS (q ▸ h)
    -- the slot k belongs to k alone
    have holdslot : ∀ id j b, ρ' id j = some b → ¬ (base.length + off NW k ≤ id ∧ id < base.length + off NW (k + 1)) → ρ id j = some b := fun id j b h1 h2 => by
      rcases hnew id j b h1 with h | ⟨h3, h4, _⟩
      · exact h
      · exact (h2 ⟨h3, h4⟩).elim
    have hinslot : ∀ id j b, ρ' id j = some b → base.length + off NW k ≤ id → id < base.length + off NW (k + 1) → w.heap.size ≤ b ∧ b < w'.heap.size := fun id j b h1 h2 h3 => by
      rcases hnew id j b h1 with h | ⟨_, _, h4, h5⟩
      · rcases (hJ.dom id j b h).2 with h4 | ⟨_, k', h5, h6, h7, h8⟩
        · have := (hdom0 _ _ _ h4).1; omega
        · rcases Nat.lt_trichotomy k' k with h9 | h9 | h9
          · have := off_mono NW (show k' + 1 ≤ k by omega); omega
          · exact (hslot k' h6 h9).elim
          · have := off_mono NW (show k + 1 ≤ k' by omega); omega
      · exact ⟨h4, h5⟩
    have hapart : ∀ j, S j → ∀ id, base.length + off NW j ≤ id → id < base.length + off NW (j + 1) → ¬ (base.length + off NW k ≤ id ∧ id < base.length + off NW (k + 1)) := fun j h id h1 h2 ⟨h3, h4⟩ => by
      rcases Nat.lt_trichotomy j k with h9 | h9 | h9
      · have := off_mono NW (show j + 1 ≤ k by omega); omega
      · exact hslot j h h9
      · have := off_mono NW (show k + 1 ≤ j by omega); omega
    refine ⟨?_, ?_, hJ.sub.trans hs, ?_, ?_, ?_, by rw [Act.put_size]; exact hJ.tml, (Act.put_defers' _ _ _).trans hJ.dfr⟩
    · rintro j hj (hSj | rfl) i o' hi
      · have hlt := objL_lt hi
        have hin : base.length + off NW j + i < base.length + off NW (j + 1) := by simp only [off]; omega
        refine (hJ.seg j hj hSj i o' hi).keep (hs.upto (Nat.le_refl _)) (fun j' b h => ?_) (fun j' b _ h => hb.block b (hJ.dom _ _ _ (upto_some.1 h).2).1)
        obtain ⟨h1, h2⟩ := upto_some.1 h
        exact upto_some.2 ⟨h1, holdslot _ _ _ h2 (hapart j hSj _ (Nat.le_add_right _ _) hin)⟩
      · exact hseg i o' hi
    · intro id j b h
      rcases hnew id j b h with h | ⟨h1, h2, h3, h4⟩
      · obtain ⟨h1, h2⟩ := hJ.dom id j b h
        exact ⟨Nat.lt_of_lt_of_le h1 hb.size, h2.imp (fun q => q) fun ⟨h3, k', h4, h5, h6⟩ => ⟨h3, k', h4, .inl h5, h6⟩⟩
      · exact ⟨h4, .inr ⟨Nat.le_trans hJ.below.size h3, k, hk, .inr rfl, h1, h2⟩⟩
    · -- apart
      have cls : ∀ id o', Pres n base NW (fun j => S j ∨ j = k) id o' → (Pres n base NW S id o' ∧ ¬ (base.length + off NW k ≤ id ∧ id < base.length + off NW (k + 1))) ∨ ∃ i, id = base.length + off NW k + i ∧ objL (NW k) i = some o' := by
        rintro id o' (h | ⟨k', h1, h2 | rfl, h3, h4⟩)
        · have := objL_lt h
          exact .inl ⟨.inl h, fun q => by omega⟩
        · have := objL_lt h4
          exact .inl ⟨.inr ⟨k', h1, h2, h3, h4⟩, hapart k' h2 id h3 (by simp only [off]; omega)⟩
        · exact .inr ⟨id - (base.length + off NW k'), by omega, h4⟩
      intro id j id' j' o1 o2 b hp hp' hj hj' hne hwr h1 h2
      rcases cls id o1 hp with ⟨hq, hout⟩ | ⟨i, rfl, hi⟩
      · have h1' := holdslot _ _ _ h1 hout
        rcases cls id' o2 hp' with ⟨hq', hout'⟩ | ⟨i', rfl, hi'⟩
        · exact hJ.inj id j id' j' o1 o2 b hq hq' hj hj' hne hwr h1' (holdslot _ _ _ h2 hout')
        · have := (hJ.dom _ _ _ h1').1
          have hlt := objL_lt hi'
          have := (hinslot _ _ _ h2 (Nat.le_add_right _ _) (by simp only [off]; omega)).1
          omega
      · have hlt := objL_lt hi
        have hb1 := (hinslot _ _ _ h1 (Nat.le_add_right _ _) (by simp only [off]; omega)).1
        rcases cls id' o2 hp' with ⟨hq', hout'⟩ | ⟨i', rfl, hi'⟩
        · have := (hJ.dom _ _ _ (holdslot _ _ _ h2 hout')).1
          omega
        · refine hinj i j i' j' o1 o2 b hi hi' hj hj' ?_ hwr h1 h2
          rcases hne with h | h
          · exact .inl fun q => h (by rw [q])
          · exact .inr h
    · exact hJ.below.trans (hb.mono hJ.below.size)
    · intro d k' hk' hS
      by_cases hd : o.dst = some d
      · have hkk : k < k' := (hS k o hk ho hd).1 (.inr rfl)
        have h1 : R (upto ρ' (base.length + off NW (k + 1))) (getL (TM (k + 1)) d) ((a.put o.dst x).tmps.getD d undef) := by
          rw [hTM, hd]
          simp only [putL]
          rw [getL_setL]
          split
          · have := hv d hd
            rw [hd] at this
            exact this
          · rename_i hq
            rw [getL_out]
            · exact .unk _
            · rcases Nat.lt_or_ge d tm1.length with h | h
              · exact (hq ⟨rfl, h⟩).elim
              · exact h
        have h2 := later hst hn (d := d) (k' - (k + 1)) (k + 1) (by omega) (fun j o' h3 h4 h5 h6 => by
          have h7 := (hS j o' (by omega) h5 h6).2 (by omega)
          rcases h7 with h7 | h7
          · exact hww d hd j o' (by omega) (by omega) h5 h6 h7
          · omega) _ _ h1
        rw [show k + 1 + (k' - (k + 1)) = k' by omega] at h2
        refine h2.mono ((Sub.refl ρ').upto ?_)
        have := off_mono NW (show k + 1 ≤ k' by omega)
        omega
      · have h1 := hJ.tms d k' hk' fun j o' hj hj' hd' => by
          have := hS j o' hj hj' hd'
          constructor
          · exact fun h => this.1 (.inl h)
          · intro h
            rcases this.2 h with h | rfl
            · exact h
            · rw [ho] at hj'
              cases hj'
              exact (hd hd').elim
        have h2 : (a.put o.dst x).tmps.getD d undef = a.tmps.getD d undef := by
          cases hq : o.dst with
          | none => rfl
          | some d' =>
            simp only [Act.put, getD_setIf]
            rw [if_neg]
            rintro ⟨q, _⟩
            exact hd (by rw [hq, q])
        rw [h2]
        exact h1.mono (hs.upto (Nat.le_refl _))
  unfold wpOp
  simp only [ho]
  rcases hcase with ⟨v, hwant, hl, hTM⟩ | ⟨hwant, hnew, hTM⟩
  · rw [if_pos (hwant _ _ htr)]
    refine .inl ?_
    unfold stepH at hl
    obtain ⟨st', h1, h2⟩ := hl.bind_inv
    have hplen : (pad k).length = base.length + off NW k := by
      rw [hpad, List.length_append, cat_length (NW := NW)]
      intro j
      cases anc.any (Nat.beq j) <;> simp [deads_length]
    have hbl : Nat.ble (pad k).length st'.mem.low = true := by
      cases hq : Nat.ble (pad k).length st'.mem.low with
      | true => rfl
      | false => rw [hq] at h2; exact h2.fail_inv.elim
    rw [hbl] at h2
    simp only [cond_true] at h2
    have h2 := h2.ret_inv
    simp only [Prod.mk.injEq] at h2
    obtain ⟨hv, hNW⟩ := h2
    have hlow := ble_le hbl
    have hrel : Rel (upto ρ (base.length + off NW k)) { objs := pad k, low := (pad k).length } w := by
      have cls : ∀ id o', objL (pad k) id = some o' → Pres n base NW S id o' ∨ o' = .dead := by
        intro id o' h
        rw [hpad] at h
        rcases objL_app _ _ _ _ h with ⟨h1, h2⟩ | ⟨h1, h2⟩
        · exact .inl (.inl h2)
        · obtain ⟨j, h3, h4, h5, h6⟩ := objL_cat (NW := NW) (by intro j; cases anc.any (Nat.beq j) <;> simp [deads_length]) _ _ _ h2
          cases hq : anc.any (Nat.beq j) with
          | true =>
            rw [hq] at h6
            exact .inl (.inr ⟨j, by omega, hanc j h3 hq, by omega, by rw [show id - (base.length + off NW j) = id - base.length - off NW j by omega]; exact h6⟩)
          | false =>
            rw [hq] at h6
            exact .inr (deads_get _ _ _ h6)
      refine ⟨fun id o' h => ?_, fun id j id' j' o1 o2 b hp hp' hj hj' hne hwr h1 h2 => ?_, fun id j b h => ?_⟩
      · have hid := objL_lt h
        rw [hplen] at hid
        rcases cls id o' h with (hp | ⟨j, h1, h2, h3, h4⟩) | rfl
        · have hlt := objL_lt hp
          refine (h0.objs id o' hp).keep (fun i j b e => ⟨upto_some.2 ⟨?_, (hJ.sub i j b e).1⟩, (hJ.sub i j b e).2⟩) (fun j b e => ?_) (fun j b _ e => hJ.below.block b (hdom0 _ _ _ e).2)
          · have := (hdom0 _ _ _ e).1; omega
          · rcases (hJ.dom _ _ _ (upto_some.1 e).2).2 with h5 | ⟨_, k', _, _, h7, _⟩
            · exact h5
            · omega
        · have hlt := objL_lt h4
          have hjk : j < k := by
            rcases Nat.lt_or_ge j k with h | h
            · exact h
            · have := off_mono NW h; omega
          have := hJ.seg j h1 h2 _ o' h4
          rw [show base.length + off NW j + (id - (base.length + off NW j)) = id by omega] at this
          have hle := off_mono NW (show j + 1 ≤ k by omega)
          refine this.keep ((Sub.refl ρ).upto (by omega)) (fun j' b e => upto_some.2 ⟨by simp only [off]; omega, (upto_some.1 e).2⟩) (fun _ _ _ _ => rfl)
        · trivial
      · rcases cls id o1 hp with hp | rfl
        · rcases cls id' o2 hp' with hp' | rfl
          · exact hJ.inj id j id' j' o1 o2 b hp hp' hj hj' hne hwr (upto_some.1 h1).2 (upto_some.1 h2).2
          · exact hj'.elim
        · exact hj.elim
      · obtain ⟨h1, h2⟩ := upto_some.1 h
        exact ⟨by simp only; omega, (hJ.dom _ _ _ h2).1⟩
    refine op1_ok hE hc h1 hrel htr1 fun ρ2 x w' ht htr2 => ?_
    have hmono : ∀ i j b, (upto ρ (base.length + off NW k)) i j = some b → i < (pad k).length := fun i j b h => by rw [hplen]; exact (upto_some.1 h).1
    have hbelow : Below w.heap.size w w' := ht.keeps.below fun i j b h => Nat.lt_of_lt_of_le (hmono i j b h) hlow
    have hfresh : ∀ i j b, ρ2 i j = some b → (upto ρ (base.length + off NW k)) i j = some b ∨ (base.length + off NW k ≤ i ∧ w.heap.size ≤ b) := fun i j b h => by
      rcases ht.ext.new i j b h with h | ⟨h3, h4⟩
      · exact .inl h
      · simp only [hplen] at h3
        refine .inr ⟨h3, ?_⟩
        rcases h4 with h4 | ⟨i', j', h5, h6⟩
        · exact h4
        · have := hmono _ _ _ h6; omega
    have hNWlen : (pad k).length + (NW k).length = st'.mem.objs.length := by
      have := ht.len
      simp only at this
      rw [hNW, List.length_drop]; omega
    have hdom2 : ∀ i j b, ρ2 i j = some b → i < base.length + off NW (k + 1) ∧ b < w'.heap.size := fun i j b h => by
      have := ht.rel.dom i j b h
      refine ⟨?_, this.2⟩
      simp only [off]
      omega
    -- one place for all
    let ρ' : Ren := ⟨fun i j => if base.length + off NW k ≤ i ∧ i < base.length + off NW (k + 1) then ρ2 i j else ρ i j, fun i => if base.length + off NW k ≤ i ∧ i < base.length + off NW (k + 1) then ρ2.k i else ρ.k i⟩
    have hρ'in : ∀ i j b, base.length + off NW k ≤ i → i < base.length + off NW (k + 1) → (ρ' i j = some b ↔ ρ2 i j = some b) := fun i j b h3 h4 => by
      show (if _ then _ else _) = some b ↔ _
      rw [if_pos ⟨h3, h4⟩]
    have hρ'out : ∀ i j b, ¬ (base.length + off NW k ≤ i ∧ i < base.length + off NW (k + 1)) → (ρ' i j = some b ↔ ρ i j = some b) := fun i j b h3 => by
      show (if _ then _ else _) = some b ↔ _
      rw [if_neg h3]
    have hnotin : ∀ i j b, ρ i j = some b → ¬ (base.length + off NW k ≤ i ∧ i < base.length + off NW (k + 1)) := fun i j b h ⟨h3, h4⟩ => by
      rcases (hJ.dom i j b h).2 with h5 | ⟨_, k', h5, h6, h7, h8⟩
      · have := (hdom0 _ _ _ h5).1; omega
      · rcases Nat.lt_trichotomy k' k with h9 | h9 | h9
        · have := off_mono NW (show k' + 1 ≤ k by omega); omega
        · exact hkS (h9 ▸ h6)
        · have := off_mono NW (show k + 1 ≤ k' by omega); omega
    have hsub : Sub ρ ρ' := fun i j b h => by
      refine ⟨(hρ'out i j b (hnotin i j b h)).2 h, ?_⟩
      show (if _ then _ else _) = _
      rw [if_neg (hnotin i j b h)]
    have hsub2 : Sub ρ2 (upto ρ' (base.length + off NW (k + 1))) := fun i j b h => by
      have hd := hdom2 i j b h
      by_cases hin : base.length + off NW k ≤ i
      · refine ⟨upto_some.2 ⟨hd.1, (hρ'in i j b hin hd.1).2 h⟩, ?_⟩
        show (if _ then _ else _) = _
        rw [if_pos ⟨hin, hd.1⟩]
      · rcases hfresh i j b h with h3 | ⟨h3, _⟩
        · have h4 := (upto_some.1 h3).2
          refine ⟨upto_some.2 ⟨hd.1, (hsub i j b h4).1⟩, ?_⟩
          have e1 := (hsub i j b h4).2
          have e2 := (ht.ext.sub i j b h3).2
          exact e1.trans e2.symm
        · exact (hin h3).elim
    have hobj : ∀ i o', objL (NW k) i = some o' → objL st'.mem.objs (base.length + off NW k + i) = some o' := fun i o' h => by
      rw [hNW, objL_toList] at h
      rw [objL_toList]
      rw [List.getElem?_drop, hplen] at h
      exact h
    refine hK _ _ ρ' (fin v x w' ρ' hTM hbelow hsub (fun i j b h => ?_) (fun i o' h => ?_) (fun i j i' j' o1 o2 b h3 h4 h5 h6 h7 h8 h9 h10 => ?_) (fun d hd => ?_))
    · by_cases hin : base.length + off NW k ≤ i ∧ i < base.length + off NW (k + 1)
      · have h3 := (hρ'in i j b hin.1 hin.2).1 h
        refine .inr ⟨hin.1, hin.2, ?_, (hdom2 _ _ _ h3).2⟩
        rcases hfresh i j b h3 with h4 | ⟨_, h4⟩
        · have := hmono _ _ _ h4; omega
        · exact h4
      · exact .inl ((hρ'out i j b hin).1 h)
    · have hlt := objL_lt h
      refine (ht.rel.objs _ o' (hobj i o' h)).keep hsub2 (fun j b e => ?_) (fun _ _ _ _ => rfl)
      exact (hρ'in _ j b (Nat.le_add_right _ _) (by simp only [off]; omega)).1 (upto_some.1 e).2
    · have hlt := objL_lt h3
      have hlt' := objL_lt h4
      refine ht.rel.inj _ j _ j' o1 o2 b (hobj i o1 h3) (hobj i' o2 h4) h5 h6 ?_ h8 ((hρ'in _ j b (Nat.le_add_right _ _) (by simp only [off]; omega)).1 h9) ((hρ'in _ j' b (Nat.le_add_right _ _) (by simp only [off]; omega)).1 h10)
      rcases h7 with h7 | h7
      · exact .inl fun q => h7 (by omega)
      · exact .inr h7
    · rw [hv]
      simp only [hd]
      have := (htr2.at_ d).mono hsub2
      rw [hd] at this
      exact this
  · rw [if_neg (by rw [hwant _ _ htr]; simp)]
    refine hK _ _ ρ (fin (.tuple []) undef w ρ hTM (.refl _ _) (.refl _) (fun i j b h => .inl h) (fun i o' h => by rw [hnew] at h; cases i <;> cases h) (fun i j i' j' o1 o2 b h => by rw [hnew] at h; cases i <;> cases h) fun d hd => ?_)
    have : (a.put o.dst undef).tmps.getD d undef = undef := by
      rw [hd]
      simp only [Act.put, getD_setIf]
      split
      · rfl
      · rename_i hq
        rw [Array.getD_eq_getD_getElem?, Array.getElem?_eq_none, Option.getD_none]
        rcases Nat.lt_or_ge d a.tmps.size with h | h
        · exact (hq ⟨trivial, h⟩).elim
        · exact h
    rw [this]
    exact .tuple [] [] .nil
end

end Go.X
