/- What a step in a small memory does to a larger one. -/
import Derived.Test.YtomeoihdhkmamaaDoorZxY
set_option linter.unusedVariables false
set_option linter.unusedSimpArgs false
namespace Go.X
open Go.RowKit (Below)

def idxL (l : List Nat) (id i : Nat) : Option Nat :=
  match l with
  | [] => none
  | k :: l => bif Nat.beq k id then some i else idxL l id (i + 1)

theorem idxL_some : ∀ {l : List Nat} {id i k : Nat}, idxL l id i = some k → ∃ d, k = i + d ∧ objL l d = some id
  | [], id, i, k, h => by cases h
  | a :: l, id, i, k, h => by
    unfold idxL at h
    cases hb : Nat.beq a id with
    | true =>
      rw [hb] at h
      cases h
      exact ⟨0, rfl, by rw [objL_zero, Nat.eq_of_beq_eq_true hb]⟩
    | false =>
      rw [hb] at h
      obtain ⟨d, h1, h2⟩ := idxL_some (l := l) h
      exact ⟨d + 1, by omega, by rw [objL_succ]; exact h2⟩

theorem idxL_of : ∀ {l : List Nat} {id i d : Nat}, objL l d = some id → ∃ k, idxL l id i = some k
  | [], id, i, d, h => by cases (objL_nil d).symm.trans h
  | a :: l, id, i, 0, h => by
    rw [objL_zero] at h
    cases h
    unfold idxL
    rw [show Nat.beq a a = true from Nat.beq_refl a]
    exact ⟨i, rfl⟩
  | a :: l, id, i, d + 1, h => by
    rw [objL_succ] at h
    unfold idxL
    cases Nat.beq a id with
    | true => exact ⟨i, rfl⟩
    | false => exact idxL_of h

/-- What stands at id behind the step. -/
noncomputable def back1 (low : Nat) (l : List Nat) (news : List O) (id : Nat) (o : O) : O :=
  match idxL l id 0 with
  | some i => bif Nat.ble low i then (match objL news i with | some o' => o' | none => o) else o
  | none => o

noncomputable def back (low : Nat) (l : List Nat) (news : List O) (id : Nat) (objs : List O) : List O :=
  List.rec (motive := fun _ => Nat → List O) (fun _ => []) (fun o _ ih id => back1 low l news id o :: ih (id + 1)) objs id

theorem back_nil (low : Nat) (l : List Nat) (news : List O) (id : Nat) : back low l news id [] = [] := rfl
theorem back_cons (low : Nat) (l : List Nat) (news : List O) (id : Nat) (o : O) (objs : List O) : back low l news id (o :: objs) = back1 low l news id o :: back low l news (id + 1) objs := rfl

theorem back_length (low : Nat) (l : List Nat) (news : List O) : ∀ (objs : List O) (id : Nat), (back low l news id objs).length = objs.length
  | [], id => rfl
  | o :: objs, id => by rw [back_cons, List.length_cons, List.length_cons, back_length low l news objs (id + 1)]

theorem back_at (low : Nat) (l : List Nat) (news : List O) : ∀ (objs : List O) (id k : Nat), objL (back low l news id objs) k = (objL objs k).map (back1 low l news (id + k))
  | [], id, k => by rw [back_nil, objL_nil]; rfl
  | o :: objs, id, 0 => rfl
  | o :: objs, id, k + 1 => by rw [back_cons, objL_succ, objL_succ, back_at low l news objs (id + 1) k, show id + 1 + k = id + (k + 1) by omega]

def lowL (low : Nat) : List Nat → Nat → Nat → Nat
  | [], _, m => m
  | k :: l, i, m => bif Nat.ble low i then min k (lowL low l (i + 1) m) else lowL low l (i + 1) m

theorem lowL_le (low : Nat) : ∀ (l : List Nat) (i m : Nat), lowL low l i m ≤ m
  | [], i, m => Nat.le_refl _
  | k :: l, i, m => by
    unfold lowL
    have := lowL_le low l (i + 1) m
    cases Nat.ble low i with
    | true => simp only [cond_true]; omega
    | false => exact this

theorem lowL_at (low : Nat) : ∀ (l : List Nat) (i m d k : Nat), objL l d = some k → low ≤ i + d → lowL low l i m ≤ k
  | [], i, m, d, k, h, _ => by cases (objL_nil d).symm.trans h
  | a :: l, i, m, 0, k, h, hl => by
    rw [objL_zero] at h
    cases h
    unfold lowL
    rw [show Nat.ble low i = true from Nat.ble_eq_true_of_le (by omega)]
    simp only [cond_true]
    omega
  | a :: l, i, m, d + 1, k, h, hl => by
    rw [objL_succ] at h
    have := lowL_at low l (i + 1) m d k h (by omega)
    unfold lowL
    cases Nat.ble low i with
    | true => simp only [cond_true]; omega
    | false => exact this

/-- The larger memory behind the step. -/
noncomputable def merge (l : List Nat) (n : Nat) (m m1 : Mem) : Mem :=
  { objs := back m1.low l (upOs (upId l n m.objs.length) m1.objs) 0 m.objs ++ upOs (upId l n m.objs.length) (m1.objs.drop n), low := lowL m1.low l 0 m.low }

def kindP (p o : O) : Prop :=
  match p, o with
  | .cells .., .cells .. => True
  | .fam _ n _, .fam _ n' _ => n' = n
  | _, .dead => True
  | _, _ => False

theorem kindP_has {p o : O} {j : Nat} (h : kindP p o) (hj : o.has j) : p.has j := by
  cases o with
  | dead => cases hj
  | cells _ _ _ _ => cases p with
    | cells _ _ _ _ => exact hj
    | fam _ _ _ => cases h
    | dead => cases h
  | fam e n f => cases p with
    | cells _ _ _ _ => cases h
    | fam _ _ _ => have h : n = _ := h; subst h; exact hj
    | dead => cases h

/-- What is written may be written. -/
def wrOk (low : Nat) : Nat → List O → List O → List O → Prop
  | i, p :: ps, q :: qs, o :: os => match Nat.ble low i with
    | true => (kindP p o ∧ q.wr) ∧ wrOk low (i + 1) ps qs os
    | false => wrOk low (i + 1) ps qs os
  | _, _, _, _ => True

theorem wrOk_at {low : Nat} : ∀ {i : Nat} {ps qs os : List O}, wrOk low i ps qs os → ∀ d p q o, objL ps d = some p → objL qs d = some q → objL os d = some o → low ≤ i + d → kindP p o ∧ q.wr
  | i, [], qs, os, h, d, p, q, o, h1, _, _, _ => by cases (objL_nil d).symm.trans h1
  | i, _ :: _, [], os, h, d, p, q, o, _, h1, _, _ => by cases (objL_nil d).symm.trans h1
  | i, _ :: _, _ :: _, [], h, d, p, q, o, _, _, h1, _ => by cases (objL_nil d).symm.trans h1
  | i, a :: ps, b :: qs, c :: os, h, 0, p, q, o, h1, h2, h3, hl => by
    rw [objL_zero] at h1 h2 h3
    cases h1; cases h2; cases h3
    unfold wrOk at h
    rw [show Nat.ble low i = true from Nat.ble_eq_true_of_le (by omega)] at h
    exact h.1
  | i, a :: ps, b :: qs, c :: os, h, d + 1, p, q, o, h1, h2, h3, hl => by
    rw [objL_succ] at h1 h2 h3
    unfold wrOk at h
    split at h
    · exact wrOk_at h.2 d p q o h1 h2 h3 (by omega)
    · exact wrOk_at h d p q o h1 h2 h3 (by omega)

theorem objL_app2 {α : Type} : ∀ (l r : List α) (i : Nat), objL (l ++ r) i = if i < l.length then objL l i else objL r (i - l.length)
  | [], r, i => by simp
  | a :: l, r, 0 => by simp [objL_zero]
  | a :: l, r, i + 1 => by
    rw [List.cons_append, objL_succ, objL_succ, objL_app2 l r i]
    simp

theorem objL_drop {α : Type} : ∀ (l : List α) (n i : Nat), objL (l.drop n) i = objL l (n + i)
  | l, 0, i => by simp
  | [], n + 1, i => by simp [objL_nil]
  | a :: l, n + 1, i => by rw [List.drop_succ_cons, objL_drop l n i, show n + 1 + i = (n + i) + 1 by omega, objL_succ]

theorem frame {ρ : Ren} {m : Mem} {w : World} (hr : Rel ρ m w) {l : List Nat} {ps : List O} (hv : View m.objs l ps) {ρs : Ren} {m1 : Mem} {w' : World}
    (ht : Tr (ρ.via (upId l ps.length m.objs.length) (Has ps)) ⟨ps, ps.length⟩ w ρs m1 w') (hw : wrOk m1.low 0 ps (picks m.objs l) m1.objs) :
    ∃ ρ', Tr ρ m w ρ' (merge l ps.length m m1) w' ∧ Maps (upId l ps.length m.objs.length) ρs ρ' := by
  have hlen : l.length = ps.length := hv.len
  generalize hs : upId l ps.length m.objs.length = s at ht
  have hsl : ∀ i k, objL l i = some k → s i = k := fun i k h => by rw [← hs]; exact upId_lt h
  have hsg : ∀ i, ps.length ≤ i → s i = m.objs.length + (i - ps.length) := fun i h => by rw [← hs]; exact upId_ge (by omega)
  have hl1 : m1.low ≤ ps.length := ht.low
  have hn1 : ps.length ≤ m1.objs.length := ht.len
  -- old names
  have F1 : ∀ i j b, i < ps.length → ρs i j = some b → Has ps i j ∧ ρ (s i) j = some b := by
    intro i j b hi h
    rcases ht.ext.new i j b h with h | ⟨h, _⟩
    · exact via_some.1 h
    · simp only at h; omega
  have F1' : ∀ i j b, Has ps i j → ρ (s i) j = some b → ρs i j = some b ∧ ρs.k i = ρ.k (s i) := fun i j b h h' => ht.ext.sub i j b (via_some.2 ⟨h, h'⟩)
  -- what a written object is in the larger memory
  have W : ∀ i, m1.low ≤ i → i < ps.length → ∃ k p q o, objL l i = some k ∧ s i = k ∧ k < m.objs.length ∧ objL ps i = some p ∧ objL m.objs k = some q ∧ objL m1.objs i = some o ∧ kindP p o ∧ q.wr ∧ ∀ j, p.has j → q.has j := by
    intro i hi hlt
    obtain ⟨p, hp⟩ := objL_some hlt
    obtain ⟨o, ho⟩ := objL_some (show i < m1.objs.length by omega)
    obtain ⟨k, q, h1, h2, h3, h4, h5⟩ := hv.at_ hp
    obtain ⟨q', h6, h7⟩ := picks_at m.objs l i k h1 h3
    have : q' = q := by rw [h4] at h6; exact (Option.some.inj h6).symm
    subst this
    obtain ⟨h8, h9⟩ := wrOk_at hw i p q' o hp h7 ho (by omega)
    exact ⟨k, p, q', o, h1, hsl _ _ h1, h3, hp, h4, ho, h8, h9, fun j hj => weakO_has h5 hj⟩
  let ρ' : Ren := ⟨fun id j => if id < m.objs.length then ρ id j else ρs (ps.length + (id - m.objs.length)) j, fun id => if id < m.objs.length then ρ.k id else ρs.k (ps.length + (id - m.objs.length))⟩
  have R1 : ∀ id j, id < m.objs.length → ρ' id j = ρ id j := fun id j h => by show (if _ then _ else _) = _; rw [if_pos h]
  have R1k : ∀ id, id < m.objs.length → ρ'.k id = ρ.k id := fun id h => by show (if _ then _ else _) = _; rw [if_pos h]
  have R2 : ∀ id j, m.objs.length ≤ id → ρ' id j = ρs (ps.length + (id - m.objs.length)) j := fun id j h => by show (if _ then _ else _) = _; rw [if_neg (by omega)]
  have R2k : ∀ id, m.objs.length ≤ id → ρ'.k id = ρs.k (ps.length + (id - m.objs.length)) := fun id h => by show (if _ then _ else _) = _; rw [if_neg (by omega)]
  have slt : ∀ i, i < ps.length → s i < m.objs.length := by
    intro i hi
    obtain ⟨p, hp⟩ := objL_some hi
    obtain ⟨k, o, h1, h2, h3, h4, h5⟩ := hv.at_ hp
    rw [hsl _ _ h1]; exact h3
  have S2 : ∀ i j, ps.length ≤ i → ρ' (s i) j = ρs i j ∧ ρ'.k (s i) = ρs.k i := by
    intro i j hi
    have h1 := hsg i hi
    rw [R2 _ _ (by omega), R2k _ (by omega), show ps.length + (s i - m.objs.length) = i by omega]
    exact ⟨rfl, rfl⟩
  have MP : Maps s ρs ρ' := by
    intro i j b h
    rcases Nat.lt_or_ge i ps.length with hi | hi
    · obtain ⟨h1, h2⟩ := F1 i j b hi h
      rw [R1 _ _ (slt i hi), R1k _ (slt i hi)]
      exact ⟨h2, (F1' i j b h1 h2).2.symm⟩
    · rw [(S2 i j hi).1, (S2 i j hi).2]
      exact ⟨h, rfl⟩
  have SUB : Sub ρ ρ' := by
    intro id j b h
    have := (hr.dom _ _ _ h).1
    rw [R1 _ _ this, R1k _ this]
    exact ⟨h, rfl⟩
  -- blocks of what was not written
  have KEEP : ∀ id o j b, objL m.objs id = some o → o.has j → (∀ i, m1.low ≤ i → i < ps.length → s i ≠ id) → ρ id j = some b → w'.heap[b]? = w.heap[b]? := by
    intro id o j b ho hj hne hb
    refine ht.keeps.block b (hr.dom _ _ _ hb).2 fun i j' hi h => ?_
    obtain ⟨h1, h2⟩ := via_some.1 h
    have hi' : i < ps.length := by obtain ⟨p, hp, _⟩ := h1; exact objL_lt hp
    obtain ⟨k, p, q, o1, g1, g2, g3, g4, g5, g6, g7, g8, g9⟩ := W i hi hi'
    obtain ⟨p', hp', hj'⟩ := h1
    rw [g4] at hp'
    cases hp'
    rw [g2] at h2
    exact hr.inj k j' id j q o b g5 ho (g9 j' hj') hj (.inl (fun q => hne i hi hi' (g2.trans q))) g8 h2 hb
  -- what stands where behind the step
  have ML : (merge l ps.length m m1).objs.length = m.objs.length + (m1.objs.length - ps.length) := by
    show (back _ _ _ _ _ ++ upOs _ _).length = _
    have : ∀ (s : Nat → Nat) (os : List O), (upOs s os).length = os.length := by
      intro s os
      induction os with
      | nil => rfl
      | cons o os ih => show (upO s o :: upOs s os).length = _; rw [List.length_cons, ih, List.length_cons]
    rw [List.length_append, back_length, this, List.length_drop]
  have AT : ∀ id o, objL (merge l ps.length m m1).objs id = some o →
      (id < m.objs.length ∧ objL m.objs id = some o ∧ (∀ i, m1.low ≤ i → i < ps.length → s i ≠ id)) ∨
      (∃ i o1, s i = id ∧ m1.low ≤ i ∧ objL m1.objs i = some o1 ∧ o = upO s o1 ∧ (i < ps.length → id < m.objs.length)) := by
    intro id o h
    have h : objL (back m1.low l (upOs (upId l ps.length m.objs.length) m1.objs) 0 m.objs ++ upOs (upId l ps.length m.objs.length) (m1.objs.drop ps.length)) id = some o := h
    rw [hs] at h
    rw [objL_app2, back_length] at h
    split at h
    · rename_i hid
      rw [back_at] at h
      obtain ⟨o0, ho0⟩ := objL_some hid
      rw [ho0] at h
      have h := Option.some.inj h
      rw [Nat.zero_add] at h
      unfold back1 at h
      split at h
      · rename_i i hi
        obtain ⟨d, hd, hid2⟩ := idxL_some hi
        rw [Nat.zero_add] at hd
        subst hd
        have hi' : i < ps.length := by rw [← hlen]; exact objL_lt hid2
        cases hb : Nat.ble m1.low i with
        | true =>
          rw [hb] at h
          simp only [cond_true] at h
          obtain ⟨o1, ho1⟩ := objL_some (show i < m1.objs.length by omega)
          rw [upOs_at, ho1] at h
          exact .inr ⟨i, o1, hsl _ _ hid2, ble_le hb, ho1, h.symm, fun _ => hid⟩
        | false =>
          rw [hb] at h
          simp only [cond_false] at h
          subst h
          refine .inl ⟨hid, ho0, fun i' h1 h2 h3 => ?_⟩
          obtain ⟨k, p, q, o1, g1, g2, _⟩ := W i' h1 h2
          have : i = i' := nodup_at hv.nodup hid2 (by rw [g1, ← g2, h3])
          subst this
          rw [show Nat.ble m1.low i = true from Nat.ble_eq_true_of_le h1] at hb
          cases hb
      · rename_i hi
        subst h
        refine .inl ⟨hid, ho0, fun i' h1 h2 h3 => ?_⟩
        obtain ⟨k, p, q, o1, g1, g2, _⟩ := W i' h1 h2
        obtain ⟨d, hd⟩ := idxL_of (i := 0) (show objL l i' = some id by rw [g1, ← g2, h3])
        rw [hi] at hd
        cases hd
    · rename_i hid
      rw [upOs_at, objL_drop] at h
      obtain ⟨o1, ho1, h⟩ := Option.map_eq_some_iff.1 h
      refine .inr ⟨_, o1, ?_, ?_, ho1, h.symm, fun q => ?_⟩
      · rw [hsg _ (by omega)]; omega
      · omega
      · omega
  -- a written or new object's blocks
  have BL : ∀ i o1 j b, objL m1.objs i = some o1 → o1.has j → m1.low ≤ i → ρ' (s i) j = some b → ρs i j = some b := by
    intro i o1 j b h1 h2 h3 h4
    rcases Nat.lt_or_ge i ps.length with hi | hi
    · obtain ⟨k, p, q, o, g1, g2, g3, g4, g5, g6, g7, g8, g9⟩ := W i h3 hi
      rw [h1] at g6
      cases g6
      rw [R1 _ _ (slt i hi)] at h4
      exact (F1' i j b ⟨p, g4, kindP_has g7 h2⟩ h4).1
    · rw [(S2 i j hi).1] at h4
      exact h4
  have APART : ∀ i o1 j id o j' b, objL m1.objs i = some o1 → o1.has j → m1.low ≤ i → ρs i j = some b → objL m.objs id = some o → o.has j' → (∀ i, m1.low ≤ i → i < ps.length → s i ≠ id) → ρ id j' = some b → False := by
    intro i o1 j id o j' b h1 h2 h3 h4 h5 h6 h7 h8
    have fin : ∀ i2 j2, m1.low ≤ i2 → ρ.via s (Has ps) i2 j2 = some b → False := by
      intro i2 j2 g1 g2
      obtain ⟨⟨p, g3, g4⟩, g5⟩ := via_some.1 g2
      obtain ⟨k, p', q, o, f1, f2, f3, f4, f5, f6, f7, f8, f9⟩ := W i2 g1 (objL_lt g3)
      rw [g3] at f4
      cases f4
      rw [f2] at g5
      exact hr.inj k j2 id j' q _ b f5 h5 (f9 _ g4) h6 (.inl fun q => h7 i2 g1 (objL_lt g3) (f2.trans q)) f8 g5 h8
    rcases ht.ext.new i j b h4 with h | ⟨_, h | ⟨i2, j2, h, h'⟩⟩
    · exact fin i j h3 h
    · have := (hr.dom _ _ _ h8).2
      omega
    · exact fin i2 j2 h h'
  refine ⟨ρ', ⟨⟨?_, ?_, ?_⟩, ⟨SUB, ?_⟩, ⟨ht.keeps.os, ht.keeps.tape, ht.keeps.output, ht.keeps.size, ?_⟩, ?_, ?_⟩, MP⟩
  · -- objects
    intro id o h
    rcases AT id o h with ⟨h1, h2, h3⟩ | ⟨i, o1, rfl, h2, h3, rfl, h4⟩
    · exact (hr.objs id o h2).keep SUB (fun j b q => by rwa [R1 _ _ h1] at q) fun j b hj hb => KEEP id o j b h2 hj h3 hb
    · have h5 := ht.rel.objs i o1 h3
      cases o1 with
      | dead => trivial
      | cells wr e sp vs =>
        rcases h5 with ⟨g1, g2⟩ | ⟨b, pre, xs, tl, e2, fz, g1, gp, g2, g3, g4, g5⟩
        · refine .inl ⟨?_, g2.up MP⟩
          cases hq : ρ' (s i) 0 with
          | none => rfl
          | some b => have := BL i _ 0 b h3 rfl h2 hq; rw [g1] at this; cases this
        · exact .inr ⟨b, pre, xs, tl, e2, fz, (MP _ _ _ g1).1, by rw [(MP _ _ _ g1).2]; exact gp, g2.up MP, g3, g4, fun q => ⟨(g5 q).1, (g5 q).2.1, (g5 q).2.2.trans (MP _ _ _ g1).2.symm⟩⟩
      | fam e n f =>
        intro k hk
        obtain ⟨b, xs, g1, gk, g2, g3⟩ := h5 k hk
        exact ⟨b, xs, (MP _ _ _ g1).1, by rw [(MP _ _ _ g1).2]; exact gk, g2.up MP, g3⟩
  · -- apart
    intro id j id' j' o o' b h h' hj hj' hne hwr hb hb'
    rcases AT id o h with ⟨h1, h2, h3⟩ | ⟨i, o1, rfl, h2, h3, rfl, h4⟩
    · rcases AT id' o' h' with ⟨g1, g2, g3⟩ | ⟨i', o1', rfl, g2, g3, rfl, g4⟩
      · rw [R1 _ _ h1] at hb
        rw [R1 _ _ g1] at hb'
        exact hr.inj id j id' j' o o' b h2 g2 hj hj' hne hwr hb hb'
      · rw [R1 _ _ h1] at hb
        have hj1 : o1'.has j' := by cases o1' <;> exact hj'
        exact APART i' o1' j' id o j b g3 hj1 g2 (BL i' o1' j' b g3 hj1 g2 hb') h2 hj h3 hb
    · have hj1 : o1.has j := by cases o1 <;> exact hj
      have hb1 := BL i o1 j b h3 hj1 h2 hb
      rcases AT id' o' h' with ⟨g1, g2, g3⟩ | ⟨i', o1', rfl, g2, g3, rfl, g4⟩
      · rw [R1 _ _ g1] at hb'
        exact APART i o1 j id' o' j' b h3 hj1 h2 hb1 g2 hj' g3 hb'
      · have hj1' : o1'.has j' := by cases o1' <;> exact hj'
        have hb1' := BL i' o1' j' b g3 hj1' g2 hb'
        have hwr1 : o1.wr := by cases o1 <;> exact hwr
        refine ht.rel.inj i j i' j' o1 o1' b h3 g3 hj1 hj1' ?_ hwr1 hb1 hb1'
        rcases hne with hne | hne
        · exact .inl fun q => hne (by rw [q])
        · exact .inr hne
  · intro id j b h
    rw [ML]
    rcases Nat.lt_or_ge id m.objs.length with hid | hid
    · rw [R1 _ _ hid] at h
      have := (hr.dom _ _ _ h).2
      exact ⟨by omega, Nat.lt_of_lt_of_le this ht.keeps.size⟩
    · rw [R2 _ _ hid] at h
      have := ht.rel.dom _ _ _ h
      exact ⟨by omega, this.2⟩
  · intro id j b h
    rcases Nat.lt_or_ge id m.objs.length with hid | hid
    · rw [R1 _ _ hid] at h
      exact .inl h
    · rw [R2 _ _ hid] at h
      refine .inr ⟨hid, ?_⟩
      rcases ht.ext.new _ j b h with h | ⟨_, h | ⟨i2, j2, h, h'⟩⟩
      · obtain ⟨⟨p, g3, g4⟩, g5⟩ := via_some.1 h
        have := objL_lt g3
        omega
      · exact .inl h
      · obtain ⟨⟨p, g3, g4⟩, g5⟩ := via_some.1 h'
        obtain ⟨k, p', q, o, f1, f2, f3, f4, f5, f6, f7, f8, f9⟩ := W i2 h (objL_lt g3)
        refine .inr ⟨k, j2, ?_, by rw [← f2]; exact g5⟩
        exact lowL_at _ l 0 _ i2 k f1 (by omega)
  · intro b hb hn
    refine ht.keeps.block b hb fun i j hi h => ?_
    obtain ⟨⟨p, g3, g4⟩, g5⟩ := via_some.1 h
    obtain ⟨k, p', q, o, f1, f2, f3, f4, f5, f6, f7, f8, f9⟩ := W i hi (objL_lt g3)
    refine hn k j ?_ (by rw [← f2]; exact g5)
    exact lowL_at _ l 0 _ i k f1 (by omega)
  · exact lowL_le _ l 0 _
  · rw [ML]; omega

end Go.X
