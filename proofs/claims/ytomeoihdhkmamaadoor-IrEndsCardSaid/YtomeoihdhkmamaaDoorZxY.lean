/- Views and frames: what holds of a small memory holds of a larger one. -/
import Derived.Test.YtomeoihdhkmamaaDoorZxX
set_option linter.unusedVariables false
set_option linter.unusedSimpArgs false
namespace Go.X
open Go.RowKit (Below)

noncomputable def Ren.via (ρ : Ren) (s : Nat → Nat) (G : Nat → Nat → Prop) : Ren :=
  open Classical in ⟨fun i j => if G i j then ρ (s i) j else Option.none, fun i => ρ.k (s i)⟩

theorem via_some {ρ : Ren} {s : Nat → Nat} {G : Nat → Nat → Prop} {i j b : Nat} : ρ.via s G i j = some b ↔ G i j ∧ ρ (s i) j = some b := by
  show (open Classical in if G i j then ρ (s i) j else Option.none) = some b ↔ _
  by_cases h : G i j <;> simp [h]

theorem via_of {ρ : Ren} {s : Nat → Nat} {G : Nat → Nat → Prop} {i j : Nat} (h : G i j) : ρ.via s G i j = ρ (s i) j := by
  show (open Classical in if G i j then ρ (s i) j else Option.none) = _
  simp [h]

def nodupB : List Nat → Bool
  | [] => true
  | i :: l => l.all (fun k => !(Nat.beq i k)) && nodupB l

structure View (objs : List O) (l : List Nat) (ps : List O) : Prop where
  len : l.length = ps.length
  nodup : nodupB l = true
  lt : l.all (fun i => Nat.blt i objs.length) = true
  eq : weakOs (upOs (upId l ps.length objs.length) ps) (picks objs l) = upOs (upId l ps.length objs.length) ps

theorem objL_mem {α : Type} : ∀ {l : List α} {i : Nat} {a : α}, objL l i = some a → a ∈ l
  | [], i, a, h => by cases (objL_nil i).symm.trans h
  | b :: l, 0, a, h => by rw [objL_zero] at h; cases h; exact List.mem_cons_self ..
  | b :: l, i + 1, a, h => by rw [objL_succ] at h; exact List.mem_cons_of_mem _ (objL_mem h)

theorem objL_some {α : Type} : ∀ {l : List α} {i : Nat}, i < l.length → ∃ a, objL l i = some a
  | [], i, h => by cases h
  | b :: l, 0, h => ⟨b, rfl⟩
  | b :: l, i + 1, h => by rw [objL_succ]; exact objL_some (by simpa using h)

theorem nodup_at : ∀ {l : List Nat}, nodupB l = true → ∀ {i i' k : Nat}, objL l i = some k → objL l i' = some k → i = i'
  | [], _, i, i', k, h, _ => by cases (objL_nil i).symm.trans h
  | a :: l, hn, 0, 0, k, _, _ => rfl
  | a :: l, hn, 0, i' + 1, k, h, h' => by
    rw [objL_zero] at h; rw [objL_succ] at h'
    cases h
    simp only [nodupB, Bool.and_eq_true] at hn
    have := List.all_eq_true.1 hn.1 _ (objL_mem h')
    simp at this
  | a :: l, hn, i + 1, 0, k, h, h' => by
    rw [objL_zero] at h'; rw [objL_succ] at h
    cases h'
    simp only [nodupB, Bool.and_eq_true] at hn
    have := List.all_eq_true.1 hn.1 _ (objL_mem h)
    simp at this
  | a :: l, hn, i + 1, i' + 1, k, h, h' => by
    rw [objL_succ] at h h'
    simp only [nodupB, Bool.and_eq_true] at hn
    rw [nodup_at hn.2 h h']

theorem upOs_at (s : Nat → Nat) : ∀ (ps : List O) (i : Nat), objL (upOs s ps) i = (objL ps i).map (upO s)
  | [], i => rfl
  | p :: ps, 0 => rfl
  | p :: ps, i + 1 => by
    show objL (upO s p :: upOs s ps) (i + 1) = _
    rw [objL_succ, objL_succ, upOs_at s ps i]

theorem weakOs_at : ∀ (ps os : List O) (i : Nat) (p o : O), objL ps i = some p → objL os i = some o → objL (weakOs ps os) i = some (weakO p o)
  | [], os, i, p, o, h, _ => by cases (objL_nil i).symm.trans h
  | p :: ps, [], i, _, o, _, h => by cases (objL_nil i).symm.trans h
  | p :: ps, o :: os, 0, _, _, h, h' => by
    rw [objL_zero] at h h'
    cases h; cases h'
    rfl
  | p :: ps, o :: os, i + 1, _, _, h, h' => by
    rw [objL_succ] at h h'
    show objL (weakO p o :: weakOs ps os) (i + 1) = _
    rw [objL_succ]
    exact weakOs_at ps os i _ _ h h'

theorem picks_at (objs : List O) : ∀ (l : List Nat) (i k : Nat), objL l i = some k → k < objs.length → ∃ o, objL objs k = some o ∧ objL (picks objs l) i = some o
  | [], i, k, h, _ => by cases (objL_nil i).symm.trans h
  | a :: l, 0, k, h, hk => by
    rw [objL_zero] at h
    cases h
    obtain ⟨o, ho⟩ := objL_some hk
    refine ⟨o, ho, ?_⟩
    rw [picks_cons, objL_zero, ho]
  | a :: l, i + 1, k, h, hk => by
    rw [objL_succ] at h
    obtain ⟨o, h1, h2⟩ := picks_at objs l i k h hk
    exact ⟨o, h1, by rw [picks_cons, objL_succ]; exact h2⟩

theorem objL_none {α : Type} : ∀ {l : List α} {i : Nat}, l.length ≤ i → objL l i = none
  | [], i, _ => objL_nil i
  | a :: l, 0, h => by simp at h
  | a :: l, i + 1, h => by rw [objL_succ]; exact objL_none (by simpa using h)

theorem upId_lt {l : List Nat} {n N i k : Nat} (h : objL l i = some k) : upId l n N i = k := by
  unfold upId
  rw [h]

theorem upId_ge {l : List Nat} {n N i : Nat} (h : l.length ≤ i) : upId l n N i = N + (i - n) := by
  unfold upId
  rw [objL_none h]

section
variable {objs : List O} {l : List Nat} {ps : List O}

theorem View.at_ (hv : View objs l ps) {i : Nat} {p : O} (h : objL ps i = some p) : ∃ k o, objL l i = some k ∧ upId l ps.length objs.length i = k ∧ k < objs.length ∧ objL objs k = some o ∧ weakO (upO (upId l ps.length objs.length) p) o = upO (upId l ps.length objs.length) p := by
  have hi : i < l.length := by rw [hv.len]; exact objL_lt h
  obtain ⟨k, hk⟩ := objL_some hi
  have hlt : k < objs.length := by
    have := List.all_eq_true.1 hv.lt k (objL_mem hk)
    exact ble_le this
  obtain ⟨o, h1, h2⟩ := picks_at objs l i k hk hlt
  refine ⟨k, o, hk, upId_lt hk, hlt, h1, ?_⟩
  have h3 : objL (upOs (upId l ps.length objs.length) ps) i = some (upO (upId l ps.length objs.length) p) := by rw [upOs_at, h]; rfl
  have h4 := weakOs_at _ _ i _ _ h3 h2
  rw [hv.eq, h3] at h4
  exact (Option.some.inj h4).symm

theorem weakO_has {s : Nat → Nat} {p o : O} {j : Nat} (h : weakO (upO s p) o = upO s p) (hp : p.has j) : o.has j := by
  cases p with
  | dead => cases hp
  | cells wr e sp vs =>
    cases o with
    | cells _ _ _ _ => exact hp
    | fam _ _ _ => cases h
    | dead => cases h
  | fam e n f =>
    cases o with
    | fam e' n' f' =>
      simp only [upO, weakO, O.fam.injEq] at h
      have : n' = n := h.2.1
      subst this
      exact hp
    | cells _ _ _ _ => cases h
    | dead => cases h

theorem weakO_wr {s : Nat → Nat} {p o : O} (h : weakO (upO s p) o = upO s p) (hp : p.wr) : o.wr := by
  cases p with
  | dead => cases hp
  | cells wr e sp vs =>
    cases o with
    | cells wr' _ _ _ =>
      simp only [upO, weakO, O.cells.injEq] at h
      have hp : wr = true := hp
      subst hp
      exact (by simpa using h.1 : wr' = true)
    | fam _ _ _ => cases h
    | dead => cases h
  | fam e n f =>
    cases o with
    | fam e' n' f' => trivial
    | cells _ _ _ _ => cases h
    | dead => cases h

/-- A view of memory. -/
theorem View.rel {ρ : Ren} {low low' : Nat} {w : World} (hv : View objs l ps) (hr : Rel ρ ⟨objs, low⟩ w) (G : Nat → Nat → Prop) (P : A → Prop)
    (hG : ∀ i j o, objL ps i = some o → o.has j → G i j) (hG' : ∀ i j, G i j → i < ps.length) (hK : Known (upId l ps.length objs.length) P ρ (ρ.via (upId l ps.length objs.length) G))
    (hp : ∀ i o, objL ps i = some o → refsO P o) : Rel (ρ.via (upId l ps.length objs.length) G) ⟨ps, low'⟩ w where
  objs := fun i p h => by
    obtain ⟨k, o, h1, h2, h3, h4, h5⟩ := hv.at_ h
    refine ORel.down hK (fun j hj => ⟨via_of (hG i j p h hj), rfl⟩) (hp i p h) ?_
    have h6 := ORel.weak (upO (upId l ps.length objs.length) p) (hr.objs k o h4)
    rw [h5] at h6
    rw [h2]
    exact h6
  inj := fun i j i' j' o o' b h h' hj hj' hne hwr hb hb' => by
    obtain ⟨k, q, h1, h2, h3, h4, h5⟩ := hv.at_ h
    obtain ⟨k', q', h1', h2', h3', h4', h5'⟩ := hv.at_ h'
    have hb := (via_some.1 hb).2
    have hb' := (via_some.1 hb').2
    rw [h2] at hb
    rw [h2'] at hb'
    refine hr.inj k j k' j' q q' b h4 h4' (weakO_has h5 hj) (weakO_has h5' hj') ?_ (weakO_wr h5 hwr) hb hb'
    rcases hne with hne | hne
    · exact .inl fun q => hne (nodup_at hv.nodup h1 (q ▸ h1'))
    · exact .inr hne
  dom := fun i j b h => by
    have h := via_some.1 h
    exact ⟨hG' i j h.1, (hr.dom _ _ _ h.2).2⟩

def Has (ps : List O) (i j : Nat) : Prop := ∃ o, objL ps i = some o ∧ o.has j

/-- A reference into a small memory. -/
def refA (ps : List O) (a : A) : Prop := Has ps a.id a.j ∨ ps.length ≤ a.id

theorem known_plain (ρ : Ren) {low : Nat} {w : World} (hv : View objs l ps) (hr : Rel ρ ⟨objs, low⟩ w) : Known (upId l ps.length objs.length) (fun _ => True) ρ (ρ.via (upId l ps.length objs.length) fun i _ => i < ps.length) := by
  intro a b _ h
  have hi : a.id < ps.length := by
    rcases Nat.lt_or_ge a.id ps.length with h1 | h1
    · exact h1
    · rw [upId_ge (by rw [hv.len]; exact h1)] at h
      have := (hr.dom _ _ _ h).1
      simp only at this
      omega
  exact ⟨via_some.2 ⟨hi, h⟩, rfl⟩

theorem known_has (ρ : Ren) {low : Nat} {w : World} (hv : View objs l ps) (hr : Rel ρ ⟨objs, low⟩ w) : Known (upId l ps.length objs.length) (refA ps) ρ (ρ.via (upId l ps.length objs.length) (Has ps)) := by
  rintro a b (hp | hp) h
  · exact ⟨via_some.2 ⟨hp, h⟩, rfl⟩
  · rw [upId_ge (by rw [hv.len]; exact hp)] at h
    have := (hr.dom _ _ _ h).1
    simp only at this
    omega

end

end Go.X
