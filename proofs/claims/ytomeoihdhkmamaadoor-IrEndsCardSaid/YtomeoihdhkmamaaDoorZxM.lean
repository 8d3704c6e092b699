/- Contracts of calls and of loops over a small memory, and their use over a larger one. -/
import Derived.Test.YtomeoihdhkmamaaDoorZxZ
set_option linter.unusedVariables false
set_option linter.unusedSimpArgs false
namespace Go.X
open Go.RowKit (Below)

def refsOs (P : A → Prop) : List O → Prop
  | [] => True
  | o :: os => refsO P o ∧ refsOs P os

theorem refsOs_at {P : A → Prop} : ∀ {ps : List O}, refsOs P ps → ∀ i o, objL ps i = some o → refsO P o
  | [], h, i, o, h1 => by cases (objL_nil i).symm.trans h1
  | p :: ps, h, 0, o, h1 => by rw [objL_zero] at h1; cases h1; exact h.1
  | p :: ps, h, i + 1, o, h1 => by rw [objL_succ] at h1; exact refsOs_at h.2 i o h1

noncomputable def lOk (l : List Nat) (ps objs : List O) : Bool := Nat.beq l.length ps.length && (nodupB l && l.all (fun i => Nat.blt i objs.length))

/-- The values and objects that a contract asks are there. -/
def fits (l : List Nat) (as : List V) (ps : List O) (args : List V) (objs : List O) : Prop :=
  (weakL (upL (upId l ps.length objs.length) as) args = upL (upId l ps.length objs.length) as ∧
  weakOs (upOs (upId l ps.length objs.length) ps) (picks objs l) = upOs (upId l ps.length objs.length) ps) ∧
  refsL (refA ps) as ∧ refsOs (refA ps) ps

noncomputable def fitT {α : Type} (l : List Nat) (as : List V) (ps : List O) (args : List V) (objs : List O) (t : T α) : T α :=
  .fit (weakL (upL (upId l ps.length objs.length) as) args) (upL (upId l ps.length objs.length) as)
    (weakOs (upOs (upId l ps.length objs.length) ps) (picks objs l)) (upOs (upId l ps.length objs.length) ps) t

theorem fits.view {l : List Nat} {as : List V} {ps : List O} {args : List V} {objs : List O} (h : fits l as ps args objs) (hl : lOk l ps objs = true) : View objs l ps := by
  unfold lOk at hl
  simp only [Bool.and_eq_true] at hl
  exact ⟨Nat.eq_of_beq_eq_true hl.1, hl.2.1, hl.2.2, h.1.2⟩

theorem RL.fit {l : List Nat} {as : List V} {ps : List O} {args : List V} {objs : List O} (h : fits l as ps args objs) (hl : lOk l ps objs = true) {ρ : Ren} {low : Nat} {w : World} (hr : Rel ρ ⟨objs, low⟩ w) {xs : List Value} (hx : RL ρ args xs) :
    RL (ρ.via (upId l ps.length objs.length) (Has ps)) as xs := by
  have h1 := hx.weak (upL (upId l ps.length objs.length) as)
  rw [h.1.1] at h1
  exact RL.down (known_has ρ (h.view hl) hr) as h.2.1 h1

theorem Rel.fit {l : List Nat} {as : List V} {ps : List O} {args : List V} {objs : List O} (h : fits l as ps args objs) (hl : lOk l ps objs = true) {ρ : Ren} {low : Nat} {w : World} (hr : Rel ρ ⟨objs, low⟩ w) :
    Rel (ρ.via (upId l ps.length objs.length) (Has ps)) ⟨ps, ps.length⟩ w :=
  (h.view hl).rel hr (Has ps) (refA ps) (fun i j o h1 h2 => ⟨o, h1, h2⟩) (fun i j ⟨o, h1, _⟩ => objL_lt h1) (known_has ρ (h.view hl) hr) (refsOs_at h.2.2)

theorem via_maps {ρ : Ren} {s : Nat → Nat} {G : Nat → Nat → Prop} : Maps s (ρ.via s G) ρ := fun i j b h => ⟨(via_some.1 h).2, rfl⟩

def O.wrB : O → Bool
  | .cells wr .. => wr
  | .fam .. => true
  | .dead => false

/-- What is written may be written. -/
def wrB (low : Nat) : Nat → List O → Bool
  | _, [] => true
  | i, q :: qs => (bif Nat.ble low i then q.wrB else true) && wrB low (i + 1) qs

def kinds (low : Nat) : Nat → List O → List O → Prop
  | i, p :: ps, o :: os => (low ≤ i → kindP p o) ∧ kinds low (i + 1) ps os
  | _, _, _ => True

theorem wrOk_of {low : Nat} : ∀ {i : Nat} {ps qs os : List O}, kinds low i ps os → wrB low i qs = true → wrOk low i ps qs os
  | i, p :: ps, q :: qs, o :: os, h, h' => by
    unfold wrB at h'
    rw [Bool.and_eq_true] at h'
    unfold wrOk
    split
    · rename_i hb
      rw [hb] at h'
      refine ⟨⟨h.1 (ble_le hb), ?_⟩, wrOk_of h.2 h'.2⟩
      have h' := h'.1
      cases q with
      | cells wr _ _ _ => exact h'
      | fam _ _ _ => trivial
      | dead => cases h'
    · exact wrOk_of h.2 h'.2
  | i, [], qs, os, _, _ => by cases qs <;> trivial
  | i, p :: ps, [], os, _, _ => trivial
  | i, p :: ps, q :: qs, [], _, _ => trivial

/-- What holds of a contract's own words: what it points to is there; what is written stays of its kind. -/
def Sound {ι α : Type} (A : ι → List V) (M : ι → List O) (Z : ι → T α) (mem : α → Option Mem) : Prop :=
  ∀ x, (refsL (refA (M x)) (A x) ∧ refsOs (refA (M x)) (M x)) ∧ ∀ r m, Leads (Z x) r → mem r = some m → kinds m.low 0 (M x) m.objs

/-! ### Calls -/

/-- A contract over a small memory. -/
def CallS (P : Program) (f : FuncId) {ι : Type} (A : ι → List V) (M : ι → List O) (Z : ι → T (V × Option Mem)) : Prop :=
  ∀ x v om xs ρ w, Leads (Z x) (v, om) → Rel ρ ⟨M x, (M x).length⟩ w → RL ρ (A x) xs →
    Calls P f xs.toArray w fun e w' => ∃ y, e = .returned y ∧ match om with
      | none => R ρ v y ∧ Below w.heap.size w w'
      | some m' => ∃ ρ', Tr ρ ⟨M x, (M x).length⟩ w ρ' m' w' ∧ R ρ' v y

noncomputable def framed1 (l : List Nat) (as : List V) (ps : List O) (args : List V) (m : Mem) (t : T (V × Option Mem)) : T (V × Option Mem) :=
  bif lOk l ps m.objs then
    fitT l as ps args m.objs (t.bind fun r => match r.2 with
      | none => .ret (up (upId l ps.length m.objs.length) r.1, none)
      | some m1 => bif wrB m1.low 0 (picks m.objs l) then .ret (up (upId l ps.length m.objs.length) r.1, some (merge l ps.length m m1)) else .fail)
  else .fail

/-- .. over a larger one. -/
noncomputable def framedC {ι : Type} (inst : List V → List O → Option (List Nat × ι)) (A : ι → List V) (M : ι → List O) (Z : ι → T (V × Option Mem)) : List V → Mem → T (V × Option Mem) := fun args m =>
  match inst args m.objs with
  | none => .fail
  | some r => framed1 r.1 (A r.2) (M r.2) args m (Z r.2)

theorem CallS.ok {P : Program} {f : FuncId} {ι : Type} {A : ι → List V} {M : ι → List O} {Z : ι → T (V × Option Mem)} (h : CallS P f A M Z) (hs : Sound A M Z (·.2)) (inst : List V → List O → Option (List Nat × ι)) : CallOk1 P f (framedC inst A M Z) := by
  intro args m v om xs ρ w hl hr hx
  unfold framedC at hl
  split at hl
  · exact hl.fail_inv.elim
  · rename_i r hi
    obtain ⟨l, x⟩ := r
    simp only at hl
    unfold framed1 at hl
    cases hok : lOk l (M x) m.objs with
    | false => rw [hok] at hl; exact hl.fail_inv.elim
    | true =>
      rw [hok] at hl
      simp only [cond_true] at hl
      obtain ⟨hf, hl⟩ := hl.fit_inv
      have hf : fits l (A x) (M x) args m.objs := ⟨hf, (hs x).1⟩
      obtain ⟨⟨v1, om1⟩, h1, h2⟩ := hl.bind_inv
      refine (h x v1 om1 xs _ w h1 (Rel.fit hf hok hr) (RL.fit hf hok hr hx)).mono ?_
      rintro e w' ⟨y, rfl, hy⟩
      refine ⟨y, rfl, ?_⟩
      cases om1 with
      | none =>
        have h2 := h2.ret_inv
        simp only [Prod.mk.injEq] at h2
        obtain ⟨rfl, rfl⟩ := h2
        exact ⟨hy.1.up via_maps, hy.2⟩
      | some m1 =>
        simp only at h2
        cases hw : wrB m1.low 0 (picks m.objs l) with
        | false => rw [hw] at h2; exact h2.fail_inv.elim
        | true =>
          rw [hw] at h2
          have h2 := h2.ret_inv
          simp only [Prod.mk.injEq] at h2
          obtain ⟨rfl, rfl⟩ := h2
          obtain ⟨ρ', ht, hy⟩ := hy
          obtain ⟨ρ2, ht2, hm⟩ := frame hr (hf.view hok) ht (wrOk_of ((hs x).2 _ m1 h1 rfl) hw)
          exact ⟨ρ2, ht2, hy.up hm⟩

/-! ### Views behind a step -/

/-- The first n stay where they are, the others are new ones. -/
def idB (n : Nat) : Nat → List Nat → Bool
  | _, [] => true
  | i, k :: l => (bif Nat.blt i n then Nat.beq k i else Nat.ble n k) && idB n (i + 1) l

theorem idB_at {n : Nat} : ∀ {i : Nat} {l : List Nat}, idB n i l = true → ∀ d k, objL l d = some k → (i + d < n → k = i + d) ∧ (n ≤ i + d → n ≤ k)
  | i, [], h, d, k, h1 => by cases (objL_nil d).symm.trans h1
  | i, a :: l, h, 0, k, h1 => by
    rw [objL_zero] at h1
    cases h1
    unfold idB at h
    rw [Bool.and_eq_true] at h
    have h := h.1
    cases hb : Nat.blt i n with
    | true =>
      rw [hb] at h
      have h := Nat.eq_of_beq_eq_true h
      exact ⟨fun _ => h, fun q => by have := ble_le hb; omega⟩
    | false =>
      rw [hb] at h
      have h := ble_le h
      refine ⟨fun q => ?_, fun _ => h⟩
      have : Nat.blt i n = true := Nat.ble_eq_true_of_le (by omega)
      rw [hb] at this
      cases this
  | i, a :: l, h, d + 1, k, h1 => by
    rw [objL_succ] at h1
    unfold idB at h
    rw [Bool.and_eq_true] at h
    have := idB_at h.2 d k h1
    rw [show i + 1 + d = i + (d + 1) by omega] at this
    exact this

noncomputable def vOk (n : Nat) (l : List Nat) (ps objs : List O) : Bool := lOk l ps objs && (idB n 0 l && Nat.ble n ps.length)

/-- What stands behind the step, seen as ps. -/
def sees (l : List Nat) (ps objs : List O) : Prop := weakOs (upOs (upId l ps.length objs.length) ps) (picks objs l) = upOs (upId l ps.length objs.length) ps

theorem Tr.view {ρ ρ1 : Ren} {m m1 : Mem} {w w1 : World} (hr : Rel ρ m w) (ht : Tr ρ m w ρ1 m1 w1) {l : List Nat} {ps : List O} {lo : Nat} (hl : vOk m.objs.length l ps m1.objs = true) (hlo : Nat.ble lo m1.low = true) (hs : sees l ps m1.objs) :
    ∃ ρ2, Tr ρ m w ρ2 ⟨ps, lo⟩ w1 ∧ Known (upId l ps.length m1.objs.length) (fun _ => True) ρ1 ρ2 := by
  unfold vOk at hl
  simp only [Bool.and_eq_true] at hl
  obtain ⟨h1, h2, h3⟩ := hl
  have h3 := ble_le h3
  have hlo := ble_le hlo
  unfold lOk at h1
  simp only [Bool.and_eq_true] at h1
  have hv : View m1.objs l ps := ⟨Nat.eq_of_beq_eq_true h1.1, h1.2.1, h1.2.2, hs⟩
  have hk := known_plain ρ1 hv ht.rel
  have hat : ∀ i, i < ps.length → ∃ k, objL l i = some k ∧ upId l ps.length m1.objs.length i = k ∧ (i < m.objs.length → k = i) ∧ (m.objs.length ≤ i → m.objs.length ≤ k) := by
    intro i hi
    obtain ⟨k, hk⟩ := objL_some (show i < l.length by rw [hv.len]; exact hi)
    have := idB_at h2 i k hk
    rw [Nat.zero_add] at this
    exact ⟨k, hk, upId_lt hk, this.1, this.2⟩
  refine ⟨_, ⟨hv.rel ht.rel (fun i _ => i < ps.length) (fun _ => True) (fun i j o h _ => objL_lt h) (fun i j h => h) hk (fun i o _ => ?_), ⟨?_, ?_⟩, ?_, Nat.le_trans hlo ht.low, h3⟩, hk⟩
  · cases o with
    | dead => trivial
    | cells _ _ _ vs => exact refsL_true (fun _ => trivial) vs
    | fam _ _ f => exact fun k _ => refsL_true (fun _ => trivial) (f k)
  · intro id j b h
    obtain ⟨g1, g2⟩ := ht.ext.sub id j b h
    have hN : id < m.objs.length := by
      rcases Nat.lt_or_ge id m.objs.length with q | q
      · exact q
      · exact (hr.dom _ _ _ h).1
    obtain ⟨k, k1, k2, k3, k4⟩ := hat id (by omega)
    have k3 := k3 hN
    subst k3
    refine ⟨via_some.2 ⟨by omega, by rw [k2]; exact g1⟩, ?_⟩
    show ρ1.k (upId l ps.length m1.objs.length k) = _
    rw [k2]
    exact g2
  · intro id j b h
    obtain ⟨g1, g2⟩ := via_some.1 h
    obtain ⟨k, k1, k2, k3, k4⟩ := hat id g1
    rw [k2] at g2
    rcases Nat.lt_or_ge id m.objs.length with q | q
    · have k3 := k3 q
      subst k3
      rcases ht.ext.new k j b g2 with h | ⟨h, _⟩
      · exact .inl h
      · omega
    · refine .inr ⟨q, ?_⟩
      rcases ht.ext.new k j b g2 with h | ⟨_, h | ⟨i2, j2, h, h'⟩⟩
      · have := k4 q
        have := (hr.dom _ _ _ h).1
        omega
      · exact .inl h
      · exact .inr ⟨i2, j2, Nat.le_trans hlo h, h'⟩
  · exact ht.keeps.mono hlo

mutual
theorem up_id : ∀ v : V, up (fun i => i) v = v
  | .ptr a => rfl
  | .sptr c a => rfl
  | .slice a n c sy => rfl
  | .map r => rfl
  | .func fn fi ca => by show V.func fn (upL _ fi) (upL _ ca) = _; rw [upL_id fi, upL_id ca]
  | .iface t v => by show V.iface t (up _ v) = _; rw [up_id v]
  | .agg cs => by show V.agg (upL _ cs) = _; rw [upL_id cs]
  | .tuple vs => by show V.tuple (upL _ vs) = _; rw [upL_id vs]
  | .arr n sz f => by
    show V.arr n sz (fun k => upL _ (f k)) = _
    have : (fun k => upL (fun i => i) (f k)) = f := funext fun k => upL_id (f k)
    rw [this]
  | .unk => rfl
  | .unks n => rfl
  | .bool b => rfl
  | .sbool b => rfl
  | .int k n => rfl
  | .sint k n => rfl
  | .str b sy => rfl
  | .nil => rfl
  | .nilSlice => rfl
  | .nilMap => rfl
  | .nilFunc => rfl
  | .nilIface => rfl
  | .held x => rfl
theorem upL_id : ∀ vs : List V, upL (fun i => i) vs = vs
  | [] => rfl
  | v :: vs => by show up _ v :: upL _ vs = _; rw [up_id v, upL_id vs]
end

/-- What a call comes to, seen as less. -/
def seenC (n : Nat) (r1 r : V × Option Mem) : Prop :=
  match r1.2, r.2 with
  | none, none => weak r.1 r1.1 = r.1
  | some m1, none => weak r.1 r1.1 = r.1 ∧ Nat.ble n m1.low = true ∧ refs (fun a => a.id < n) r.1
  | some m1, some m' => ∃ l, vOk n l m'.objs m1.objs = true ∧ Nat.ble m'.low m1.low = true ∧ sees l m'.objs m1.objs ∧ weak (up (upId l m'.objs.length m1.objs.length) r.1) r1.1 = up (upId l m'.objs.length m1.objs.length) r.1
  | _, _ => False

theorem CallS.of_call {P : Program} {E : Env} (hE : EnvOk P E) (n : Nat) {f : FuncId} {ι : Type} {A : ι → List V} {M : ι → List O} {Z : ι → T (V × Option Mem)}
    (h : ∀ x r, Leads (Z x) r → ∃ r1, Leads (call P E n f (A x) ⟨M x, (M x).length⟩) r1 ∧ seenC (M x).length r1 r) : CallS P f A M Z := by
  intro x v om xs ρ w hl hr hx
  obtain ⟨⟨v1, om1⟩, h1, h2⟩ := h x _ hl
  refine (call_ok hE n f (A x) _ v1 om1 xs ρ w h1 hr hx).mono ?_
  rintro e w' ⟨y, rfl, hy⟩
  refine ⟨y, rfl, ?_⟩
  cases om1 with
  | none =>
    cases om with
    | none =>
      have h2 : weak v v1 = v := h2
      have := hy.1.weak v
      rw [h2] at this
      exact ⟨this, hy.2⟩
    | some m' => exact h2.elim
  | some m1 =>
    cases om with
    | none =>
      obtain ⟨g1, g2, g3⟩ := h2
      have g1 : weak v v1 = v := g1
      obtain ⟨ρ', ht, hy⟩ := hy
      have hlow := ble_le g2
      refine ⟨?_, (ht.keeps.mono hlow).below fun id j b h => (hr.dom _ _ _ h).1⟩
      have h3 := hy.weak v
      rw [g1] at h3
      refine R.down (s := fun i => i) (P := fun a => a.id < (M x).length) (ρ := ρ') ?_ v g3 (by rw [up_id]; exact h3)
      intro a b ha hb
      rcases ht.ext.new _ _ _ hb with h | ⟨h, _⟩
      · exact ⟨h, (ht.ext.sub _ _ _ h).2.symm⟩
      · simp only at h; omega
    | some m' =>
      obtain ⟨l, g1, g2, g3, g4⟩ := h2
      obtain ⟨ρ', ht, hy⟩ := hy
      obtain ⟨ρ2, ht2, hk⟩ := Tr.view hr ht g1 g2 g3
      refine ⟨ρ2, ht2, ?_⟩
      have := hy.weak (up (upId l m'.objs.length m1.objs.length) v)
      simp only at g4
      rw [g4] at this
      exact R.down hk v (refs_true (fun _ => trivial) v) this

/-- The same tree. -/
theorem CallS.of_eq {P : Program} {E : Env} (hE : EnvOk P E) (n : Nat) {f : FuncId} {ι : Type} {A : ι → List V} {M : ι → List O} {Z : ι → T (V × Option Mem)}
    (h : ∀ x r, Leads (Z x) r → Leads (call P E n f (A x) ⟨M x, (M x).length⟩) r) : CallS P f A M Z :=
  fun x v om xs ρ w hl hr hx => call_ok hE n f (A x) _ v om xs ρ w (h x _ hl) hr hx

/-! ### Loops -/

noncomputable def fill (fg : List Nat) (h : Nat → Value) (i : Nat) (tm : List V) : List V :=
  List.rec (motive := fun _ => Nat → List V) (fun _ => []) (fun v _ ih i => (bif inL fg i then .held (h i) else v) :: ih (i + 1)) tm i
theorem fill_nil (fg : List Nat) (h : Nat → Value) (i : Nat) : fill fg h i [] = [] := rfl
theorem fill_cons (fg : List Nat) (h : Nat → Value) (i : Nat) (v : V) (tm : List V) : fill fg h i (v :: tm) = (bif inL fg i then .held (h i) else v) :: fill fg h (i + 1) tm := rfl
theorem fill_length (fg : List Nat) (h : Nat → Value) : ∀ (tm : List V) (i : Nat), (fill fg h i tm).length = tm.length
  | [], i => rfl
  | v :: tm, i => by rw [fill_cons, List.length_cons, List.length_cons, fill_length fg h tm (i + 1)]
theorem fill_at (fg : List Nat) (h : Nat → Value) : ∀ (tm : List V) (i k : Nat), getL (fill fg h i tm) k = .unk ∨ (inL fg (i + k) = true ∧ getL (fill fg h i tm) k = .held (h (i + k))) ∨ (inL fg (i + k) = false ∧ getL (fill fg h i tm) k = getL tm k)
  | [], i, k => .inl rfl
  | v :: tm, i, 0 => by
    rw [fill_cons, getL_zero, getL_zero, Nat.add_zero]
    cases inL fg i with
    | true => exact .inr (.inl ⟨rfl, rfl⟩)
    | false => exact .inr (.inr ⟨rfl, rfl⟩)
  | v :: tm, i, k + 1 => by
    rw [fill_cons, getL_succ, getL_succ, show i + (k + 1) = i + 1 + k by omega]
    exact fill_at fg h tm (i + 1) k

theorem getL_weak {ρ : Ren} : ∀ (ps vs : List V) (i : Nat) (x : Value), R ρ (getL vs i) x → R ρ (getL (weakL ps vs) i) x
  | [], vs, i, x, h => h
  | p :: ps, [], i, x, h => h
  | p :: ps, v :: vs, 0, x, h => by
    show R ρ (getL (weak p v :: weakL ps vs) 0) x
    rw [getL_zero] at h ⊢
    exact h.weak p
  | p :: ps, v :: vs, i + 1, x, h => by
    show R ρ (getL (weak p v :: weakL ps vs) (i + 1)) x
    rw [getL_succ] at h ⊢
    exact getL_weak ps vs i x h

theorem getL_up {s : Nat → Nat} {ρ ρ' : Ren} (hs : Maps s ρ ρ') : ∀ (vs : List V) (i : Nat) (x : Value), R ρ (getL vs i) x → R ρ' (getL (upL s vs) i) x
  | [], i, x, _ => .unk x
  | v :: vs, 0, x, h => by
    show R ρ' (getL (up s v :: upL s vs) 0) x
    rw [getL_zero] at h ⊢
    exact h.up hs
  | v :: vs, i + 1, x, h => by
    show R ρ' (getL (up s v :: upL s vs) (i + 1)) x
    rw [getL_succ] at h ⊢
    exact getL_up hs vs i x h

theorem getL_down {s : Nat → Nat} {P : A → Prop} {ρ ρs : Ren} (hs : Known s P ρ ρs) : ∀ (vs : List V) (i : Nat) (x : Value), refsL P vs → R ρ (getL (upL s vs) i) x → R ρs (getL vs i) x
  | [], i, x, _, _ => .unk x
  | v :: vs, 0, x, hp, h => by
    have h : R ρ (getL (up s v :: upL s vs) 0) x := h
    rw [getL_zero] at h ⊢
    exact R.down hs v hp.1 h
  | v :: vs, i + 1, x, hp, h => by
    have h : R ρ (getL (up s v :: upL s vs) (i + 1)) x := h
    rw [getL_succ] at h ⊢
    exact getL_down hs vs i x hp.2 h

theorem weakL_length : ∀ (ps vs : List V), (weakL ps vs).length = vs.length
  | [], vs => rfl
  | p :: ps, [] => rfl
  | p :: ps, v :: vs => by show (weak p v :: weakL ps vs).length = _; rw [List.length_cons, List.length_cons, weakL_length ps vs]
theorem upL_length (s : Nat → Nat) : ∀ (vs : List V), (upL s vs).length = vs.length
  | [] => rfl
  | v :: vs => by show (up s v :: upL s vs).length = _; rw [List.length_cons, List.length_cons, upL_length s vs]

/-- What a loop comes to over a small memory; what stands in the slots of fg stays there. -/
def SumS (P : Program) (body : Code) (fg : List Nat) {ι : Type} (S : ι → List V) (M : ι → List O) (Z : ι → T (Ex × St)) : Prop :=
  ∀ x h e st' ρ a w (Q : Exit → Act → World → Prop), Leads (Z x) (e, st') → Rel ρ ⟨M x, (M x).length⟩ w → TR ρ (fill fg h 0 (S x)) a.tmps →
    (∀ ρ' a' w', Tr ρ ⟨M x, (M x).length⟩ w ρ' st'.mem w' → TR ρ' (fill fg h 0 st'.tm) a'.tmps → Idles P a a' → Q e.real a' w') → (Code.loop body).wp P Q a w

noncomputable def mergeTm (fg : List Nat) (s : Nat → Nat) (tm : List V) (i : Nat) (tm' : List V) : List V :=
  List.rec (motive := fun _ => Nat → List V) (fun _ => []) (fun v _ ih i => (bif inL fg i then getL tm i else up s v) :: ih (i + 1)) tm' i
theorem mergeTm_nil (fg : List Nat) (s : Nat → Nat) (tm : List V) (i : Nat) : mergeTm fg s tm i [] = [] := rfl
theorem mergeTm_cons (fg : List Nat) (s : Nat → Nat) (tm : List V) (i : Nat) (v : V) (tm' : List V) : mergeTm fg s tm i (v :: tm') = (bif inL fg i then getL tm i else up s v) :: mergeTm fg s tm (i + 1) tm' := rfl
theorem mergeTm_length (fg : List Nat) (s : Nat → Nat) (tm : List V) : ∀ (tm' : List V) (i : Nat), (mergeTm fg s tm i tm').length = tm'.length
  | [], i => rfl
  | v :: tm', i => by rw [mergeTm_cons, List.length_cons, List.length_cons, mergeTm_length fg s tm tm' (i + 1)]
theorem mergeTm_at (fg : List Nat) (s : Nat → Nat) (tm : List V) : ∀ (tm' : List V) (i k : Nat), (tm'.length ≤ k ∧ getL (mergeTm fg s tm i tm') k = .unk) ∨ (inL fg (i + k) = true ∧ k < tm'.length ∧ getL (mergeTm fg s tm i tm') k = getL tm (i + k)) ∨ (inL fg (i + k) = false ∧ getL (mergeTm fg s tm i tm') k = up s (getL tm' k))
  | [], i, k => .inl ⟨Nat.zero_le _, rfl⟩
  | v :: tm', i, 0 => by
    rw [mergeTm_cons, getL_zero, getL_zero, Nat.add_zero]
    cases inL fg i with
    | true => exact .inr (.inl ⟨rfl, Nat.succ_pos _, rfl⟩)
    | false => exact .inr (.inr ⟨rfl, rfl⟩)
  | v :: tm', i, k + 1 => by
    rw [mergeTm_cons, getL_succ, getL_succ, show i + (k + 1) = i + 1 + k by omega]
    rcases mergeTm_at fg s tm tm' (i + 1) k with ⟨h, h'⟩ | ⟨h, h2, h'⟩ | h
    · exact .inl ⟨by rw [List.length_cons]; omega, h'⟩
    · exact .inr (.inl ⟨h, by rw [List.length_cons]; omega, h'⟩)
    · exact .inr (.inr h)

noncomputable def framedL1 (fg : List Nat) (l : List Nat) (as : List V) (ps : List O) (st : St) (t : T (Ex × St)) : T (Ex × St) :=
  bif lOk l ps st.mem.objs then
    fitT l as ps st.tm st.mem.objs (t.bind fun r => bif wrB r.2.mem.low 0 (picks st.mem.objs l) then
      .ret (r.1, ⟨mergeTm fg (upId l ps.length st.mem.objs.length) st.tm 0 r.2.tm, merge l ps.length st.mem r.2.mem⟩) else .fail)
  else .fail

noncomputable def framedL {ι : Type} (fg : List Nat) (inst : St → Option (List Nat × ι)) (S : ι → List V) (M : ι → List O) (Z : ι → T (Ex × St)) : St → T (Ex × St) := fun st =>
  match inst st with
  | none => .fail
  | some r => framedL1 fg r.1 (S r.2) (M r.2) st (Z r.2)

theorem SumS.ok {P : Program} {body : Code} {fg : List Nat} {ι : Type} {S : ι → List V} {M : ι → List O} {Z : ι → T (Ex × St)} (h : SumS P body fg S M Z) (hs : Sound S M Z (fun r => some r.2.mem)) (inst : St → Option (List Nat × ι)) : CodeOk P (framedL fg inst S M Z) (.loop body) := by
  intro st e st' ρ a w Q hl hr htr hQ
  unfold framedL at hl
  split at hl
  · exact hl.fail_inv.elim
  · rename_i r hi
    obtain ⟨l, x⟩ := r
    simp only at hl
    unfold framedL1 at hl
    cases hok : lOk l (M x) st.mem.objs with
    | false => rw [hok] at hl; exact hl.fail_inv.elim
    | true =>
      rw [hok] at hl
      simp only [cond_true] at hl
      obtain ⟨hf, hl⟩ := hl.fit_inv
      have hf : fits l (S x) (M x) st.tm st.mem.objs := ⟨hf, (hs x).1⟩
      obtain ⟨⟨e1, st1⟩, h1, h2⟩ := hl.bind_inv
      cases hw : wrB st1.mem.low 0 (picks st.mem.objs l) with
      | false => rw [hw] at h2; exact h2.fail_inv.elim
      | true => 
      rw [hw] at h2
      have h2 := h2.ret_inv
      simp only [Prod.mk.injEq] at h2
      obtain ⟨rfl, rfl⟩ := h2
      have hk := known_has ρ (hf.view hok) hr
      have htr1 : ∀ k, R (ρ.via (upId l (M x).length st.mem.objs.length) (Has (M x))) (getL (S x) k) (a.tmps.getD k undef) := fun k => by
        have g := getL_weak (upL (upId l (M x).length st.mem.objs.length) (S x)) st.tm k _ (htr.at_ k)
        rw [hf.1.1] at g
        exact getL_down hk (S x) k _ hf.2.1 g
      refine h x (fun k => a.tmps.getD k undef) e st1 _ a w Q h1 (Rel.fit hf hok hr) ⟨?_, fun k => ?_⟩ fun ρ' a' w' ht htr' hid => ?_
      · rw [fill_length]
        have h5 := congrArg List.length hf.1.1
        rw [weakL_length, upL_length] at h5
        rw [← h5]
        exact htr.len
      · rcases fill_at fg (fun k => a.tmps.getD k undef) (S x) 0 k with g | ⟨_, g⟩ | ⟨_, g⟩ <;> rw [g]
        · exact .unk _
        · rw [Nat.zero_add]; exact .held _
        · exact htr1 k
      · obtain ⟨ρ2, ht2, hm⟩ := frame hr (hf.view hok) ht (wrOk_of ((hs x).2 _ _ h1 rfl) hw)
        refine hQ ρ2 a' w' ht2 ⟨?_, fun k => ?_⟩ hid
        · show (mergeTm _ _ _ _ _).length ≤ _
          rw [mergeTm_length]
          have := htr'.len
          rw [fill_length] at this
          exact this
        · show R ρ2 (getL (mergeTm _ _ _ _ _) k) _
          rcases mergeTm_at fg (upId l (M x).length st.mem.objs.length) st.tm st1.tm 0 k with ⟨_, g⟩ | ⟨g1, g2, g⟩ | ⟨g1, g⟩ <;> rw [g]
          · exact .unk _
          · rw [Nat.zero_add] at g1 ⊢
            have h6 := htr'.at_ k
            have h7 : getL (fill fg (fun k => a.tmps.getD k undef) 0 st1.tm) k = .held (a.tmps.getD k undef) := by
              have : ∀ (tm : List V) (i k : Nat), k < tm.length → inL fg (i + k) = true → getL (fill fg (fun k => a.tmps.getD k undef) i tm) k = .held (a.tmps.getD (i + k) undef) := by
                intro tm
                induction tm with
                | nil => intro i k hk _; cases hk
                | cons v tm ih =>
                  intro i k hk hi
                  cases k with
                  | zero => rw [fill_cons, getL_zero, Nat.add_zero] at *; rw [hi]; rfl
                  | succ k => rw [fill_cons, getL_succ, ih (i + 1) k (by simpa using hk) (by rw [show i + 1 + k = i + (k + 1) by omega]; exact hi), show i + 1 + k = i + (k + 1) by omega]
              rw [this st1.tm 0 k g2 (by rw [Nat.zero_add]; exact g1), Nat.zero_add]
            rw [h7] at h6
            generalize a'.tmps.getD k undef = y at h6 ⊢
            have h8 := htr.at_ k
            generalize a.tmps.getD k undef = z at h6 h8
            cases h6
            exact h8.mono ht2.ext.sub
          · rw [Nat.zero_add] at g1
            have h6 := htr'.at_ k
            rcases fill_at fg (fun k => a.tmps.getD k undef) st1.tm 0 k with q | ⟨q, _⟩ | ⟨_, q⟩
            · have : ∀ (tm : List V) (i k : Nat), inL fg (i + k) = false → getL (fill fg (fun k => a.tmps.getD k undef) i tm) k = getL tm k := by
                intro tm
                induction tm with
                | nil => intro i k _; rfl
                | cons v tm ih =>
                  intro i k hi
                  cases k with
                  | zero => rw [fill_cons, getL_zero, getL_zero]; rw [Nat.add_zero] at hi; rw [hi]; rfl
                  | succ k => rw [fill_cons, getL_succ, getL_succ]; exact ih (i + 1) k (by rw [show i + 1 + k = i + (k + 1) by omega]; exact hi)
              rw [this st1.tm 0 k (by rw [Nat.zero_add]; exact g1)] at h6
              exact h6.up hm
            · rw [Nat.zero_add, g1] at q; cases q
            · rw [q] at h6
              exact h6.up hm

/-- The loop's end. -/
def endOf {ι : Type} (next : ι → Option ι) : Nat → ι → ι
  | 0, x => x
  | n + 1, x => match next x with
    | some y => endOf next n y
    | none => x

theorem endOf_none {ι : Type} {next : ι → Option ι} {x : ι} (h : next x = none) : ∀ n, endOf next n x = x
  | 0 => rfl
  | n + 1 => by unfold endOf; rw [h]

theorem endOf_some {ι : Type} {next : ι → Option ι} {Inv : ι → Prop} {μ : ι → Nat} (hs : ∀ x y, Inv x → next x = some y → Inv y ∧ μ y < μ x) : ∀ (n m : Nat) (x : ι), Inv x → μ x ≤ n → μ x ≤ m → endOf next n x = endOf next m x
  | 0, m, x, hi, h0, _ => by
    have : next x = none := by
      cases hx : next x with
      | none => rfl
      | some y => have := (hs x y hi hx).2; omega
    rw [endOf_none this, endOf_none this]
  | n + 1, 0, x, hi, _, h0 => by
    have : next x = none := by
      cases hx : next x with
      | none => rfl
      | some y => have := (hs x y hi hx).2; omega
    rw [endOf_none this, endOf_none this]
  | n + 1, m + 1, x, hi, h1, h2 => by
    cases hx : next x with
    | none => rw [endOf_none hx, endOf_none hx]
    | some y =>
      obtain ⟨h3, h4⟩ := hs x y hi hx
      unfold endOf
      rw [hx]
      exact endOf_some hs n m y h3 (by omega) (by omega)

theorem endOf_step {ι : Type} {next : ι → Option ι} {Inv : ι → Prop} {μ : ι → Nat} (hs : ∀ x y, Inv x → next x = some y → Inv y ∧ μ y < μ x) {x y : ι} (hi : Inv x) (hx : next x = some y) : endOf next (μ x) x = endOf next (μ y) y := by
  obtain ⟨h3, h4⟩ := hs x y hi hx
  have : endOf next (μ x) x = endOf next (μ x + 1) x := endOf_some hs _ _ x hi (Nat.le_refl _) (Nat.le_succ _)
  rw [this]
  show (match next x with | some y => endOf next (μ x) y | none => x) = _
  rw [hx]
  exact endOf_some hs _ _ y h3 (by omega) (Nat.le_refl _)

theorem endOf_ind {ι : Type} {next : ι → Option ι} (K : ι → Prop) (hk : ∀ x y, K x → next x = some y → K y) : ∀ (n : Nat) (x : ι), K x → K (endOf next n x)
  | 0, x, h => h
  | n + 1, x, h => by
    unfold endOf
    split
    · rename_i y hy
      exact endOf_ind K hk n y (hk x y h hy)
    · exact h

theorem endOf_end {ι : Type} {next : ι → Option ι} {Inv : ι → Prop} {μ : ι → Nat} (hs : ∀ x y, Inv x → next x = some y → Inv y ∧ μ y < μ x) : ∀ (n : Nat) (x : ι), Inv x → μ x ≤ n → next (endOf next n x) = none
  | 0, x, hi, h => by
    cases hx : next x with
    | none => exact hx
    | some y => have := (hs x y hi hx).2; omega
  | n + 1, x, hi, h => by
    unfold endOf
    split
    · rename_i y hy
      obtain ⟨h1, h2⟩ := hs x y hi hy
      exact endOf_end hs n y h1 (by omega)
    · assumption

/-- What a round comes to, seen as less. -/
def seenL (n : Nat) (fg : List Nat) (h : Nat → Value) (st1 st : St) : Prop :=
  ∃ l, vOk n l st.mem.objs st1.mem.objs = true ∧ Nat.ble st.mem.low st1.mem.low = true ∧ sees l st.mem.objs st1.mem.objs ∧
    weakL (upL (upId l st.mem.objs.length st1.mem.objs.length) (fill fg h 0 st.tm)) st1.tm = upL (upId l st.mem.objs.length st1.mem.objs.length) (fill fg h 0 st.tm)

/-- An object of the rounds that is not there yet. -/
def phantom : O → Prop
  | .cells true _ _ [] => True
  | .cells true _ _ [.arr n _ _] => n = 0
  | _ => False

theorem phantom_spec {p : O} (h : phantom p) : ∃ e sp cs, p = .cells true e sp cs ∧ ∀ ρ, C ρ cs [] := by
  unfold phantom at h
  split at h
  · exact ⟨_, _, _, rfl, fun _ => .nil⟩
  · rename_i e sp n s f
    subst h
    refine ⟨_, _, _, rfl, fun ρ => ?_⟩
    exact C.arr 0 s f (fun _ => []) [] [] (fun k hk => by omega) (fun k hk => by omega) .nil
  · exact h.elim

def phantoms : List O → Prop
  | [] => True
  | p :: ps => phantom p ∧ phantoms ps

theorem Tr.phantoms {w : World} {ρ : Ren} {m : Mem} : ∀ {ps : List O} {objs : List O} {low : Nat}, phantoms ps → Tr ρ m w ρ ⟨objs, low⟩ w → Tr ρ m w ρ ⟨objs ++ ps, low⟩ w
  | [], objs, low, _, h => by rw [List.append_nil]; exact h
  | p :: ps, objs, low, hp, h => by
    obtain ⟨e, sp, cs, rfl, hc⟩ := phantom_spec hp.1
    have h1 := h.trans (Tr.pushNone h.rel (hc ρ) e sp)
    have h2 := Tr.phantoms (objs := objs ++ [.cells true e sp cs]) hp.2 h1
    rw [List.append_assoc] at h2
    exact h2

theorem Tr.lower {ρ ρ' : Ren} {m m' : Mem} {w w' : World} (h : Tr ρ m w ρ' m' w') {lo : Nat} (hlo : lo ≤ m'.low) : Tr ρ m w ρ' ⟨m'.objs, lo⟩ w' :=
  ⟨⟨h.rel.objs, h.rel.inj, h.rel.dom⟩, h.ext.mono hlo (Nat.le_refl _), h.keeps.mono hlo, Nat.le_trans hlo h.low, h.len⟩

theorem TR.seen {ρ1 ρ2 : Ren} {l : List Nat} {n N : Nat} {tm tm1 : List V} {tmps : Array Value} (hk : Known (upId l n N) (fun _ => True) ρ1 ρ2) (hw : weakL (upL (upId l n N) tm) tm1 = upL (upId l n N) tm) (h : TR ρ1 tm1 tmps) : TR ρ2 tm tmps := by
  refine ⟨?_, fun k => ?_⟩
  · have h5 := congrArg List.length hw
    rw [weakL_length, upL_length] at h5
    rw [← h5]
    exact h.len
  · have g := getL_weak (upL (upId l n N) tm) tm1 k _ (h.at_ k)
    rw [hw] at g
    exact getL_down hk tm k _ (refsL_true (fun _ => trivial) tm) g

/-- A loop, round by round. -/
theorem SumS.of_rounds {P : Program} {E : Env} (hE : EnvOk P E) (k : Nat) {f : FuncId} {fn : Func} {c0 body : Code} (hf : P.funcs[f]? = some fn) (hb : fn.body = some c0) (hw : Within body c0) {fg : List Nat} {ι : Type} {S : ι → List V} {M0 : ι → List O} {Z : ι → T (Ex × St)}
    (M : ι → List O) (lo n0 : Nat) (Inv : ι → Prop) (next : ι → Option ι) (μ : ι → Nat) (fin : ι → T (Ex × St)) (hlo : Nat.ble lo n0 = true)
    (hentry : ∀ x r, Leads (Z x) r → Inv x ∧ (M0 x).length = n0 ∧ (∃ ph, M x = M0 x ++ ph ∧ phantoms ph) ∧ Leads (fin (endOf next (μ x) x)) r)
    (hgo : ∀ x y h, Inv x → next x = some y → Inv y ∧ μ y < μ x ∧ ∃ st1, Leads (exec P E k f body ⟨fill fg h 0 (S x), ⟨M x, lo⟩⟩) (.normal, st1) ∧ seenL n0 fg h st1 ⟨S y, ⟨M y, lo⟩⟩)
    (hend : ∀ x h, Inv x → next x = none → ∀ e st, Leads (fin x) (e, st) → e ≠ .normal ∧ ∃ st1, Leads (exec P E k f body ⟨fill fg h 0 (S x), ⟨M x, lo⟩⟩) (e, st1) ∧ seenL n0 fg h st1 st) :
    SumS P body fg S M0 Z := by
  have hlo := ble_le hlo
  have hs : ∀ x y, Inv x → next x = some y → Inv y ∧ μ y < μ x := fun x y h1 h2 => by
    obtain ⟨a, b, _⟩ := hgo x y (fun _ => undef) h1 h2
    exact ⟨a, b⟩
  intro x0 h e st' ρ a w Q hl hr htr hQ
  obtain ⟨hi, hn, ⟨ph, hM, hph⟩, hl⟩ := hentry x0 _ hl
  refine wp_loop_rounds (μ x0 + 1) ?_
  have key : ∀ (d : Nat) (x : ι) (ρ1 : Ren) (a1 : Act) (w1 : World), μ x ≤ d → Inv x → Leads (fin (endOf next (μ x) x)) (e, st') → Tr ρ ⟨M0 x0, (M0 x0).length⟩ w ρ1 ⟨M x, lo⟩ w1 → TR ρ1 (fill fg h 0 (S x)) a1.tmps → Idles P a a1 → Code.rounds P body Q (d + 1) a1 w1 := by
    intro d
    induction d with
    | zero =>
      intro x ρ1 a1 w1 hd hi hl ht htr hid
      have hx : next x = none := by
        cases hx : next x with
        | none => rfl
        | some y => have := (hs x y hi hx).2; omega
      rw [rounds_succ]
      rw [endOf_none hx] at hl
      obtain ⟨hne, st1, h1, l, g1, g2, g3, g4⟩ := hend x h hi hx e st' hl
      refine exec_ok hE k hf hb body hw _ e st1 ρ1 a1 w1 _ h1 ht.rel htr fun ρ2 a2 w2 t2 htr2 hid2 => ?_
      obtain ⟨ρ3, t3, hk3⟩ := Tr.view hr (ht.trans t2) (show vOk (M0 x0).length l st'.mem.objs st1.mem.objs = true by rw [hn]; exact g1) g2 g3
      have hq := hQ ρ3 a2 w2 t3 (TR.seen hk3 g4 htr2) (hid.trans hid2)
      cases e with
      | normal => exact (hne rfl).elim
      | exit id => exact hq
      | ret => exact hq
    | succ d ih =>
      intro x ρ1 a1 w1 hd hi hl ht htr hid
      rw [rounds_succ]
      cases hx : next x with
      | none =>
        rw [endOf_none hx] at hl
        obtain ⟨hne, st1, h1, l, g1, g2, g3, g4⟩ := hend x h hi hx e st' hl
        refine exec_ok hE k hf hb body hw _ e st1 ρ1 a1 w1 _ h1 ht.rel htr fun ρ2 a2 w2 t2 htr2 hid2 => ?_
        obtain ⟨ρ3, t3, hk3⟩ := Tr.view hr (ht.trans t2) (show vOk (M0 x0).length l st'.mem.objs st1.mem.objs = true by rw [hn]; exact g1) g2 g3
        have hq := hQ ρ3 a2 w2 t3 (TR.seen hk3 g4 htr2) (hid.trans hid2)
        cases e with
        | normal => exact (hne rfl).elim
        | exit id => exact hq
        | ret => exact hq
      | some y =>
        obtain ⟨hi2, hμ, st1, h1, l, g1, g2, g3, g4⟩ := hgo x y h hi hx
        refine exec_ok hE k hf hb body hw _ .normal st1 ρ1 a1 w1 _ h1 ht.rel htr fun ρ2 a2 w2 t2 htr2 hid2 => ?_
        obtain ⟨ρ3, t3, hk3⟩ := Tr.view hr (ht.trans t2) (show vOk (M0 x0).length l (M y) st1.mem.objs = true by rw [hn]; exact g1) g2 g3
        exact ih y ρ3 a2 w2 (by omega) hi2 (by rw [← endOf_step hs hi hx]; exact hl) t3 (TR.seen hk3 g4 htr2) (hid.trans hid2)
  refine key (μ x0) x0 ρ a w (Nat.le_refl _) hi hl ?_ htr (.refl a)
  rw [hM]
  exact Tr.phantoms hph ((Tr.refl hr).lower (by rw [hn]; exact hlo))

/-! ### To be looked at by the kernel -/

noncomputable def chkL (n : Nat) (fg : List Nat) (h : Nat → Value) (l : List Nat) (st : St) (r : Ex × St) : Ex × Bool × List O × List V :=
  (r.1, vOk n l st.mem.objs r.2.mem.objs && Nat.ble st.mem.low r.2.mem.low, weakOs (upOs (upId l st.mem.objs.length r.2.mem.objs.length) st.mem.objs) (picks r.2.mem.objs l),
    weakL (upL (upId l st.mem.objs.length r.2.mem.objs.length) (fill fg h 0 st.tm)) r.2.tm)
noncomputable def wantL (fg : List Nat) (h : Nat → Value) (l : List Nat) (e : Ex) (st : St) (r : Ex × St) : Ex × Bool × List O × List V :=
  (e, true, upOs (upId l st.mem.objs.length r.2.mem.objs.length) st.mem.objs, upL (upId l st.mem.objs.length r.2.mem.objs.length) (fill fg h 0 st.tm))

/-- The leaf is e, seen as st. -/
def KL (n : Nat) (fg : List Nat) (h : Nat → Value) (e : Ex) (st : St) (o : Option (Ex × St)) : Prop :=
  ∃ l, o.map (chkL n fg h l st) = o.map (wantL fg h l e st)

theorem KL.spec {n : Nat} {fg : List Nat} {h : Nat → Value} {e : Ex} {st : St} {r : Ex × St} (hk : KL n fg h e st (some r)) : r.1 = e ∧ seenL n fg h r.2 st := by
  obtain ⟨l, hl⟩ := hk
  simp only [Option.map_some, Option.some.injEq, chkL, wantL, Prod.mk.injEq, Bool.and_eq_true] at hl
  exact ⟨hl.1, l, hl.2.1.1, hl.2.1.2, hl.2.2.1, hl.2.2.2⟩

/-- A round out of its skeleton. -/
theorem round_of {P : Program} {E : Env} {k : Nat} {f : FuncId} {body : Code} {n : Nat} {fg : List Nat} {h : Nat → Value} {e : Ex} {st0 st : St} {s : Sk}
    (hs : (exec P E k f body st0).sk = s) (hh : s.Holds (KL n fg h e st) (exec P E k f body st0)) : ∃ st1, Leads (exec P E k f body st0) (e, st1) ∧ seenL n fg h st1 st := by
  obtain ⟨⟨e1, st1⟩, h1, h2⟩ := T.of_sk hs hh
  obtain ⟨h3, h4⟩ := h2.spec
  have h3 : e1 = e := h3
  subst h3
  exact ⟨st1, h1, h4⟩

noncomputable def chkC (n : Nat) (l : List Nat) (r r1 : V × Option Mem) : Bool × List O × V :=
  match r.2, r1.2 with
  | none, none => (true, [], weak r.1 r1.1)
  | none, some m1 => (Nat.ble n m1.low, [], weak r.1 r1.1)
  | some m', some m1 => (vOk n l m'.objs m1.objs && Nat.ble m'.low m1.low, weakOs (upOs (upId l m'.objs.length m1.objs.length) m'.objs) (picks m1.objs l), weak (up (upId l m'.objs.length m1.objs.length) r.1) r1.1)
  | _, _ => (false, [], .unk)
noncomputable def wantC (l : List Nat) (r r1 : V × Option Mem) : Bool × List O × V :=
  match r.2, r1.2 with
  | none, _ => (true, [], r.1)
  | some m', some m1 => (true, upOs (upId l m'.objs.length m1.objs.length) m'.objs, up (upId l m'.objs.length m1.objs.length) r.1)
  | _, _ => (true, [], .unk)

def KC (n : Nat) (r : V × Option Mem) (o : Option (V × Option Mem)) : Prop := ∃ l, o.map (chkC n l r) = o.map (wantC l r) ∧ (r.2 = none → refs (fun a => a.id < n) r.1)

theorem KC.spec {n : Nat} {r r1 : V × Option Mem} (hk : KC n r (some r1)) : seenC n r1 r := by
  obtain ⟨l, hl, hrefs⟩ := hk
  obtain ⟨v, om⟩ := r
  obtain ⟨v1, om1⟩ := r1
  cases om with
  | none =>
    cases om1 with
    | none =>
      simp only [Option.map_some, Option.some.injEq, chkC, wantC, Prod.mk.injEq] at hl
      exact hl.2.2
    | some m1 =>
      simp only [Option.map_some, Option.some.injEq, chkC, wantC, Prod.mk.injEq] at hl
      exact ⟨hl.2.2, hl.1, hrefs rfl⟩
  | some m' =>
    cases om1 with
    | none => simp [chkC, wantC] at hl
    | some m1 =>
      simp only [Option.map_some, Option.some.injEq, chkC, wantC, Prod.mk.injEq, Bool.and_eq_true] at hl
      exact ⟨l, hl.1.1, hl.1.2, hl.2.1, hl.2.2⟩

/-- A call out of its skeleton. -/
theorem call_of {P : Program} {E : Env} {k : Nat} {f : FuncId} {as : List V} {m : Mem} {n : Nat} {r : V × Option Mem} {s : Sk}
    (hs : (call P E k f as m).sk = s) (hh : s.Holds (KC n r) (call P E k f as m)) : ∃ r1, Leads (call P E k f as m) r1 ∧ seenC n r1 r := by
  obtain ⟨r1, h1, h2⟩ := T.of_sk hs hh
  exact ⟨r1, h1, h2.spec⟩

/-- A contract, with arguments told in other words case by case. -/
theorem CallS.of_call' {P : Program} {E : Env} (hE : EnvOk P E) (n : Nat) {f : FuncId} {ι : Type} {A : ι → List V} {M : ι → List O} {Z : ι → T (V × Option Mem)}
    (h : ∀ x r, Leads (Z x) r → ∃ as, (∀ ρ xs, RL ρ (A x) xs → RL ρ as xs) ∧ ∃ r1, Leads (call P E n f as ⟨M x, (M x).length⟩) r1 ∧ seenC (M x).length r1 r) : CallS P f A M Z := by
  intro x v om xs ρ w hl hr hx
  obtain ⟨as, ha, h1⟩ := h x _ hl
  exact CallS.of_call hE n (A := fun _ : Unit => as) (M := fun _ => M x) (Z := fun _ => .ret (v, om)) (fun _ r hr => by rw [hr.ret_inv]; exact h1) () v om xs ρ w (.ret _) hr (ha ρ xs hx)

theorem C.lit {ρ : Ren} {k : IntKind} {n : Int} {vs : List V} {xs : List Value} (h : C ρ (.sint k n :: vs) xs) : C ρ (.int k n :: vs) xs := by
  cases h with
  | one _ x _ xs h h1 t => cases h; exact .one _ _ _ _ (.int k n) h1 t

theorem RL.litHead {ρ : Ren} {k : IntKind} {n : Int} {cs vs : List V} {xs : List Value} (h : RL ρ (.agg (.sint k n :: cs) :: vs) xs) : RL ρ (.agg (.int k n :: cs) :: vs) xs := by
  cases h with
  | cons _ x _ xs h t => cases h with
    | agg _ ys hc => exact .cons _ _ _ _ (.agg _ ys hc.lit) t

end Go.X
