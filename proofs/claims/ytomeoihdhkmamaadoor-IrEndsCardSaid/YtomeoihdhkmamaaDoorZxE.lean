/- Operations that leave memory alone. -/
import Derived.Test.YtomeoihdhkmamaaDoorZxD
import Derived.Laws.StructEq
import Derived.ChangeKeysEq
set_option linter.unusedVariables false
set_option linter.unusedSimpArgs false
namespace Go.X
open Go.RowKit (Below)

structure TR (ρ : Ren) (tm : List V) (tmps : Array Value) : Prop where
  len : tm.length ≤ tmps.size
  at_ : ∀ i, R ρ (getL tm i) (tmps.getD i undef)

theorem getL_setL : ∀ (tm : List V) (d : Nat) (v : V) (i : Nat), getL (setL tm d v) i = if d = i ∧ d < tm.length then v else getL tm i
  | [], d, v, i => by simp [setL_nil, setL_zero, setL_succ]
  | u :: tm, 0, v, 0 => by simp [setL_nil, setL_zero, setL_succ, getL_nil, getL_zero, getL_succ]
  | u :: tm, 0, v, i + 1 => by simp [setL_nil, setL_zero, setL_succ, getL_nil, getL_zero, getL_succ]
  | u :: tm, d + 1, v, 0 => by simp [setL_nil, setL_zero, setL_succ, getL_nil, getL_zero, getL_succ]
  | u :: tm, d + 1, v, i + 1 => by simp [setL_nil, setL_zero, setL_succ, getL_nil, getL_zero, getL_succ, getL_setL tm d v i]

theorem setL_length {α : Type} : ∀ (l : List α) (d : Nat) (v : α), (setL l d v).length = l.length
  | [], d, v => rfl
  | u :: l, 0, v => rfl
  | u :: l, d + 1, v => by simp [setL_nil, setL_zero, setL_succ, setL_length l d v]

theorem getD_setIf (tmps : Array Value) (d i : Nat) (x : Value) : (tmps.setIfInBounds d x).getD i undef = if d = i ∧ d < tmps.size then x else tmps.getD i undef := by
  simp only [Array.getD_eq_getD_getElem?, Array.getElem?_setIfInBounds]
  by_cases h : d = i
  · subst h
    by_cases h2 : d < tmps.size
    · simp [h2]
    · simp [h2]
  · simp [h]

theorem TR.put {ρ : Ren} {tm : List V} {a : Act} (h : TR ρ tm a.tmps) (d : Option Tmp) {v : V} {x : Value} (hv : R ρ v x) (m : Mem) : TR ρ ((St.mk tm m).put d v).tm (a.put d x).tmps := by
  cases d with
  | none => exact h
  | some d =>
    refine ⟨by simp [St.put, Act.put, setL_length, h.len], fun i => ?_⟩
    simp only [St.put, Act.put, getL_setL, getD_setIf]
    by_cases h1 : d = i ∧ d < tm.length
    · rw [if_pos h1, if_pos ⟨h1.1, Nat.lt_of_lt_of_le h1.2 h.len⟩]; exact hv
    · rw [if_neg h1]
      by_cases h2 : d = i ∧ d < a.tmps.size
      · rw [if_pos h2]
        have : getL tm i = .unk := by
          have hi : tm.length ≤ i := by
            rcases Nat.lt_or_ge d tm.length with h3 | h3
            · exact (h1 ⟨h2.1, h3⟩).elim
            · exact h2.1 ▸ h3
          clear h h1 h2
          induction tm generalizing i with
          | nil => rfl
          | cons u tm ih =>
            cases i with
            | zero => simp at hi
            | succ i => exact ih i (by simpa using hi)
        rw [this]
        exact .unk _
      · rw [if_neg h2]; exact h.at_ i

theorem TR.mono {ρ ρ' : Ren} {tm : List V} {tmps : Array Value} (hs : Sub ρ ρ') (h : TR ρ tm tmps) : TR ρ' tm tmps :=
  ⟨h.len, fun i => (h.at_ i).mono hs⟩

theorem ofVal1_spec (ρ : Ren) (x : Value) : R ρ (ofVal1 x) x := by
  unfold ofVal1
  split
  all_goals first
    | exact .unk _
    | exact R.func _ [] [] [] [] .nil .nil
    | constructor

theorem ofCells_spec (ρ : Ren) : ∀ (xs : List Value), xs.all (·.oneCell') = true → C ρ (ofCells xs) xs
  | [], _ => .nil
  | x :: xs, h => by
    simp only [List.all_cons, Bool.and_eq_true] at h
    exact .one _ _ _ _ (ofVal1_spec ρ x) h.1 (ofCells_spec ρ xs h.2)

theorem ofVal_spec (ρ : Ren) (x : Value) : R ρ (ofVal x) x := by
  unfold ofVal
  split
  · rename_i cs
    refine R.bif fun h => ?_
    have := R.agg _ _ (ofCells_spec ρ cs.toList h)
    simpa using this
  · exact .iface _ _ _ (ofVal1_spec ρ _)
  · exact ofVal1_spec ρ _

theorem ev_spec {ρ : Ren} {tm : List V} {a : Act} (h : TR ρ tm a.tmps) (x : Operand) : R ρ (ev tm x) (a.eval x) := by
  cases x with
  | tmp t => exact h.at_ t
  | const v => exact ofVal_spec ρ v
  | global g => exact .unk _
  | func f => exact R.func _ [] [] [] [] .nil .nil

theorem evL_spec {ρ : Ren} {tm : List V} {a : Act} (h : TR ρ tm a.tmps) : ∀ (xs : List Operand), RL ρ (evL tm xs) (xs.map a.eval)
  | [] => .nil
  | x :: xs => .cons _ _ _ _ (ev_spec h x) (evL_spec h xs)

theorem objL_RL {ρ : Ren} : ∀ {vs : List V} {xs : List Value} {i : Nat} {v : V}, RL ρ vs xs → objL vs i = some v → ∃ x, xs[i]? = some x ∧ R ρ v x
  | _, _, i, v, .nil, h => by simp [objL_nil, objL_zero, objL_succ] at h
  | _, _, 0, v, .cons u x vs xs hx t, h => by simp only [objL_nil, objL_zero, objL_succ, Option.some.injEq] at h; subst h; exact ⟨x, rfl, hx⟩
  | _, _, i + 1, v, .cons u x vs xs hx t, h => by simp only [objL_nil, objL_zero, objL_succ] at h; obtain ⟨y, h1, h2⟩ := objL_RL t h; exact ⟨y, by simpa using h1, h2⟩

theorem isInt_spec {ρ : Ren} {v : V} {x : Value} {k : IntKind} {n : Int} {sy : Bool} (h : isInt v = some (k, n, sy)) (hr : R ρ v x) : x = .int k n := by
  unfold isInt at h
  split at h
  · simp only [Option.some.injEq, Prod.mk.injEq] at h; obtain ⟨rfl, rfl, _⟩ := h; cases hr; rfl
  · simp only [Option.some.injEq, Prod.mk.injEq] at h; obtain ⟨rfl, rfl, _⟩ := h; cases hr; rfl
  · cases h

theorem mkInt_spec (ρ : Ren) (sy : Bool) (k : IntKind) (n : Int) : R ρ (mkInt sy k n) (.int k n) := by cases sy <;> constructor
theorem mkBool_spec (ρ : Ren) (sy : Bool) (b : Bool) : R ρ (mkBool sy b) (.bool b) := by cases sy <;> constructor

theorem objL_toList {α : Type} : ∀ (l : List α) (i : Nat), objL l i = l[i]?
  | [], i => rfl
  | a :: l, 0 => rfl
  | a :: l, i + 1 => by simpa [objL_nil, objL_zero, objL_succ] using objL_toList l i

theorem Leads.ask_inv {α : Type} {sy : Bool} {p : Prop} [Decidable p] {t : T α} {b : α} (h : Leads (ask sy p t) b) : p ∧ Leads t b := by
  unfold ask at h
  cases sy with
  | true => exact h.need_inv
  | false =>
    simp only [cond_false] at h
    cases hd : decide p with
    | true => rw [hd] at h; exact ⟨of_decide_eq_true hd, h⟩
    | false => rw [hd] at h; exact h.fail_inv.elim

theorem intOp_spec {P : Program} {ρ : Ren} {sy : Bool} {op : BinOp} {k k' : IntKind} {x y : Int} {v : V} {t : TypeId} (h : Leads (intOp sy op k x k' y) v) :
    ∃ z, R ρ v z ∧ ∀ w, (binOp op t (.int k x) (.int k' y)).run P w = .ok z w := by
  cases op
  case shl =>
    obtain ⟨h0, h⟩ := h.ask_inv
    rw [h.ret_inv]
    exact ⟨_, mkInt_spec .., fun w => by simp [binOp, Op.shift, Int.not_lt.2 h0]⟩
  case shr =>
    obtain ⟨h0, h⟩ := h.ask_inv
    rw [h.ret_inv]
    exact ⟨_, mkInt_spec .., fun w => by simp [binOp, Op.shift, Int.not_lt.2 h0]⟩
  all_goals
    simp only [intOp] at h
    cases hk : decide (k = k') with
    | false => rw [hk] at h; exact h.fail_inv.elim
    | true =>
      have := of_decide_eq_true hk
      subst this
      simp only [hk, cond_true] at h
      first
      | (rw [h.ret_inv]; refine ⟨_, mkInt_spec .., fun w => ?_⟩; simp [binOp, Op.intArith, Op.intBits, bitsI]; done)
      | (rw [h.ret_inv]; refine ⟨_, mkBool_spec .., fun w => ?_⟩; simp [binOp, Op.intCmp]; done)
      | (obtain ⟨h0, h⟩ := h.ask_inv; rw [h.ret_inv]; refine ⟨_, mkInt_spec .., fun w => ?_⟩; simp [binOp, Op.intDiv, h0]; done)

structure EqOk (P : Program) (t : TypeId) : Prop where
  agg : isAggT P t = some true
  held : P.stoodInHeld t = false
  guard : P.eqGuardType P.depth t = false
  names : ∀ f ∈ (P.fieldsOf t).toList, f.name ≠ "_"

def EqsOk (P : Program) (eqs : List TypeId) : Prop := ∀ t, eqs.any (Nat.beq t) = true → EqOk P t

theorem run_part {P : Program} {t : TypeId} {o sz : Nat} {bb : Bool} {ys ms zs : List Value} {w : World} (ha : isAggT P t = some bb) (hs : sizeT P t = some sz)
    (ho : ys.length = o) (hl : ms.length = bif bb then sz else 1) :
    (bb = true → (part t (ys ++ (ms ++ zs)).toArray o).run P w = .ok (.agg ms.toArray) w) ∧ (bb = false → ∀ x, ms = [x] → (part t (ys ++ (ms ++ zs)).toArray o).run P w = .ok x w) := by
  constructor
  · intro hb
    subst hb
    simp only [cond_true] at hl
    unfold part
    simp only [Sem.run_bind, run_isAgg ha, Result.andThen, if_true, run_sizeOf hs]
    simp only [Sem.run_pure]
    congr 2
    simp only [List.extract_toArray, List.extract_eq_take_drop]
    congr 1
    rw [List.drop_append_of_le_length (by omega), List.drop_eq_nil_of_le (by omega : ys.length ≤ o), List.nil_append, List.take_append_of_le_length (by omega), List.take_of_length_le (by omega)]
  · intro hb x hx
    subst hb
    subst hx
    unfold part
    simp only [Sem.run_bind, run_isAgg ha, Result.andThen, Bool.false_eq_true, if_false]
    have : ((ys ++ ([x] ++ zs)).toArray)[o]? = some x := by
      rw [List.getElem?_toArray, List.getElem?_append_right (by omega)]
      simp [ho]
    rw [this]
    rfl

def V.cell : V → Bool
  | .unks _ | .arr .. => false
  | _ => true

theorem C.single {ρ : Ren} {u : V} {xs : List Value} (h : C ρ [u] xs) (hu : u.cell = true) : ∃ x, xs = [x] ∧ R ρ u x := by
  cases h with
  | one v x vs xs hv h1 t => cases t; exact ⟨_, rfl, hv⟩
  | unks n us vs xs hn h1 t => cases hu
  | arr n s f g vs xs hh hl t => cases hu

theorem eqB_spec {ρ : Ren} {u v : V} {xs ys : List Value} {r : Bool} (h : eqB u v = some r) (hx : C ρ [u] xs) (hy : C ρ [v] ys) : ∃ a b, xs = [.bool a] ∧ ys = [.bool b] ∧ r = (a == b) := by
  unfold eqB at h
  split at h
  all_goals first
    | (cases h; done)
    | (simp only [Option.some.injEq] at h; subst h; obtain ⟨p, rfl, hp⟩ := hx.single rfl; obtain ⟨q, rfl, hq⟩ := hy.single rfl; cases hp; cases hq; exact ⟨_, _, rfl, rfl, rfl⟩)

theorem eqS_spec {ρ : Ren} {u v : V} {xs ys : List Value} {r : Bool} (h : eqS u v = some r) (hx : C ρ [u] xs) (hy : C ρ [v] ys) : ∃ a b, xs = [.string a] ∧ ys = [.string b] ∧ r = (a.toList == b.toList) := by
  unfold eqS at h
  split at h
  all_goals first
    | (cases h; done)
    | (simp only [Option.some.injEq] at h; subst h; obtain ⟨p, rfl, hp⟩ := hx.single rfl; obtain ⟨q, rfl, hq⟩ := hy.single rfl; cases hp; cases hq; exact ⟨_, _, rfl, rfl, rfl⟩)

theorem eqI_spec {ρ : Ren} {u v : V} {xs ys : List Value} {r : Bool} (h : eqI u v = some r) (hx : C ρ [u] xs) (hy : C ρ [v] ys) : ∃ k a b, xs = [.int k a] ∧ ys = [.int k b] ∧ r = (a == b) := by
  unfold eqI at h
  split at h
  all_goals first
    | (cases h; done)
    | (rename_i k a l b
       cases hk : decide (k = l) with
       | false => rw [hk] at h; cases h
       | true =>
         rw [hk] at h
         have hk' := of_decide_eq_true hk
         subst hk'
         simp only [cond_true, Option.some.injEq] at h
         subst h; obtain ⟨p, rfl, hp⟩ := hx.single rfl; obtain ⟨q, rfl, hq⟩ := hy.single rfl; cases hp; cases hq; exact ⟨_, _, _, rfl, rfl, rfl⟩)

theorem eqB_cell {u v : V} {r : Bool} (h : eqB u v = some r) : u.cell = true ∧ v.cell = true := by
  unfold eqB at h; split at h <;> first | (cases h; done) | exact ⟨rfl, rfl⟩
theorem eqS_cell {u v : V} {r : Bool} (h : eqS u v = some r) : u.cell = true ∧ v.cell = true := by
  unfold eqS at h; split at h <;> first | (cases h; done) | exact ⟨rfl, rfl⟩
theorem eqI_cell {u v : V} {r : Bool} (h : eqI u v = some r) : u.cell = true ∧ v.cell = true := by
  unfold eqI at h; split at h <;> first | (cases h; done) | exact ⟨rfl, rfl⟩

/-- Cells as the value of a type of the machine. -/
def Shown (P : Program) (t : TypeId) (xs : List Value) (x : Value) : Prop :=
  (isAggT P t = some true ∧ x = .agg xs.toArray) ∨ (isAggT P t = some false ∧ xs = [x])

theorem andO_spec {p q : Option Prop} (h : holdsO (andO p q)) : holdsO p ∧ holdsO q := by
  cases p with
  | none => exact ⟨trivial, h⟩
  | some p =>
    cases q with
    | none => exact ⟨h, trivial⟩
    | some q => exact h

theorem intCell_spec {ρ : Ren} {a : List V} {xs : List Value} {k : IntKind} {n : Int} (h : intCell a = some (k, n)) (hc : C ρ a xs) : xs = [.int k n] := by
  unfold intCell at h
  split at h
  · rename_i v
    split at h
    · rename_i k' n' s hv
      cases h
      have hcell : v.cell = true := by cases v <;> first | rfl | cases hv
      obtain ⟨x, rfl, hx⟩ := hc.single hcell
      rw [isInt_spec hv hx]
    · cases h
  · cases h

theorem okI_spec {ρ : Ren} {a b : List V} {xs ys : List Value} (h : okI a b = true) (hx : C ρ a xs) (hy : C ρ b ys) : ∃ k, xs = [.int k (valI a)] ∧ ys = [.int k (valI b)] := by
  unfold okI at h
  split at h
  · rename_i k m l n h1 h2
    have := of_decide_eq_true h
    subst this
    refine ⟨k, ?_, ?_⟩
    · rw [intCell_spec h1 hx, valI, h1]
    · rw [intCell_spec h2 hy, valI, h2]
  · cases h

theorem eqItems_spec {P : Program} {e : TypeId} {k0 : IntKind} {f g : Nat → List V} {p q : Nat → List Value} {n : Nat} {ρ : Ren} {w : World} (d : Nat) (hu : P.underlying e = some (.int k0)) (hs : sizeT P e = some 1)
    (hp : ∀ k, k < n → C ρ (f k) (p k)) (hq : ∀ k, k < n → C ρ (g k) (q k)) (hpl : ∀ k, k < n → (p k).length = 1) (hql : ∀ k, k < n → (q k).length = 1) (ho : ∀ k, k < n → okI (f k) (g k) = true) :
    ∀ is : List Nat, (∀ i ∈ is, i < n) → (Op.eqItems (d + 1) e 1 ((List.range n).flatMap p).toArray ((List.range n).flatMap q).toArray is).run P w = .ok (is.all fun k => valI (f k) == valI (g k)) w
  | [], _ => by simp [Op.eqItems]
  | i :: is, h => by
    have hi := h i (by simp)
    have ih := eqItems_spec d hu hs hp hq hpl hql ho is (fun j hj => h j (by simp [hj])) (w := w)
    have hag : isAggT P e = some false := by simp [isAggT, hu]
    obtain ⟨k, e1, e2⟩ := okI_spec (ho i hi) (hp i hi) (hq i hi)
    obtain ⟨as, bs, f1, f2, _⟩ := flat_split 1 p n hpl i hi
    obtain ⟨as', bs', g1, g2, _⟩ := flat_split 1 q n hql i hi
    have h1 := (run_part (w := w) hag hs (ys := as) (ms := p i) (zs := bs) (o := i * 1) f2 (by simpa using hpl i hi)).2 rfl _ e1
    have h2 := (run_part (w := w) hag hs (ys := as') (ms := q i) (zs := bs') (o := i * 1) g2 (by simpa using hql i hi)).2 rfl _ e2
    rw [← f1] at h1
    rw [← g1] at h2
    simp only [Op.eqItems, Sem.run_bind, h1, h2, Result.andThen_ok, run_equalIn_int w d e k k0 _ _ hu]
    cases hv : valI (f i) == valI (g i) with
    | false => simp [hv]
    | true => simp only [Bool.not_true, Bool.false_eq_true, if_false, ih, List.all_cons, hv, Bool.true_and]

theorem eqFs_spec {P : Program} {ρ : Ren} {D : Nat} {g : TypeId → List V → List V → Option (Option Prop × Bool)} {cs ds : List V} {xs ys : List Value} (hx : C ρ cs xs) (hy : C ρ ds ys)
    (hg : ∀ t a b r as bs x y w, g t a b = some r → holdsO r.1 → C ρ a as → C ρ b bs → Shown P t as x → Shown P t bs y → (Op.equalIn D t x y).run P w = .ok r.2 w)
    (hone : ∀ t a b r, g t a b = some r → ∀ as, (C ρ a as ∨ C ρ b as) → isAggT P t = some false → as.length = 1) (hag : ∀ t a b r, g t a b = some r → ∃ q, isAggT P t = some q) :
    ∀ (fs : List Field) (r : Option Prop × Bool) (w : World), eqFs P g cs ds fs = some r → holdsO r.1 → (∀ f ∈ fs, f.name ≠ "_") → (Op.eqFields D xs.toArray ys.toArray fs).run P w = .ok r.2 w
  | [], r, w, h, ho, hn => by
    simp only [eqFs, Option.some.injEq] at h
    subst h
    rfl
  | f :: fs, r, w, h, ho, hn => by
    unfold eqFs at h
    split at h
    · rename_i sz hs
      split at h
      · rename_i a b h1 h2
        split at h
        · rename_i r1 r2 h3 h4
          simp only [Option.some.injEq] at h
          subst h
          obtain ⟨ho1, ho2⟩ := andO_spec ho
          obtain ⟨as, ms, bs, rfl, e1, e2, e3⟩ := mid_spec h1 hx
          obtain ⟨as', ms', bs', rfl, e1', e2', e3'⟩ := mid_spec h2 hy
          obtain ⟨q, hq⟩ := hag _ _ _ _ h3
          have key : ∃ x y, Shown P f.type ms x ∧ Shown P f.type ms' y ∧ (part f.type (as ++ (ms ++ bs)).toArray f.offset).run P w = .ok x w ∧ (part f.type (as' ++ (ms' ++ bs')).toArray f.offset).run P w = .ok y w := by
            cases q with
            | true => exact ⟨_, _, .inl ⟨hq, rfl⟩, .inl ⟨hq, rfl⟩, (run_part hq hs e1 e2).1 rfl, (run_part hq hs e1' e2').1 rfl⟩
            | false =>
              have l1 := hone _ _ _ _ h3 ms (.inl e3) hq
              have l2 := hone _ _ _ _ h3 ms' (.inr e3') hq
              obtain ⟨x, rfl⟩ := List.length_eq_one_iff.1 l1
              obtain ⟨y, rfl⟩ := List.length_eq_one_iff.1 l2
              exact ⟨x, y, .inr ⟨hq, rfl⟩, .inr ⟨hq, rfl⟩, (run_part hq hs e1 (by simp)).2 rfl x rfl, (run_part hq hs e1' (by simp)).2 rfl y rfl⟩
          obtain ⟨x, y, k1, k2, k3, k4⟩ := key
          have k5 := hg _ _ _ _ _ _ _ _ w h3 ho1 e3 e3' k1 k2
          have ih := eqFs_spec hx hy hg hone hag fs r2 w h4 ho2 (fun f hf => hn f (by simp [hf]))
          simp only [Op.eqFields]
          rw [if_pos (hn f (by simp))]
          simp only [Sem.run_bind, k3, Result.andThen, k4, k5]
          obtain ⟨p1, r1⟩ := r1
          cases r1 with
          | false => simp
          | true => simp only [Bool.not_true, Bool.false_eq_true, if_false, ih, Bool.true_and]
        · cases h
      · cases h
    · cases h

theorem eqTy_spec {P : Program} {ρ : Ren} {eqs : List TypeId} (hE : EqsOk P eqs) : ∀ (d D : Nat), d ≤ D → ∀ t cs ds r xs ys x y w, eqTy P eqs d t cs ds = some r → holdsO r.1 → C ρ cs xs → C ρ ds ys → Shown P t xs x → Shown P t ys y →
    (Op.equalIn D t x y).run P w = .ok r.2 w
  | 0, D, hd, t, cs, ds, r, xs, ys, x, y, w, h, ho, hx, hy, sx, sy => by simp [eqTy] at h
  | d + 1, D, hd, t, cs, ds, r, xs, ys, x, y, w, h, ho, hx, hy, sx, sy => by
    obtain ⟨D, rfl⟩ : ∃ e, D = e + 1 := ⟨D - 1, by omega⟩
    have one : ∀ t a b r, eqTy P eqs d t a b = some r → ∀ as, (C ρ a as ∨ C ρ b as) → isAggT P t = some false → as.length = 1 := by
      intro t a b r h as hc hag
      cases d with
      | zero => simp [eqTy] at h
      | succ d =>
        unfold eqTy at h
        unfold isAggT at hag
        split at h
        · rename_i fs hu; rw [hu] at hag; simp at hag
        all_goals first
          | (cases h; done)
          | (rename_i n e hu; rw [hu] at hag; simp at hag; done)
          | (split at h
             · obtain ⟨b', h, _⟩ := Option.map_eq_some_iff.1 h
               have hcl := by first | exact eqB_cell h | exact eqI_cell h | exact eqS_cell h
               rcases hc with hc | hc
               · obtain ⟨x, rfl, _⟩ := hc.single hcl.1; rfl
               · obtain ⟨x, rfl, _⟩ := hc.single hcl.2; rfl
             · cases h)
    have ag : ∀ t a b r, eqTy P eqs d t a b = some r → ∃ q, isAggT P t = some q := by
      intro t a b r h
      cases d with
      | zero => simp [eqTy] at h
      | succ d =>
        unfold eqTy at h
        unfold isAggT
        split at h
        all_goals first
          | (cases h; done)
          | (rename_i hu; rw [hu]; exact ⟨_, rfl⟩)
    unfold eqTy at h
    split at h
    · rename_i fs hu
      cases he : eqs.any (Nat.beq t) with
      | false => rw [he] at h; cases h
      | true =>
        rw [he] at h
        simp only [cond_true] at h
        have ok := hE t he
        have hfo : P.fieldsOf t = fs := by simp [Program.fieldsOf, hu]
        have hag : isAggT P t = some true := by simp [isAggT, hu]
        have ex : x = .agg xs.toArray := by rcases sx with ⟨_, q⟩ | ⟨q, _⟩; exact q; rw [hag] at q; cases q
        have ey : y = .agg ys.toArray := by rcases sy with ⟨_, q⟩ | ⟨q, _⟩; exact q; rw [hag] at q; cases q
        subst ex; subst ey
        rw [run_equalIn_struct w D t _ _ (by rw [hfo]; exact hu) ok.held]
        rw [hfo]
        exact eqFs_spec hx hy (fun t a b r as bs x y w h1 h2 h3 h4 h5 h6 => eqTy_spec hE d D (by omega) t a b r as bs x y w h1 h2 h3 h4 h5 h6) one ag fs.toList r w h ho (by have := ok.names; rwa [hfo] at this)
    · rename_i hu
      have hag : isAggT P t = some false := by simp [isAggT, hu]
      split at h
      · obtain ⟨b', g, rfl⟩ := Option.map_eq_some_iff.1 h
        obtain ⟨a, b, rfl, rfl, rfl⟩ := eqB_spec g hx hy
        rcases sx with ⟨q, _⟩ | ⟨_, q⟩
        · rw [hag] at q; cases q
        · rcases sy with ⟨q', _⟩ | ⟨_, q'⟩
          · rw [hag] at q'; cases q'
          · cases q; cases q'; exact run_equalIn_bool' w D t a b hu
      · cases h
    · rename_i k hu
      have hag : isAggT P t = some false := by simp [isAggT, hu]
      split at h
      · obtain ⟨b', g, rfl⟩ := Option.map_eq_some_iff.1 h
        obtain ⟨k', a, b, rfl, rfl, rfl⟩ := eqI_spec g hx hy
        rcases sx with ⟨q, _⟩ | ⟨_, q⟩
        · rw [hag] at q; cases q
        · rcases sy with ⟨q', _⟩ | ⟨_, q'⟩
          · rw [hag] at q'; cases q'
          · cases q; cases q'; exact run_equalIn_int w D t k' k a b hu
      · cases h
    · rename_i hu
      have hag : isAggT P t = some false := by simp [isAggT, hu]
      split at h
      · obtain ⟨b', g, rfl⟩ := Option.map_eq_some_iff.1 h
        obtain ⟨a, b, rfl, rfl, rfl⟩ := eqS_spec g hx hy
        rcases sx with ⟨q, _⟩ | ⟨_, q⟩
        · rw [hag] at q; cases q
        · rcases sy with ⟨q', _⟩ | ⟨_, q'⟩
          · rw [hag] at q'; cases q'
          · cases q; cases q'; exact run_equalIn_string w D t a b hu
      · cases h
    · rename_i n e hu
      have hag : isAggT P t = some true := by simp [isAggT, hu]
      have ex : x = .agg xs.toArray := by rcases sx with ⟨_, q⟩ | ⟨q, _⟩; exact q; rw [hag] at q; cases q
      have ey : y = .agg ys.toArray := by rcases sy with ⟨_, q⟩ | ⟨q, _⟩; exact q; rw [hag] at q; cases q
      subst ex; subst ey
      split at h
      · rename_i d' k0 n1 f n2 g hue hse
        cases hb : Nat.beq n1 n && Nat.beq n2 n with
        | false => rw [hb] at h; cases h
        | true =>
          rw [hb] at h
          simp only [cond_true, Option.some.injEq] at h
          subst h
          rw [Bool.and_eq_true] at hb
          have b1 := Nat.eq_of_beq_eq_true hb.1
          have b2 := Nat.eq_of_beq_eq_true hb.2
          subst b1 b2
          obtain ⟨D', rfl⟩ : ∃ e, D = e + 1 := ⟨D - 1, by omega⟩
          obtain ⟨i, hi, hsz⟩ := Option.map_eq_some_iff.1 hse
          have hcell : P.cellsOf e = 1 := by simp [Program.cellsOf, hi, hsz]
          rw [run_equalIn_array w (D' + 1) _ _ hu hi, hcell]
          cases hx with
          | arr _ _ _ p _ xs hp hpl t => cases t with
            | nil => cases hy with
              | arr _ _ _ q _ ys hq hql t => cases t with
                | nil =>
                  simp only [List.append_nil]
                  exact eqItems_spec D' hue hse hp hq hpl hql ho (List.range _) (fun i hi => List.mem_range.1 hi)
              | one v x vs xs h h1 t => cases h
          | one v x vs xs h h1 t => cases h
      · cases h
    · cases h

end Go.X
