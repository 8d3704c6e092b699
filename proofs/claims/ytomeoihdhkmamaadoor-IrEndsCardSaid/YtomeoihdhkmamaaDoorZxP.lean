/- What an environment asks of a program, looked at by the kernel. -/
import Derived.Test.YtomeoihdhkmamaaDoorZxK
import Derived.Laws.Externs
set_option linter.unusedVariables false
set_option linter.unusedSimpArgs false
namespace Go.X

def ancEq : List (List Nat) → List (List Nat) → Bool
  | [], [] => true
  | a :: l, b :: r => decide (a = b) && ancEq l r
  | _, _ => false

theorem ancEq_spec : ∀ {l r : List (List Nat)}, ancEq l r = true → l = r
  | [], [], _ => rfl
  | a :: l, b :: r, h => by
    simp only [ancEq, Bool.and_eq_true, decide_eq_true_eq] at h
    rw [h.1, ancEq_spec h.2]
  | [], _ :: _, h => by cases h
  | _ :: _, [], h => by cases h

/-- One plan, at every region of its number. -/
noncomputable def planOk1 (P : Program) (f : Nat) (e : Nat × Nat × List (List Nat)) : Bool :=
  match P.funcs[f]? with
  | some fn => match fn.body with
    | some c => (draws c).all fun r => !(Nat.beq r.1 e.1) || (headB r.2 e.2.1 && ancEq e.2.2 (ancs r.2.toList e.2.1))
    | none => true
  | none => true

noncomputable def planOkF (P : Program) (e : Nat × List (Nat × Nat × List (List Nat))) : Bool := e.2.all (planOk1 P e.1)

theorem planIn_mem : ∀ {l : List (Nat × Nat × List (List Nat))} {id : Nat} {r : Nat × List (List Nat)}, planIn l id = some r → (id, r) ∈ l
  | [], id, r, h => by cases h
  | (i, q) :: l, id, r, h => by
    unfold planIn at h
    cases hb : Nat.beq i id with
    | true =>
      rw [hb] at h
      simp only [cond_true, Option.some.injEq] at h
      subst h
      rw [Nat.eq_of_beq_eq_true hb]
      exact List.mem_cons_self ..
    | false => rw [hb] at h; exact List.mem_cons_of_mem _ (planIn_mem h)

theorem planBy_mem : ∀ {l : List (Nat × List (Nat × Nat × List (List Nat)))} {f id : Nat} {r : Nat × List (List Nat)}, planBy l f id = some r → ∃ q, (f, q) ∈ l ∧ (id, r) ∈ q
  | [], f, id, r, h => by cases h
  | (g, q) :: l, f, id, r, h => by
    unfold planBy at h
    cases hb : Nat.beq g f with
    | true =>
      rw [hb] at h
      simp only [cond_true] at h
      exact ⟨q, by rw [← Nat.eq_of_beq_eq_true hb]; exact List.mem_cons_self .., planIn_mem h⟩
    | false =>
      rw [hb] at h
      obtain ⟨q', h1, h2⟩ := planBy_mem (l := l) h
      exact ⟨q', List.mem_cons_of_mem _ h1, h2⟩

theorem plan_ok {P : Program} {l : List (Nat × List (Nat × Nat × List (List Nat)))} (h : l.all (planOkF P) = true) : ∀ (f id n : Nat) anc, planBy l f id = some (n, anc) → ∀ (fn : Func) (c : Code) (ops : Array Oper), P.funcs[f]? = some fn → fn.body = some c → (id, ops) ∈ draws c → headB ops n = true ∧ anc = ancs ops.toList n := by
  intro f id n anc hp fn c ops hf hb hm
  obtain ⟨q, h1, h2⟩ := planBy_mem hp
  have h3 := List.all_eq_true.1 h _ h1
  have h4 := List.all_eq_true.1 h3 _ h2
  unfold planOk1 at h4
  simp only [hf, hb] at h4
  have h5 := List.all_eq_true.1 h4 _ hm
  simp only [Nat.beq_refl, Bool.not_true, Bool.false_or, Bool.and_eq_true] at h5
  exact ⟨h5.1, ancEq_spec h5.2⟩

theorem names_ok {P : Program} (h : P.funcs.toList.all (fun fn => !(fn.name == "runtime.NumGoroutine")) = true) : ∀ (f : FuncId) (fn : Func), P.funcs[f]? = some fn → (fn.name == "runtime.NumGoroutine") = false := by
  intro f fn hf
  have hm : fn ∈ P.funcs.toList := by
    rw [Array.mem_toList_iff]
    exact Array.mem_of_getElem? hf
  have := List.all_eq_true.1 h fn hm
  simpa using this

theorem eqs_ok {P : Program} : ∀ {l : List TypeId}, (∀ t ∈ l, isAggT P t = some true ∧ P.stoodInHeld t = false ∧ P.eqGuardType P.depth t = false ∧ (P.fieldsOf t).toList.all (fun f => !(f.name == "_")) = true) → EqsOk P l := by
  intro l h t ht
  obtain ⟨x, hx, hb⟩ := List.any_eq_true.1 ht
  rw [← Nat.eq_of_beq_eq_true hb] at hx
  obtain ⟨h1, h2, h3, h4⟩ := h t hx
  refine ⟨h1, h2, h3, fun f hf => ?_⟩
  have := List.all_eq_true.1 h4 f hf
  simpa using this

theorem esc_ok {P : Program} {g : FuncId} {fn : Func} (hf : P.funcs[g]? = some fn) (hname : (fn.name == "runtime.NumGoroutine") = false) (hb : fn.body.isNone = true) (hn : Extern.findNext fn = none) (he : Extern.find fn = some Extern.AbiNoEscape.same) :
    ∀ x w, (callFunc g #[x]).run P w = .ok (.value x) w := by
  intro x w
  rw [run_callFunc_extern hf hname hb hn he]
  rw [Lib.run_noEscape]
  rfl

/-- Nothing is known of memory. -/
def Ren.none : Ren := ⟨fun _ _ => Option.none, fun _ => (0, 0)⟩

theorem Rel.empty (w : World) : Rel Ren.none ⟨[], 0⟩ w where
  objs := fun id o h => by
    have h : (Option.none : Option O) = some o := h
    cases h
  inj := fun id j id' j' o o' b h => by
    have h : (Option.none : Option O) = some o := h
    cases h
  dom := fun id j b h => by
    have h : (Option.none : Option Nat) = some b := h
    cases h

end Go.X
