/- Environments that know more. -/
import Derived.Test.YtomeoihdhkmamaaDoorZxM
set_option linter.unusedVariables false
set_option linter.unusedSimpArgs false
namespace Go.X

theorem within_of_mem {body : Code} : ∀ {c : Code}, body ∈ loops c → Within body c := by
  intro c
  induction c with
  | seq a b iha ihb =>
    intro h
    simp only [loops, List.mem_append] at h
    rcases h with h | h
    · exact ⟨fun l hl => by simp only [loops, List.mem_append]; exact .inl ((iha h).1 l hl), fun d hd => by simp only [draws, List.mem_append]; exact .inl ((iha h).2 d hd)⟩
    · exact ⟨fun l hl => by simp only [loops, List.mem_append]; exact .inr ((ihb h).1 l hl), fun d hd => by simp only [draws, List.mem_append]; exact .inr ((ihb h).2 d hd)⟩
  | cond x a b iha ihb =>
    intro h
    simp only [loops, List.mem_append] at h
    rcases h with h | h
    · exact ⟨fun l hl => by simp only [loops, List.mem_append]; exact .inl ((iha h).1 l hl), fun d hd => by simp only [draws, List.mem_append]; exact .inl ((iha h).2 d hd)⟩
    · exact ⟨fun l hl => by simp only [loops, List.mem_append]; exact .inr ((ihb h).1 l hl), fun d hd => by simp only [draws, List.mem_append]; exact .inr ((ihb h).2 d hd)⟩
  | block id c ih => intro h; exact ih h
  | loop c ih =>
    intro h
    simp only [loops, List.mem_cons] at h
    rcases h with rfl | h
    · exact ⟨fun l hl => by simp only [loops, List.mem_cons]; exact .inr hl, fun d hd => hd⟩
    · exact ⟨fun l hl => by simp only [loops, List.mem_cons]; exact .inr ((ih h).1 l hl), fun d hd => (ih h).2 d hd⟩
  | scope c ih => intro h; exact ih h
  | _ => intro h; cases h

noncomputable def Env.addExt (E : Env) (f : FuncId) (g : List V → Mem → T (V × Option Mem)) : Env := { E with ext := fun k => bif Nat.beq k f then some g else E.ext k }
noncomputable def Env.addSum (E : Env) (f id : Nat) (g : St → T (Ex × St)) : Env := { E with sum := fun k i => bif Nat.beq k f && Nat.beq i id then some g else E.sum k i }

theorem EnvOk.addExt {P : Program} {E : Env} (hE : EnvOk P E) {f : FuncId} {g : List V → Mem → T (V × Option Mem)} (h : CallOk1 P f g) : EnvOk P (E.addExt f g) := { hE with
  ext := fun k g' hk => by
    have hk : (bif Nat.beq k f then some g else E.ext k) = some g' := hk
    cases hb : Nat.beq k f with
    | true =>
      rw [hb] at hk
      simp only [cond_true, Option.some.injEq] at hk
      subst hk
      rw [Nat.eq_of_beq_eq_true hb]
      exact h
    | false => rw [hb] at hk; exact hE.ext k g' hk }

def bodyIs (c0 body : Code) (id : Nat) : Prop := ((loops c0).filter fun b => Nat.beq (firstRegion b) id) = [body]

theorem bodyIs.mk {c0 body : Code} {id : Nat} (h : ((loops c0).filter fun b => Nat.beq (firstRegion b) id) = [body]) : bodyIs c0 body id := h

theorem bodyIs.mem {c0 body : Code} {id : Nat} (h : bodyIs c0 body id) : body ∈ loops c0 := by
  have : body ∈ (loops c0).filter fun b => Nat.beq (firstRegion b) id := by rw [h]; exact List.mem_cons_self ..
  exact (List.mem_filter.1 this).1

theorem EnvOk.addSum {P : Program} {E : Env} (hE : EnvOk P E) {f id : Nat} {g : St → T (Ex × St)} {fn : Func} {c0 body : Code} (hf : P.funcs[f]? = some fn) (hb : fn.body = some c0) (hi : bodyIs c0 body id) (h : CodeOk P g (.loop body)) : EnvOk P (E.addSum f id g) := { hE with
  sum := fun k i g' hk fn' c b hf' hb' hm hr => by
    have hk : (bif Nat.beq k f && Nat.beq i id then some g else E.sum k i) = some g' := hk
    cases hq : Nat.beq k f && Nat.beq i id with
    | true =>
      rw [hq] at hk
      simp only [cond_true, Option.some.injEq] at hk
      subst hk
      rw [Bool.and_eq_true] at hq
      have h1 := Nat.eq_of_beq_eq_true hq.1
      have h2 := Nat.eq_of_beq_eq_true hq.2
      subst h1 h2
      rw [hf] at hf'
      cases hf'
      rw [hb] at hb'
      cases hb'
      have : b ∈ (loops c0).filter fun b => Nat.beq (firstRegion b) i := List.mem_filter.2 ⟨hm, by rw [hr]; exact Nat.beq_refl i⟩
      rw [hi] at this
      rw [List.mem_singleton.1 this]
      exact h
    | false => rw [hq] at hk; exact hE.sum k i g' hk fn' c b hf' hb' hm hr }

/-- A loop by its first region. -/
def loopAt (c : Option Code) (id : Nat) : Code :=
  match c with
  | some c => match (loops c).filter fun b => Nat.beq (firstRegion b) id with
    | [b] => b
    | _ => .skip
  | none => .skip

/-! ### One way through a tree -/

def T.cond {α : Type} : T α → Option Bool
  | .ite c _ _ => some c
  | _ => none
def T.dem {α : Type} : T α → Option Prop
  | .need p _ => some p
  | _ => none
def T.isFit {α : Type} : T α → Bool
  | .fit .. => true
  | _ => false

theorem Leads.goL {α : Type} {t : T α} {a : α} (c : Bool) (h : t.cond = some c) (hc : c = true) (l : Leads t.L a) : Leads t a := by
  cases t with
  | ite c' x y => cases h; exact .yes hc l
  | _ => cases h
theorem Leads.goR {α : Type} {t : T α} {a : α} (c : Bool) (h : t.cond = some c) (hc : c = false) (l : Leads t.R a) : Leads t a := by
  cases t with
  | ite c' x y => cases h; exact .no hc l
  | _ => cases h
theorem Leads.goN {α : Type} {t : T α} {a : α} (p : Prop) (h : t.dem = some p) (hp : p) (l : Leads t.L a) : Leads t a := by
  cases t with
  | need c' x => cases h; exact .need hp l
  | _ => cases h
theorem Leads.goF {α : Type} {t : T α} {a : α} (h : t.isFit = true) (hp : t.fitL = t.fitR) (l : Leads t.L a) : Leads t a := by
  cases t with
  | fit vs us os qs x =>
    have h3 : (vs, os) = (us, qs) := hp
    simp only [Prod.mk.injEq] at h3
    exact .fit h3.1 h3.2 l
  | _ => cases h
theorem Leads.goE {α : Type} {t : T α} {a : α} (h : t.out = some a) : Leads t a := by
  cases t with
  | ret b => cases h; exact Leads.ret a
  | _ => cases h

theorem KL.mk {n : Nat} {fg : List Nat} {h : Nat → Value} {e : Ex} {st : St} {o : Option (Ex × St)} (l : List Nat) (hl : o.map (chkL n fg h l st) = o.map (wantL fg h l e st)) : KL n fg h e st o := ⟨l, hl⟩
theorem KC.mk {n : Nat} {r : V × Option Mem} {o : Option (V × Option Mem)} (l : List Nat) (hl : o.map (chkC n l r) = o.map (wantC l r)) (h : r.2 = none → refs (fun a => a.id < n) r.1) : KC n r o := ⟨l, hl, h⟩

theorem KC.bool {n : Nat} {o : Option (V × Option Mem)} {B : Bool} (v : Bool) (h : o = some (.bool v, none)) (hv : B = v) : KC n (.sbool B, none) o := by
  subst h hv
  exact ⟨[], rfl, fun _ => trivial⟩

/-- A round along one way. -/
theorem round_at {P : Program} {E : Env} {k : Nat} {f : FuncId} {body : Code} {n : Nat} {fg : List Nat} {h : Nat → Value} {e : Ex} {st0 st : St} {r : Ex × St}
    (hl : Leads (exec P E k f body st0) r) (hk : KL n fg h e st (some r)) : ∃ st1, Leads (exec P E k f body st0) (e, st1) ∧ seenL n fg h st1 st := by
  obtain ⟨e1, st1⟩ := r
  obtain ⟨h3, h4⟩ := hk.spec
  have h3 : e1 = e := h3
  subst h3
  exact ⟨st1, hl, h4⟩

end Go.X
