/- Abstract values, memory and outcomes of the symbolic evaluator: definitions. -/
import Derived.Laws.AppendOwn
import Derived.Deep.Quiet
import Derived.Below
set_option linter.unusedVariables false
set_option linter.unusedSimpArgs false
namespace Go.X

/-- A place: object, member of a family, offset, an index that is not a literal with its stride (0: none). -/
structure A where
  id : Nat
  j : Nat
  o : Nat
  i : Nat
  s : Nat

/-- A slice's capacity: so many elements; all that is left of its block, by elements of so many cells. -/
inductive Cap where
  | known (n : Nat)
  | rest (e : Nat)

/-- Values. 's..': not known to be a literal. 'unks n': n cells of which nothing is known. 'arr n s f': n elements of s cells, inside the cells of something. 'held x': the very value x. -/
inductive V where
  | unk
  | unks (n : Nat)
  | bool (b : Bool)
  | sbool (b : Bool)
  | int (k : IntKind) (n : Int)
  | sint (k : IntKind) (n : Int)
  | str (s : ByteArray) (sy : Bool)
  | ptr (a : A)
  | nil
  | sptr (isNil : Bool) (a : A)
  | slice (a : A) (len : Nat) (cap : Cap) (sy : Bool)
  | nilSlice
  | map (r : A)
  | nilMap
  | func (fn : Fn) (first captured : List V)
  | nilFunc
  | iface (t : TypeId) (v : V)
  | nilIface
  | agg (cs : List V)
  | tuple (vs : List V)
  | arr (n s : Nat) (f : Nat → List V)
  | held (x : Value)

/-- Objects. -/
inductive O where
  | cells (wr : Bool) (elem : TypeId) (spare : Bool) (vs : List V)
  | fam (elem : TypeId) (n : Nat) (f : Nat → List V)
  | dead

/-- An outcome with open questions: a branch on a truth value that is not known, a demand; values and objects that must be the same. -/
inductive T (α : Type) where
  | ret (a : α)
  | fail
  | ite (c : Bool) (t e : T α)
  | need (p : Prop) (t : T α)
  | fit (vs us : List V) (os qs : List O) (t : T α)

noncomputable def T.bind {α β : Type} (t : T α) (f : α → T β) : T β :=
  T.rec (motive := fun _ => T β) (fun a => f a) .fail (fun c _ _ t e => .ite c t e) (fun p _ t => .need p t) (fun vs us os qs _ t => .fit vs us os qs t) t

/-- What an outcome comes to. -/
inductive Leads {α : Type} : T α → α → Prop where
  | ret (a : α) : Leads (.ret a) a
  | yes {c : Bool} {t e : T α} {a : α} (h : c = true) (l : Leads t a) : Leads (.ite c t e) a
  | no {c : Bool} {t e : T α} {a : α} (h : c = false) (l : Leads e a) : Leads (.ite c t e) a
  | need {p : Prop} {t : T α} {a : α} (h : p) (l : Leads t a) : Leads (.need p t) a
  | fit {vs us : List V} {os qs : List O} {t : T α} {a : α} (h1 : vs = us) (h2 : os = qs) (l : Leads t a) : Leads (.fit vs us os qs t) a

/-- All that is asked holds, and whatever comes out meets K. -/
def T.Holds {α : Type} : T α → (α → Prop) → Prop
  | .ret a, K => K a
  | .fail, _ => False
  | .ite c t e, K => (c = true → t.Holds K) ∧ (c = false → e.Holds K)
  | .need p t, K => p ∧ t.Holds K
  | .fit vs us os qs t, K => vs = us ∧ os = qs ∧ t.Holds K

theorem T.Holds.leads {α : Type} {K : α → Prop} : ∀ {t : T α}, t.Holds K → ∃ a, Leads t a ∧ K a
  | .ret a, h => ⟨a, .ret a, h⟩
  | .fail, h => h.elim
  | .ite true t e, h => let ⟨a, l, k⟩ := T.Holds.leads (h.1 rfl); ⟨a, .yes rfl l, k⟩
  | .ite false t e, h => let ⟨a, l, k⟩ := T.Holds.leads (h.2 rfl); ⟨a, .no rfl l, k⟩
  | .need p t, h => let ⟨a, l, k⟩ := T.Holds.leads h.2; ⟨a, .need h.1 l, k⟩
  | .fit vs us os qs t, h => let ⟨a, l, k⟩ := T.Holds.leads h.2.2; ⟨a, .fit h.1 h.2.1 l, k⟩

theorem Leads.bind_inv {α β : Type} {f : α → T β} {b : β} : ∀ {t : T α}, Leads (t.bind f) b → ∃ a, Leads t a ∧ Leads (f a) b
  | .ret a, h => ⟨a, .ret a, h⟩
  | .fail, h => by cases h
  | .ite c t e, h => by
    cases h with
    | yes hc l => obtain ⟨a, h1, h2⟩ := Leads.bind_inv l; exact ⟨a, .yes hc h1, h2⟩
    | no hc l => obtain ⟨a, h1, h2⟩ := Leads.bind_inv l; exact ⟨a, .no hc h1, h2⟩
  | .need p t, h => by
    cases h with
    | need hp l => obtain ⟨a, h1, h2⟩ := Leads.bind_inv l; exact ⟨a, .need hp h1, h2⟩
  | .fit vs us os qs t, h => by
    cases h with
    | fit hp hq l => obtain ⟨a, h1, h2⟩ := Leads.bind_inv l; exact ⟨a, .fit hp hq h1, h2⟩

theorem Leads.bind {α β : Type} {f : α → T β} {t : T α} {a : α} {b : β} (h : Leads t a) (h' : Leads (f a) b) : Leads (t.bind f) b := by
  induction h with
  | ret a => exact h'
  | yes hc _ ih => exact .yes hc (ih h')
  | no hc _ ih => exact .no hc (ih h')
  | need hp _ ih => exact .need hp (ih h')
  | fit hp hq _ ih => exact .fit hp hq (ih h')

theorem Leads.ret_inv {α : Type} {a b : α} (h : Leads (.ret a) b) : b = a := by cases h; rfl
theorem Leads.fail_inv {α : Type} {b : α} (h : Leads (.fail : T α) b) : False := by cases h
theorem Leads.ite_inv {α : Type} {c : Bool} {t e : T α} {b : α} (h : Leads (.ite c t e) b) : (c = true ∧ Leads t b) ∨ (c = false ∧ Leads e b) := by
  cases h with
  | yes hc l => exact .inl ⟨hc, l⟩
  | no hc l => exact .inr ⟨hc, l⟩
theorem Leads.need_inv {α : Type} {p : Prop} {t : T α} {b : α} (h : Leads (.need p t) b) : p ∧ Leads t b := by
  cases h with
  | need hp l => exact ⟨hp, l⟩

theorem Leads.fit_inv {α : Type} {vs us : List V} {os qs : List O} {t : T α} {b : α} (h : Leads (.fit vs us os qs t) b) : (vs = us ∧ os = qs) ∧ Leads t b := by
  cases h with
  | fit hp hq l => exact ⟨⟨hp, hq⟩, l⟩

theorem Leads.unique {α : Type} {t : T α} {a b : α} (h : Leads t a) (h' : Leads t b) : a = b := by
  induction h with
  | ret a => exact h'.ret_inv.symm
  | yes hc _ ih =>
    rcases h'.ite_inv with ⟨_, l⟩ | ⟨h0, _⟩
    · exact ih l
    · rw [hc] at h0; cases h0
  | no hc _ ih =>
    rcases h'.ite_inv with ⟨h0, _⟩ | ⟨_, l⟩
    · rw [hc] at h0; cases h0
    · exact ih l
  | need hp _ ih => exact ih h'.need_inv.2
  | fit hp hq _ ih => exact ih h'.fit_inv.2

/-- A tree without its leaves. -/
inductive Sk where
  | ret
  | fail
  | ite (c : Bool) (a b : Sk)
  | need (p : Prop) (a : Sk)
  | fit (a : Sk)

noncomputable def T.sk {α : Type} (t : T α) : Sk :=
  T.rec (motive := fun _ => Sk) (fun _ => .ret) .fail (fun c _ _ a b => .ite c a b) (fun p _ a => .need p a) (fun _ _ _ _ _ a => .fit a) t

/-- The first branch, the second one. -/
def T.L {α : Type} : T α → T α
  | .ite _ t _ => t
  | .need _ t => t
  | .fit _ _ _ _ t => t
  | t => t
def T.R {α : Type} : T α → T α
  | .ite _ _ e => e
  | t => t
def T.out {α : Type} : T α → Option α
  | .ret a => some a
  | _ => none
def T.fitL {α : Type} : T α → List V × List O
  | .fit vs _ os _ _ => (vs, os)
  | _ => ([], [])
def T.fitR {α : Type} : T α → List V × List O
  | .fit _ us _ qs _ => (us, qs)
  | _ => ([], [])

def Sk.Holds {α : Type} (K : Option α → Prop) : Sk → T α → Prop
  | .ret, t => K t.out
  | .fail, _ => False
  | .ite c a b, t => (c = true → a.Holds K t.L) ∧ (c = false → b.Holds K t.R)
  | .need p a, t => p ∧ a.Holds K t.L
  | .fit a, t => t.fitL = t.fitR ∧ a.Holds K t.L

theorem T.of_sk {α : Type} {K : Option α → Prop} : ∀ {t : T α} {s : Sk}, t.sk = s → s.Holds K t → ∃ a, Leads t a ∧ K (some a)
  | .ret a, s, h, hh => by subst h; exact ⟨a, .ret a, hh⟩
  | .fail, s, h, hh => by subst h; exact hh.elim
  | .ite true t e, s, h, hh => by
    subst h
    obtain ⟨a, h1, h2⟩ := T.of_sk (t := t) rfl (hh.1 rfl)
    exact ⟨a, .yes rfl h1, h2⟩
  | .ite false t e, s, h, hh => by
    subst h
    obtain ⟨a, h1, h2⟩ := T.of_sk (t := e) rfl (hh.2 rfl)
    exact ⟨a, .no rfl h1, h2⟩
  | .need p t, s, h, hh => by
    subst h
    obtain ⟨a, h1, h2⟩ := T.of_sk (t := t) rfl hh.2
    exact ⟨a, .need hh.1 h1, h2⟩
  | .fit vs us os qs t, s, h, hh => by
    subst h
    obtain ⟨a, h1, h2⟩ := T.of_sk (t := t) rfl hh.2
    have h3 : (vs, os) = (us, qs) := hh.1
    simp only [Prod.mk.injEq] at h3
    exact ⟨a, .fit h3.1 h3.2 h1, h2⟩

/-- An outcome that may lack. -/
def opt {α : Type} : Option α → T α
  | some a => .ret a
  | none => .fail

theorem Leads.opt_inv {α : Type} {o : Option α} {b : α} (h : Leads (opt o) b) : o = some b := by
  cases o with
  | some a => rw [h.ret_inv]
  | none => exact h.fail_inv.elim

/-- Where objects lie; how many cells each one's block has, and behind how many it begins. -/
structure Ren where
  b : Nat → Nat → Option Nat
  k : Nat → Nat × Nat

instance : CoeFun Ren (fun _ => Nat → Nat → Option Nat) := ⟨Ren.b⟩

/-- The capacity of a slice at an offset of an object's block. -/
def CapIs (ρ : Ren) (id off : Nat) : Cap → Nat → Prop
  | .known n, c => c = n
  | .rest e, c => off + c * e = (ρ.k id).1

mutual
/-- A value stands for a value of the machine. -/
inductive R (ρ : Ren) : V → Value → Prop where
  | unk (x : Value) : R ρ .unk x
  | bool (b : Bool) : R ρ (.bool b) (.bool b)
  | sbool (b : Bool) : R ρ (.sbool b) (.bool b)
  | int (k : IntKind) (n : Int) : R ρ (.int k n) (.int k n)
  | sint (k : IntKind) (n : Int) : R ρ (.sint k n) (.int k n)
  | str (s : ByteArray) (sy : Bool) : R ρ (.str s sy) (.string s)
  | ptr (a : A) (b : Nat) (h : ρ a.id a.j = some b) : R ρ (.ptr a) (.pointer (some ⟨b, (ρ.k a.id).2 + (a.o + a.i * a.s), none⟩))
  | nil : R ρ .nil (.pointer none)
  | sptr (c : Bool) (a : A) (b : Nat) (h : c = false → ρ a.id a.j = some b) : R ρ (.sptr c a) (.pointer (if c then none else some ⟨b, (ρ.k a.id).2 + (a.o + a.i * a.s), none⟩))
  | slice (a : A) (n c' : Nat) (c : Cap) (sy : Bool) (b : Nat) (h : ρ a.id a.j = some b) (hc : n ≤ c') (he : CapIs ρ a.id (a.o + a.i * a.s) c c') :
      R ρ (.slice a n c sy) (.slice (some ⟨b, (ρ.k a.id).2 + (a.o + a.i * a.s), none⟩) n c')
  | empty (a : A) (x : Option Addr) (c : Cap) (sy : Bool) (hx : x = none → sy = true) (he : ∀ k, c = .known k → k = 0) : R ρ (.slice a 0 c sy) (.slice x 0 0)
  | nilSlice : R ρ .nilSlice (.slice none 0 0)
  | map (r : A) (b : Nat) (h : ρ r.id r.j = some b) : R ρ (.map r) (.map (some b))
  | nilMap : R ρ .nilMap (.map none)
  | func (fn : Fn) (first captured : List V) (first' captured' : List Value) (h1 : RL ρ first first') (h2 : RL ρ captured captured') :
      R ρ (.func fn first captured) (.func fn first'.toArray captured'.toArray)
  | nilFunc : R ρ .nilFunc .nilFunc
  | iface (t : TypeId) (v : V) (x : Value) (h : R ρ v x) : R ρ (.iface t v) (.iface t x)
  | nilIface : R ρ .nilIface .nilIface
  | agg (cs : List V) (xs : List Value) (h : C ρ cs xs) : R ρ (.agg cs) (.agg xs.toArray)
  | tuple (vs : List V) (xs : List Value) (h : RL ρ vs xs) : R ρ (.tuple vs) (.tuple xs.toArray)
  | held (x : Value) : R ρ (.held x) x
/-- Values, one by one. -/
inductive RL (ρ : Ren) : List V → List Value → Prop where
  | nil : RL ρ [] []
  | cons (v : V) (x : Value) (vs : List V) (xs : List Value) (h : R ρ v x) (t : RL ρ vs xs) : RL ρ (v :: vs) (x :: xs)
/-- Cells. -/
inductive C (ρ : Ren) : List V → List Value → Prop where
  | nil : C ρ [] []
  | one (v : V) (x : Value) (vs : List V) (xs : List Value) (h : R ρ v x) (h1 : x.oneCell' = true) (t : C ρ vs xs) : C ρ (v :: vs) (x :: xs)
  | unks (n : Nat) (us : List Value) (vs : List V) (xs : List Value) (hn : us.length = n) (h1 : ∀ u ∈ us, u.oneCell' = true) (t : C ρ vs xs) : C ρ (.unks n :: vs) (us ++ xs)
  | arr (n s : Nat) (f : Nat → List V) (g : Nat → List Value) (vs : List V) (xs : List Value) (h : ∀ k, k < n → C ρ (f k) (g k)) (hl : ∀ k, k < n → (g k).length = s)
      (t : C ρ vs xs) : C ρ (.arr n s f :: vs) ((List.range n).flatMap g ++ xs)
end

end Go.X
