/- Loops whose rounds leave alone what was there. -/
import Derived.Test.YtomeoihdhkmamaaDoorZxP
set_option linter.unusedVariables false
set_option linter.unusedSimpArgs false
namespace Go.X
open Go.RowKit (Below)

/-- What may be kept where only the objects below N stand. -/
def keepV (N : Nat) (v : V) : V := bif ok3 N v && !(arr3 v) then v else .unk

noncomputable def shrink (N : Nat) (fg : List Nat) (i : Nat) (tm : List V) : List V :=
  List.rec (motive := fun _ => Nat → List V) (fun _ => []) (fun v _ ih i => (bif inL fg i then .unk else keepV N v) :: ih (i + 1)) tm i

theorem shrink_nil (N : Nat) (fg : List Nat) (i : Nat) : shrink N fg i [] = [] := rfl
theorem shrink_cons (N : Nat) (fg : List Nat) (i : Nat) (v : V) (tm : List V) : shrink N fg i (v :: tm) = (bif inL fg i then .unk else keepV N v) :: shrink N fg (i + 1) tm := rfl

theorem getL_shrink (N : Nat) (fg : List Nat) : ∀ (tm : List V) (i k : Nat), getL (shrink N fg i tm) k = .unk ∨ getL (shrink N fg i tm) k = keepV N (getL tm k)
  | [], i, k => .inl rfl
  | v :: tm, i, 0 => by
    rw [shrink_cons, getL_zero, getL_zero]
    cases inL fg i with
    | true => exact .inl rfl
    | false => exact .inr rfl
  | v :: tm, i, k + 1 => by
    rw [shrink_cons, getL_succ, getL_succ]
    exact getL_shrink N fg tm (i + 1) k

theorem shrink_length (N : Nat) (fg : List Nat) : ∀ (tm : List V) (i : Nat), (shrink N fg i tm).length = tm.length
  | [], i => rfl
  | v :: tm, i => by rw [shrink_cons, List.length_cons, List.length_cons, shrink_length N fg tm (i + 1)]

/-- One round: what is left of it. -/
noncomputable def round1 (P : Program) (E : Env) (n : Nat) (f : FuncId) (body : Code) (fg : List Nat) (objs : List O) (tm : List V) : T (Ex × List V) :=
  (exec P E n f body { tm := tm, mem := { objs := objs, low := objs.length } }).bind fun r =>
    bif Nat.ble objs.length r.2.mem.low then .ret (r.1, shrink objs.length fg 0 r.2.tm) else .fail

section
variable {P : Program} {E : Env}

theorem round1_ok (hE : EnvOk P E) {n : Nat} {f : FuncId} {fn : Func} {c0 body : Code} (hf : P.funcs[f]? = some fn) (hb : fn.body = some c0) (hw : Within body c0) {fg : List Nat} {m : Mem} {tm tm' : List V} {e : Ex}
    (h : Leads (round1 P E n f body fg m.objs tm) (e, tm')) {ρ : Ren} {a : Act} {w : World} (hr : Rel ρ m w) (htr : TR ρ tm a.tmps) {Q : Exit → Act → World → Prop}
    (hQ : ∀ a' w', Below w.heap.size w w' → TR ρ tm' a'.tmps → Idles P a a' → Q e.real a' w') : body.wp P Q a w := by
  obtain ⟨⟨e1, st1⟩, h1, h2⟩ := h.bind_inv
  cases hlo : Nat.ble m.objs.length st1.mem.low with
  | false => rw [hlo] at h2; exact h2.fail_inv.elim
  | true =>
    rw [hlo] at h2
    simp only [cond_true] at h2
    have h2 := h2.ret_inv
    simp only [Prod.mk.injEq] at h2
    obtain ⟨rfl, rfl⟩ := h2
    have hr0 : Rel ρ { objs := m.objs, low := m.objs.length } w := ⟨hr.objs, hr.inj, hr.dom⟩
    refine exec_ok hE n hf hb body hw _ e st1 ρ a w Q h1 hr0 htr fun ρ1 a1 w1 t1 htr1 hd1 => ?_
    have hlo := ble_le hlo
    have hbel : Below w.heap.size w w1 := t1.keeps.below (fun id j b hj => Nat.lt_of_lt_of_le (hr.dom id j b hj).1 hlo)
    have hN : ∀ id j b, id < m.objs.length → ρ1 id j = some b → ρ id j = some b ∧ ρ1.k id = ρ.k id := by
      intro id j b hlt hj
      rcases t1.ext.new id j b hj with h | ⟨h, _⟩
      · exact ⟨h, (t1.ext.sub _ _ _ h).2⟩
      · simp only at h; omega
    refine hQ a1 w1 hbel ⟨by rw [shrink_length]; exact htr1.len, fun k => ?_⟩ hd1
    rcases getL_shrink m.objs.length fg st1.tm 0 k with hk | hk <;> rw [hk]
    · exact .unk _
    · unfold keepV
      cases hq : (ok3 m.objs.length (getL st1.tm k) && !(arr3 (getL st1.tm k))) with
      | false => exact .unk _
      | true =>
        simp only [cond_true]
        simp only [Bool.and_eq_true, Bool.not_eq_true'] at hq
        exact ok3_spec hN hq.1 (fun q => by rw [hq.2] at q; cases q) (htr1.at_ k)

/-- A loop of rounds that leave alone what was there: n of them go on, the last one does not. -/
theorem loop_rounds (hE : EnvOk P E) {k : Nat} {f : FuncId} {fn : Func} {c0 body : Code} (hf : P.funcs[f]? = some fn) (hb : fn.body = some c0) (hw : Within body c0) {fg : List Nat} {m : Mem} (S : Nat → List V) (n : Nat) {e : Ex} {tmE : List V}
    (hgo : ∀ i, i < n → Leads (round1 P E k f body fg m.objs (S i)) (.normal, S (i + 1))) (hend : Leads (round1 P E k f body fg m.objs (S n)) (e, tmE)) (he : e ≠ .normal)
    {ρ : Ren} {a : Act} {w : World} (hr : Rel ρ m w) (htr : TR ρ (S 0) a.tmps) {Q : Exit → Act → World → Prop} (hQ : ∀ a' w', Below w.heap.size w w' → TR ρ tmE a'.tmps → Idles P a a' → Q e.real a' w') : (Code.loop body).wp P Q a w := by
  refine wp_loop_rounds (n + 1) ?_
  have key : ∀ (d i : Nat) (a1 : Act) (w1 : World), i + d = n → Below w.heap.size w w1 → Idles P a a1 → Rel ρ m w1 → TR ρ (S i) a1.tmps → Code.rounds P body Q (d + 1) a1 w1 := by
    intro d
    induction d with
    | zero =>
      intro i a1 w1 hi hbw hid hr1 htr1
      obtain rfl : i = n := by omega
      rw [rounds_succ]
      refine round1_ok hE hf hb hw hend hr1 htr1 fun a2 w2 hb2 htr2 hd2 => ?_
      have := hQ a2 w2 (hbw.trans (hb2.mono hbw.size)) htr2 (hid.trans hd2)
      cases e with
      | normal => exact (he rfl).elim
      | exit id => exact this
      | ret => exact this
    | succ d ih =>
      intro i a1 w1 hi hbw hid hr1 htr1
      rw [rounds_succ]
      refine round1_ok hE hf hb hw (hgo i (by omega)) hr1 htr1 fun a2 w2 hb2 htr2 hd2 => ?_
      exact ih (i + 1) a2 w2 (by omega) (hbw.trans (hb2.mono hbw.size)) (hid.trans hd2) (hr1.below hb2) htr2
  exact key n 0 a w (by omega) (.refl _ _) (.refl a) hr htr
end

/-- Case by case. -/
noncomputable def splitK {α : Type} (g : Int → T α) (d : T α) (k : Int) (cs : List Int) : T α :=
  List.rec (motive := fun _ => T α) d (fun c _ ih => .ite (decide (k = c)) (g c) ih) cs

theorem splitK_inv {α : Type} {g : Int → T α} {d : T α} {k : Int} {r : α} : ∀ {cs : List Int}, Leads (splitK g d k cs) r → (k ∈ cs ∧ Leads (g k) r) ∨ (k ∉ cs ∧ Leads d r)
  | [], h => .inr ⟨by simp, h⟩
  | c :: cs, h => by
    have h : Leads (.ite (decide (k = c)) (g c) (splitK g d k cs)) r := h
    rcases h.ite_inv with ⟨hc, h1⟩ | ⟨hc, h1⟩
    · have := of_decide_eq_true hc
      subst this
      exact .inl ⟨List.mem_cons_self .., h1⟩
    · have := of_decide_eq_false hc
      rcases splitK_inv h1 with ⟨h2, h3⟩ | ⟨h2, h3⟩
      · exact .inl ⟨List.mem_cons_of_mem _ h2, h3⟩
      · exact .inr ⟨by simp [this, h2], h3⟩

end Go.X
