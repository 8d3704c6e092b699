/- Weakening is right; views of memory. -/
import Derived.Test.YtomeoihdhkmamaaDoorZxV
import Derived.Test.YtomeoihdhkmamaaDoorZxP
set_option linter.unusedVariables false
set_option linter.unusedSimpArgs false
namespace Go.X
open Go.RowKit (Below)

theorem capZ_spec {c : Cap} (h : capZ c = true) : ∀ k, c = .known k → k = 0 := by
  rintro k rfl
  exact Nat.eq_of_beq_eq_true h

mutual
theorem R.weak {ρ : Ren} : ∀ {v : V} {x : Value}, R ρ v x → ∀ p : V, R ρ (weak p v) x
  | _, _, .unk x, p => by cases p <;> exact .unk _
  | _, _, .bool b, p => by cases p <;> first | exact .unk _ | exact .bool b | exact .sbool b
  | _, _, .sbool b, p => by cases p <;> first | exact .unk _ | exact .sbool b
  | _, _, .int k n, p => by cases p <;> first | exact .unk _ | exact .int k n | exact .sint k n
  | _, _, .sint k n, p => by cases p <;> first | exact .unk _ | exact .sint k n
  | _, _, .str s sy, p => by cases p <;> first | exact .unk _ | exact .str s _
  | _, _, .ptr a b h, p => by cases p <;> first | exact .unk _ | exact .ptr a b h | exact R.sptr false a b (fun _ => h)
  | _, _, .nil, p => by
    cases p with
    | sptr c a => exact R.sptr true a 0 (fun q => by cases q)
    | _ => first | exact .unk _ | exact .nil
  | _, _, .sptr c a b h, p => by cases p <;> first | exact .unk _ | exact .sptr c a b h
  | _, _, .slice a n c' c sy b h hc he, p => by cases p <;> first | exact .unk _ | exact .slice a n c' c _ b h hc he
  | _, _, .empty a x c sy hx he, p => by
    cases p with
    | slice a' n' c' sy' => exact .empty a x c _ (fun q => by rw [hx q, Bool.or_true]) he
    | _ => first | exact .unk _ | exact .empty a x c sy hx he
  | _, _, .nilSlice, p => by
    cases p with
    | slice a n c sy =>
      show R ρ (bif sy && capZ c then .slice a 0 c true else .nilSlice) _
      cases hb : sy && capZ c with
      | false => exact .nilSlice
      | true =>
        rw [Bool.and_eq_true] at hb
        exact .empty a none c true (fun _ => rfl) (capZ_spec hb.2)
    | _ => first | exact .unk _ | exact .nilSlice
  | _, _, .map r b h, p => by cases p <;> first | exact .unk _ | exact .map r b h
  | _, _, .nilMap, p => by cases p <;> first | exact .unk _ | exact .nilMap
  | _, _, .func fn f c f' c' h1 h2, p => by
    cases p with
    | func fn' ps qs => exact .func fn _ _ f' c' (RL.weak h1 ps) (RL.weak h2 qs)
    | _ => first | exact .unk _ | exact .func fn f c f' c' h1 h2
  | _, _, .nilFunc, p => by cases p <;> first | exact .unk _ | exact .nilFunc
  | _, _, .iface t v x h, p => by
    cases p with
    | iface t' q => exact .iface t _ x (R.weak h q)
    | _ => first | exact .unk _ | exact .iface t v x h
  | _, _, .nilIface, p => by cases p <;> first | exact .unk _ | exact .nilIface
  | _, _, .agg cs xs h, p => by
    cases p with
    | agg ps => exact .agg _ xs (C.weak h ps)
    | _ => first | exact .unk _ | exact .agg cs xs h
  | _, _, .tuple vs xs h, p => by
    cases p with
    | tuple ps => exact .tuple _ xs (RL.weak h ps)
    | _ => first | exact .unk _ | exact .tuple vs xs h
  | _, _, .held x, p => by cases p <;> first | exact .unk _ | exact .held x
theorem RL.weak {ρ : Ren} : ∀ {vs : List V} {xs : List Value}, RL ρ vs xs → ∀ ps : List V, RL ρ (weakL ps vs) xs
  | _, _, .nil, ps => by rw [weakL_nil]; exact .nil
  | _, _, .cons v x vs xs h t, [] => .cons v x vs xs h t
  | _, _, .cons v x vs xs h t, p :: ps => .cons _ x _ xs (R.weak h p) (RL.weak t ps)
theorem C.weak {ρ : Ren} : ∀ {vs : List V} {xs : List Value}, C ρ vs xs → ∀ ps : List V, C ρ (weakL ps vs) xs
  | _, _, .nil, ps => by rw [weakL_nil]; exact .nil
  | _, _, .one v x vs xs h h1 t, [] => .one v x vs xs h h1 t
  | _, _, .one v x vs xs h h1 t, p :: ps => .one _ x _ xs (R.weak h p) h1 (C.weak t ps)
  | _, _, .unks n us vs xs hn h1 t, [] => .unks n us vs xs hn h1 t
  | _, _, .unks n us vs xs hn h1 t, p :: ps => by
    show C ρ (Go.X.weak p (.unks n) :: weakL ps vs) _
    rw [weak_unks]
    exact .unks n us _ xs hn h1 (C.weak t ps)
  | _, _, .arr n s f g vs xs h hl t, [] => .arr n s f g vs xs h hl t
  | _, _, .arr n s f g vs xs h hl t, p :: ps => by
    cases p with
    | arr n' s' f' => exact .arr n s (fun k => weakL (f' k) (f k)) g _ xs (fun k hk => C.weak (h k hk) (f' k)) hl (C.weak t ps)
    | _ => exact .arr n s f g _ xs h hl (C.weak t ps)
end

/-! ### Objects -/

def upO (s : Nat → Nat) : O → O
  | .cells wr e sp vs => .cells wr e sp (upL s vs)
  | .fam e n f => .fam e n (fun k => upL s (f k))
  | .dead => .dead

def upOs (s : Nat → Nat) : List O → List O
  | [] => []
  | o :: os => upO s o :: upOs s os

/-- An object told with no more than a pattern asks. -/
def weakO : O → O → O
  | .cells wr' e' sp' ps, o => match o with
    | .cells wr e sp vs => .cells (wr' && wr) (bif wr' && wr then e else e') (sp' || sp) (weakL ps vs)
    | o => o
  | .fam e' n' g, o => match o with
    | .fam e n f => .fam e n (fun k => weakL (g k) (f k))
    | o => o
  | .dead, _ => .dead

def weakOs : List O → List O → List O
  | [], _ => []
  | p :: ps, os => match os with
    | [] => []
    | o :: os => weakO p o :: weakOs ps os

theorem ORel.weak {ρ : Ren} {w : World} {id : Nat} {o : O} (p : O) (h : ORel ρ w id o) : ORel ρ w id (weakO p o) := by
  cases p with
  | dead => trivial
  | cells wr' e' sp' ps =>
    cases o with
    | cells wr e sp vs =>
      rcases h with ⟨h1, h2⟩ | ⟨b, pre, xs, tl, e2, fz, h1, hpre, h2, h3, h4, h5⟩
      · exact .inl ⟨h1, h2.weak ps⟩
      · refine .inr ⟨b, pre, xs, tl, e2, fz, h1, hpre, h2.weak ps, h3, fun q => ?_, fun q => ?_⟩
        · cases sp with
          | false => exact h4 rfl
          | true => rw [Bool.or_true] at q; cases q
        · rw [q]
          rw [Bool.and_eq_true] at q
          exact h5 q.2
    | fam _ _ _ => exact h
    | dead => trivial
  | fam e' n' g =>
    cases o with
    | fam e n f =>
      intro k hk
      obtain ⟨b, xs, h1, hk0, h2, h3⟩ := h k hk
      exact ⟨b, xs, h1, hk0, h2.weak (g k), h3⟩
    | cells _ _ _ _ => exact h
    | dead => trivial

theorem ORel.up {s : Nat → Nat} {ρ ρ' : Ren} {w : World} {id : Nat} {o : O} (hs : Maps s ρ ρ') (hn : ∀ j, ρ id j = none → ρ' (s id) j = none) (h : ORel ρ w id o) : ORel ρ' w (s id) (upO s o) := by
  cases o with
  | dead => trivial
  | cells wr e sp vs =>
    rcases h with ⟨h1, h2⟩ | ⟨b, pre, xs, tl, e2, fz, h1, hpre, h2, h3, h4, h5⟩
    · exact .inl ⟨hn 0 h1, h2.up hs⟩
    · exact .inr ⟨b, pre, xs, tl, e2, fz, (hs _ _ _ h1).1, by rw [(hs _ _ _ h1).2]; exact hpre, h2.up hs, h3, h4, fun q => ⟨(h5 q).1, (h5 q).2.1, (h5 q).2.2.trans (hs _ _ _ h1).2.symm⟩⟩
  | fam e n f =>
    intro k hk
    obtain ⟨b, xs, h1, hk0, h2, h3⟩ := h k hk
    exact ⟨b, xs, (hs _ _ _ h1).1, by rw [(hs _ _ _ h1).2]; exact hk0, h2.up hs, h3⟩

def refsO (P : A → Prop) : O → Prop
  | .cells _ _ _ vs => refsL P vs
  | .fam _ n f => ∀ k, k < n → refsL P (f k)
  | .dead => True

theorem ORel.down {s : Nat → Nat} {P : A → Prop} {ρ ρs : Ren} {w : World} {id : Nat} {o : O} (hs : Known s P ρ ρs) (hid : ∀ j, o.has j → ρs id j = ρ (s id) j ∧ ρs.k id = ρ.k (s id)) (hp : refsO P o) (h : ORel ρ w (s id) (upO s o)) : ORel ρs w id o := by
  cases o with
  | dead => trivial
  | cells wr e sp vs =>
    obtain ⟨g1, g2⟩ := hid 0 rfl
    rcases h with ⟨h1, h2⟩ | ⟨b, pre, xs, tl, e2, fz, h1, hpre, h2, h3, h4, h5⟩
    · exact .inl ⟨g1.trans h1, C.down hs vs hp h2⟩
    · exact .inr ⟨b, pre, xs, tl, e2, fz, g1.trans h1, by rw [g2]; exact hpre, C.down hs vs hp h2, h3, h4, fun q => ⟨(h5 q).1, (h5 q).2.1, (h5 q).2.2.trans g2.symm⟩⟩
  | fam e n f =>
    intro k hk
    obtain ⟨b, xs, h1, hk0, h2, h3⟩ := h k hk
    exact ⟨b, xs, (hid k hk).1.trans h1, by rw [(hid k hk).2]; exact hk0, C.down hs (f k) (hp k hk) h2, h3⟩

/-- Object i of the small memory is object l[i]; what it has besides comes behind the n. -/
noncomputable def upId (l : List Nat) (n N i : Nat) : Nat :=
  match objL l i with
  | some k => k
  | none => N + (i - n)

noncomputable def picks (objs : List O) (l : List Nat) : List O := List.rec (motive := fun _ => List O) [] (fun i _ ih => (match objL objs i with | some o => o | none => .dead) :: ih) l
theorem picks_cons (objs : List O) (i : Nat) (l : List Nat) : picks objs (i :: l) = (match objL objs i with | some o => o | none => .dead) :: picks objs l := rfl

end Go.X
