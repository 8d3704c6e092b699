/- Contracts of chapter 16: operations as arguments. -/
import Derived.Test.YtomeoihdhkmamaaDoorZyC
set_option linter.unusedVariables false
namespace Go.Proofs.YtomeoihdhkmamaaDoor
open Go.X

structure Op6 where
  (k r a b o i : Int)

def Op6.cells (x : Op6) : List V := [.sint .i64 x.k, .sint .i64 x.r, .sint .i64 x.a, .sint .i64 x.b, .sint .i64 x.o, .sint .u64 x.i]

def int64? (v : V) : Option Int := match isInt v with
  | some (.i64, n, _) => some n
  | _ => none
def uint64? (v : V) : Option Int := match isInt v with
  | some (.u64, n, _) => some n
  | _ => none

/-- Cells as an operation. -/
def op6? : List V → Option Op6
  | [k, r, a, b, o, i] => match int64? k, int64? r, int64? a, int64? b, int64? o, uint64? i with
    | some k, some r, some a, some b, some o, some i => some ⟨k, r, a, b, o, i⟩
    | _, _, _, _, _, _ => none
  | _ => none

theorem int64?_spec {ρ : Ren} {v : V} {x : Value} {n : Int} (h : int64? v = some n) (hr : R ρ v x) : x = .int .i64 n := by
  unfold int64? at h
  split at h
  · rename_i m s hm
    cases h
    exact isInt_spec hm hr
  · cases h

theorem uint64?_spec {ρ : Ren} {v : V} {x : Value} {n : Int} (h : uint64? v = some n) (hr : R ρ v x) : x = .int .u64 n := by
  unfold uint64? at h
  split at h
  · rename_i m s hm
    cases h
    exact isInt_spec hm hr
  · cases h

theorem isInt_not {v : V} {r : IntKind × Int × Bool} (h : isInt v = some r) : (∀ n, v ≠ .unks n) ∧ ∀ n s f, v ≠ .arr n s f := by
  constructor
  · rintro n rfl; cases h
  · rintro n s f rfl; cases h

theorem C.cons_inv {ρ : Ren} {v : V} {vs : List V} {xs : List Value} {r : IntKind × Int × Bool} (hv : isInt v = some r) (h : C ρ (v :: vs) xs) : ∃ x ys, xs = x :: ys ∧ R ρ v x ∧ x.oneCell' = true ∧ C ρ vs ys := by
  cases h with
  | one v x vs xs h h1 t => exact ⟨x, xs, rfl, h, h1, t⟩
  | unks n us vs xs hn h1 t => cases hv
  | arr n s f g vs xs hh hl t => cases hv

theorem int64?_is {v : V} {n : Int} (h : int64? v = some n) : ∃ r, isInt v = some r := by
  unfold int64? at h
  split at h
  · rename_i m s hm; exact ⟨_, hm⟩
  · cases h
theorem uint64?_is {v : V} {n : Int} (h : uint64? v = some n) : ∃ r, isInt v = some r := by
  unfold uint64? at h
  split at h
  · rename_i m s hm; exact ⟨_, hm⟩
  · cases h

theorem op6?_spec {ρ : Ren} {cs : List V} {xs : List Value} {o : Op6} (h : op6? cs = some o) (hc : C ρ cs xs) : C ρ o.cells xs := by
  unfold op6? at h
  split at h
  · rename_i k r a b oo i
    split at h
    · rename_i k' r' a' b' o' i' h1 h2 h3 h4 h5 h6
      cases h
      obtain ⟨_, q1⟩ := int64?_is h1
      obtain ⟨_, q2⟩ := int64?_is h2
      obtain ⟨_, q3⟩ := int64?_is h3
      obtain ⟨_, q4⟩ := int64?_is h4
      obtain ⟨_, q5⟩ := int64?_is h5
      obtain ⟨_, q6⟩ := uint64?_is h6
      obtain ⟨x1, y1, rfl, r1, e1, hc⟩ := C.cons_inv q1 hc
      obtain ⟨x2, y2, rfl, r2, e2, hc⟩ := C.cons_inv q2 hc
      obtain ⟨x3, y3, rfl, r3, e3, hc⟩ := C.cons_inv q3 hc
      obtain ⟨x4, y4, rfl, r4, e4, hc⟩ := C.cons_inv q4 hc
      obtain ⟨x5, y5, rfl, r5, e5, hc⟩ := C.cons_inv q5 hc
      obtain ⟨x6, y6, rfl, r6, e6, hc⟩ := C.cons_inv q6 hc
      cases hc
      rw [int64?_spec h1 r1] at e1 ⊢
      rw [int64?_spec h2 r2] at e2 ⊢
      rw [int64?_spec h3 r3] at e3 ⊢
      rw [int64?_spec h4 r4] at e4 ⊢
      rw [int64?_spec h5 r5] at e5 ⊢
      rw [uint64?_spec h6 r6] at e6 ⊢
      exact .one _ _ _ _ (.sint ..) e1 (.one _ _ _ _ (.sint ..) e2 (.one _ _ _ _ (.sint ..) e3 (.one _ _ _ _ (.sint ..) e4 (.one _ _ _ _ (.sint ..) e5 (.one _ _ _ _ (.sint ..) e6 .nil)))))
    · cases h
  · cases h

noncomputable def gDef : List V → Mem → T (V × Option Mem)
  | [.agg cs], _ => match op6? cs with
    | some o => .ret (.sbool (defB o.k), none)
    | none => .fail
  | _, _ => .fail

theorem defines_ok : CallOk1 Tryd.prog 27 gDef := by
  intro args m v om xs ρ w h hr hxs
  unfold gDef at h
  split at h
  · rename_i cs
    split at h
    · rename_i o ho
      have h := h.ret_inv
      simp only [Prod.mk.injEq] at h
      obtain ⟨rfl, rfl⟩ := h
      cases hxs with
      | cons v x vs ys hx t =>
        cases t
        cases hx with
        | agg cs zs hc =>
          have hc := op6?_spec ho hc
          have hr0 : Rel ρ ⟨[], 0⟩ w → True := fun _ => trivial
          refine (call_ok E1_ok 200 27 [.agg o.cells] ⟨[], 0⟩ _ none [.agg zs.toArray] Ren.none w (defines_leads o.k o.r o.a o.b o.o o.i) (Rel.empty w) (.cons _ _ _ _ (.agg _ _ ?_) .nil)).mono ?_
          · have : ∀ {ρ' : Ren} {zs : List Value}, C ρ o.cells zs → C ρ' o.cells zs := by
              intro ρ' zs hc
              unfold Op6.cells at hc ⊢
              obtain ⟨x1, y1, rfl, r1, e1, hc⟩ := C.cons_inv rfl hc
              obtain ⟨x2, y2, rfl, r2, e2, hc⟩ := C.cons_inv rfl hc
              obtain ⟨x3, y3, rfl, r3, e3, hc⟩ := C.cons_inv rfl hc
              obtain ⟨x4, y4, rfl, r4, e4, hc⟩ := C.cons_inv rfl hc
              obtain ⟨x5, y5, rfl, r5, e5, hc⟩ := C.cons_inv rfl hc
              obtain ⟨x6, y6, rfl, r6, e6, hc⟩ := C.cons_inv rfl hc
              cases hc; cases r1; cases r2; cases r3; cases r4; cases r5; cases r6
              exact .one _ _ _ _ (.sint ..) e1 (.one _ _ _ _ (.sint ..) e2 (.one _ _ _ _ (.sint ..) e3 (.one _ _ _ _ (.sint ..) e4 (.one _ _ _ _ (.sint ..) e5 (.one _ _ _ _ (.sint ..) e6 .nil)))))
            exact this hc
          · rintro e w' ⟨x, rfl, hx, hb⟩
            cases hx
            exact ⟨_, rfl, .sbool _, hb⟩
    · exact h.fail_inv.elim
  · exact h.fail_inv.elim
end Go.Proofs.YtomeoihdhkmamaaDoor
