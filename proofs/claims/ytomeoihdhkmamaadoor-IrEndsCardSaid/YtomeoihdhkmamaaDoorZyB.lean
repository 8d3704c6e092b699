/- The environment of chapter 16 is right. -/
import Derived.Test.YtomeoihdhkmamaaDoorZxP
import Derived.Test.YtomeoihdhkmamaaDoorZyA
import Derived.WalkKit
namespace Go.Proofs.YtomeoihdhkmamaaDoor
open Go.X
set_option maxRecDepth 100000

theorem idle37 (p q : Value) (w : World) : CallsD Tryd.prog 37 #[p, q] .returning w fun e u' w' => (∃ v, e = .returned v) ∧ u' = .returning ∧ w' = w := by
  refine callsD_of_wpS Tryd.func37 rfl fun c₀ cs hu => ?_
  apply wpS_seq
  apply wpS_region
  simp [wpOpsS, go_sem, recoverD, hu, Tryd.ntmps37, Exit.thenS]
  apply wpS_seq
  apply wpS_region
  simp [wpOpsS, go_sem, Exit.thenS]
  refine wpS_cond (t := false) (by simp [Act.eval, Array.replicate]) ?_
  simp only [Bool.false_eq_true, if_false]
  refine wpS_of_wp (wp_skip ?_)
  cases c₀
  simp_all [bodyPostS, results, Tryd.results37]

theorem esc94 : ∀ x w, (callFunc 94 #[x]).run Tryd.prog w = .ok (.value x) w :=
  esc_ok Tryd.func94 (by kernel_rfl) (by kernel_rfl) (by kernel_rfl) (by kernel_rfl)

theorem plans_ok : plans.all (planOkF Tryd.prog) = true := by kernel_rfl
theorem mixed : Tryd.prog.follows .mixedOrders = true := by kernel_rfl
theorem names : Tryd.prog.funcs.toList.all (fun fn => !(fn.name == "runtime.NumGoroutine")) = true := by kernel_rfl
theorem eqs38 : EqsOk Tryd.prog [38] := eqs_ok fun t ht => by
  simp only [List.mem_singleton] at ht
  subst ht
  exact ⟨by kernel_rfl, by kernel_rfl, by kernel_rfl, by kernel_rfl⟩

theorem E1_ok : EnvOk Tryd.prog E1 where
  eqs := eqs38
  ext := fun f g h => by cases h
  sum := fun f id g h => by cases h
  idle := fun g k h xs hx w => by
    simp only [E1] at h
    cases hb : Nat.beq g 37 with
    | false => rw [hb] at h; cases h
    | true =>
      rw [hb] at h
      simp only [cond_true, Option.some.injEq] at h
      subst h
      have := Nat.eq_of_beq_eq_true hb
      subst this
      obtain ⟨p, q, rfl⟩ : ∃ p q, xs = [p, q] := by
        match xs, hx with
        | [p, q], _ => exact ⟨p, q, rfl⟩
      exact idle37 p q w
  esc := fun g h => by
    have := Nat.eq_of_beq_eq_true h
    subst this
    exact esc94
  plan := plan_ok plans_ok
  mixed := mixed
  names := names_ok names

/-- THE EXAMPLES ARE SO. -/
theorem examples_true (w : World) : Calls Tryd.prog 8 #[] w fun e w' => e = .returned (.bool true) ∧ Go.RowKit.Below w.heap.size w w' := by
  refine (call_ok E1_ok 300 8 [] ⟨[], 0⟩ (.bool true) none [] _ w (by rw [examples_tree]; exact .yes rfl (.ret _)) (Rel.empty w) .nil).mono ?_
  rintro e w' ⟨x, rfl, hx, hb⟩
  cases hx
  exact ⟨rfl, hb⟩
end Go.Proofs.YtomeoihdhkmamaaDoor
