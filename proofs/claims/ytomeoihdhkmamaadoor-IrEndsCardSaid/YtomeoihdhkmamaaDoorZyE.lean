/- The environment with examples and Defines given. -/
import Derived.Test.YtomeoihdhkmamaaDoorZyD
namespace Go.Proofs.YtomeoihdhkmamaaDoor
open Go.X
noncomputable def gEx : List V → Mem → T (V × Option Mem)
  | [], _ => .ret (.bool true, none)
  | _, _ => .fail
theorem examples_ok : CallOk1 Tryd.prog 8 gEx := by
  intro args m v om xs ρ w h hr hxs
  unfold gEx at h
  split at h
  · have h := h.ret_inv
    simp only [Prod.mk.injEq] at h
    obtain ⟨rfl, rfl⟩ := h
    cases hxs
    refine (examples_true w).mono ?_
    rintro e w' ⟨rfl, hb⟩
    exact ⟨_, rfl, .bool true, hb⟩
  · exact h.fail_inv.elim
noncomputable def ext2 (f : FuncId) : Option (List V → Mem → T (V × Option Mem)) := bif Nat.beq f 8 then some gEx else bif Nat.beq f 27 then some gDef else none
noncomputable def E2 : Env := { E1 with ext := ext2 }
theorem E2_ok : EnvOk Tryd.prog E2 := { E1_ok with
  ext := fun f g h => by
    have h : ext2 f = some g := h
    unfold ext2 at h
    cases h1 : Nat.beq f 8 with
    | true =>
      rw [h1] at h
      simp only [cond_true, Option.some.injEq] at h
      subst h
      rw [Nat.eq_of_beq_eq_true h1]
      exact examples_ok
    | false =>
      rw [h1] at h
      cases h2 : Nat.beq f 27 with
      | true =>
        rw [h2] at h
        simp only [cond_true, cond_false, Option.some.injEq] at h
        subst h
        rw [Nat.eq_of_beq_eq_true h2]
        exact defines_ok
      | false => rw [h2] at h; cases h }
end Go.Proofs.YtomeoihdhkmamaaDoor
