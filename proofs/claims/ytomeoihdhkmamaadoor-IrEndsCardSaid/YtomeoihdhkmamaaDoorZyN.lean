/- A round of Next: what it does, kind by kind. -/
import Derived.Test.YtomeoihdhkmamaaDoorZyM
import Derived.IntWalk
set_option linter.unusedVariables false
set_option linter.unusedSimpArgs false
namespace Go.Proofs.YtomeoihdhkmamaaDoor
open Go.X
set_option maxRecDepth 100000

/-- What a run leans on in an operation. -/
structure OpOk (n : Nat) (o : Op6) : Prop where
  a0 : 0 ≤ o.a
  a1 : o.a < n
  b0 : 0 ≤ o.b
  b1 : o.b < n
  k0 : 1 ≤ o.k
  k1 : o.k ≤ 18
  r2 : o.k = 2 ∨ o.k = 3 → 0 ≤ o.r ∧ o.r ≤ 30
  r6 : o.k = 6 ∨ o.k = 7 → 0 ≤ o.r ∧ o.r ≤ 3
  r8 : o.k = 8 → 1 ≤ o.r ∧ o.r ≤ 15

structure RnOk (x : Rn) : Prop where
  n1 : x.n ≤ 512
  op : ∀ i, i < x.n → OpOk x.n (x.ops i)
  ends : ∀ i, i < x.n → endsB (x.ops i).k = decide (i + 1 = x.n)
  e0 : 0 ≤ x.el
  e1 : x.el ≤ 1
  t0 : 0 ≤ x.at_
  t1 : x.at_ ≤ x.n
  t2 : x.left = false → x.at_ < x.n

theorem RnOk.at1 {x : Rn} (h : RnOk x) : x.at1 = x.at_ + 1 := by
  have h1 := h.n1; have h2 := h.t0; have h3 := h.t1
  exact IntWalk.i64_in _ (by omega)
theorem RnOk.ki {x : Rn} (h : RnOk x) : x.ki = x.at_ := by
  have h1 := h.n1; have h2 := h.t0; have h3 := h.t1
  unfold Rn.ki
  rw [h.at1, Int.add_sub_cancel]
  exact IntWalk.i64_in _ (by omega)

theorem nx_leads (x : Rn) (h : Nat → Value) (ho : RnOk x) (hl : x.left = false) : (nxSk x x.o x.ki x.ki.toNat).Holds (nxTo h (stepRn x)) (nxRound x h) := by
  have hat := ho.t2 hl
  have hop : OpOk x.n x.o := ho.op x.at_.toNat (by have := ho.t0; omega)
  have hki := ho.ki
  have t0 := ho.t0
  have h1 := hop.a0; have h2 := hop.a1; have h3 := hop.b0; have h4 := hop.b1
  have e0 := ho.e0; have e1 := ho.e1
  have hk0 := hop.k0; have hk1 := hop.k1
  have hkk : x.o.k = 1 ∨ x.o.k = 2 ∨ x.o.k = 3 ∨ x.o.k = 4 ∨ x.o.k = 5 ∨ x.o.k = 6 ∨ x.o.k = 7 ∨ x.o.k = 8 ∨ x.o.k = 9 ∨ x.o.k = 10 ∨ x.o.k = 11 ∨ x.o.k = 12 ∨ x.o.k = 13 ∨ x.o.k = 14 ∨ x.o.k = 15 ∨ x.o.k = 16 ∨ x.o.k = 17 ∨ x.o.k = 18 := by omega
  have r2 := hop.r2; have r6 := hop.r6; have r8 := hop.r8
  have hkn : x.ki.toNat < x.n := by rw [hki]; omega
  unfold nxSk
  rcases hkk with hk | hk | hk | hk | hk | hk | hk | hk | hk | hk | hk | hk | hk | hk | hk | hk | hk | hk
  all_goals
    rw [show stepRn x = _ from congrArg (fun k => stepK k x) hk]
    simp only [Sk.Holds, hk, hl, Int.reduceBEq, Bool.false_eq_true, Bool.not_false, Bool.true_eq_false, true_implies, false_implies, and_true, true_and]
    refine ⟨⟨t0, hat⟩, by omega, ⟨by omega, by omega⟩, ⟨h1, h2⟩, by omega, ⟨h3, h4⟩, by omega, ?_⟩
  · exact ⟨hkn, KL.mk [0, 1, 2] (by kernel_rfl)⟩
  · have := r2 (.inl hk)
    exact ⟨⟨this.1, by omega⟩, by omega, hkn, KL.mk [0, 1, 2] (by kernel_rfl)⟩
  · have := r2 (.inr hk)
    exact ⟨⟨this.1, by omega⟩, by omega, KL.mk [0, 1, 2] (by kernel_rfl)⟩
  · exact ⟨⟨e0, by omega⟩, by omega, hkn, KL.mk [0, 1, 2] (by kernel_rfl)⟩
  · exact ⟨⟨e0, by omega⟩, by omega, KL.mk [0, 1, 2] (by kernel_rfl)⟩
  · have := r6 (.inl hk)
    refine ⟨⟨this.1, by omega⟩, fun q => ?_, fun q => ⟨fun q => ?_, fun q => ⟨fun q => ?_, fun q => ⟨fun q => ?_, fun q => ?_⟩⟩⟩⟩
    all_goals try have hr := of_decide_eq_true q
    all_goals try (rw [show stepK 6 x = (.off, x.getF (x.c.flag x.o.r)) from rfl, hr])
    · refine ⟨fun q => ⟨hkn, ?_⟩, fun q => ?_⟩
      all_goals
        rw [show x.getF (x.c.flag ((0 : Nat) : Int)) = x.getF x.c.n from rfl, q]
        exact KL.mk [0, 1, 2] (by kernel_rfl)
    · refine ⟨fun q => ⟨hkn, ?_⟩, fun q => ?_⟩
      all_goals
        rw [show x.getF (x.c.flag (((0 : Nat) + (1 : Nat) : Nat) : Int)) = x.getF x.c.z from rfl, q]
        exact KL.mk [0, 1, 2] (by kernel_rfl)
    · refine ⟨fun q => ⟨hkn, ?_⟩, fun q => ?_⟩
      all_goals
        rw [show x.getF (x.c.flag (((0 : Nat) + (1 : Nat) + (1 : Nat) : Nat) : Int)) = x.getF x.c.c from rfl, q]
        exact KL.mk [0, 1, 2] (by kernel_rfl)
    · refine ⟨fun q => ⟨hkn, ?_⟩, fun q => ?_⟩
      all_goals
        rw [show x.getF (x.c.flag (((0 : Nat) + (1 : Nat) + (1 : Nat) + (1 : Nat) : Nat) : Int)) = x.getF x.c.v from rfl, q]
        exact KL.mk [0, 1, 2] (by kernel_rfl)
    · simp at *; omega
  · have := r6 (.inr hk)
    refine ⟨⟨this.1, by omega⟩, fun q => ?_, fun q => ⟨fun q => ?_, fun q => ⟨fun q => ?_, fun q => ⟨fun q => ?_, fun q => ?_⟩⟩⟩⟩
    all_goals try have hr := of_decide_eq_true q
    all_goals try (rw [show stepK 7 x = (.off, { x.nx with c := x.c.setF x.o.r (x.a != 0) }) from rfl, hr]; exact KL.mk [0, 1, 2] (by kernel_rfl))
    simp at *; omega
  · exact ⟨by kernel_rfl, r8 hk, hkn, KL.mk [0, 1, 2] (by kernel_rfl)⟩
  · refine ⟨fun q => ?_, fun q => ?_⟩
    all_goals
      rw [show stepK 9 x = x.access 9 (bitsI .and .u64 (x.vals x.o.a.toNat) 7 != 0) from rfl, q]
      exact KL.mk [0, 1, 2] (by kernel_rfl)
  · refine ⟨fun q => ?_, fun q => ?_⟩
    all_goals
      rw [show stepK 10 x = x.access 10 (bitsI .and .u64 (x.vals x.o.a.toNat) 7 != 0) from rfl, q]
      exact KL.mk [0, 1, 2] (by kernel_rfl)
  · refine ⟨fun q => ?_, fun q => ?_⟩
    all_goals
      rw [show stepK 11 x = x.access 11 (bitsI .and .u64 (x.vals x.o.a.toNat) 7 != 0) from rfl, q]
      exact KL.mk [0, 1, 2] (by kernel_rfl)
  · refine ⟨fun q => ?_, fun q => ?_⟩
    all_goals
      rw [show stepK 12 x = x.access 12 (bitsI .and .u64 (x.vals x.o.a.toNat) 7 != 0) from rfl, q]
      exact KL.mk [0, 1, 2] (by kernel_rfl)
  · exact KL.mk [0, 1, 2] (by kernel_rfl)
  · exact KL.mk [0, 1, 2] (by kernel_rfl)
  · refine ⟨fun q => ?_, fun q => ?_⟩
    all_goals
      rw [show stepK 15 x = (.off, x.exitIf (x.vals x.o.a.toNat != 0)) from rfl, q]
      exact KL.mk [0, 1, 2] (by kernel_rfl)
  · exact KL.mk [0, 1, 2] (by kernel_rfl)
  · exact KL.mk [0, 1, 2] (by kernel_rfl)
  · exact KL.mk [0, 1, 2] (by kernel_rfl)
end Go.Proofs.YtomeoihdhkmamaaDoor
