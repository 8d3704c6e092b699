/- Contracts of chapter 16's small functions. -/
import Derived.Test.YtomeoihdhkmamaaDoorZxQ
import Derived.Test.YtomeoihdhkmamaaDoorZyB
namespace Go.Proofs.YtomeoihdhkmamaaDoor
open Go.X
set_option maxRecDepth 100000

def defB (k : Int) : Bool := decide (k = 1) || decide (k = 2) || decide (k = 4) || decide (k = 6) || decide (k = 8) || decide (k = 9) || decide (k = 11) || decide (k = 12)

theorem defines_tree (k r a b o i : Int) : call Tryd.prog E1 200 27 [.agg [.sint .i64 k, .sint .i64 r, .sint .i64 a, .sint .i64 b, .sint .i64 o, .sint .u64 i]] ⟨[], 0⟩ =
  (T.ite (k == 1) (T.ret (V.bool true, none)) (T.ite (k == 2) (T.ret (V.bool true, none)) (T.ite (k == 3) (T.ret (V.bool false, none)) (T.ite (k == 4) (T.ret (V.bool true, none)) (T.ite (k == 5) (T.ret (V.bool false, none)) (T.ite (k == 6) (T.ret (V.bool true, none)) (T.ite (k == 7) (T.ret (V.bool false, none)) (T.ite (k == 8) (T.ret (V.bool true, none)) (T.ite (k == 9) (T.ret (V.bool true, none)) (T.ite (k == 10) (T.ret (V.bool false, none)) (T.ite (k == 11) (T.ret (V.bool true, none)) (T.ite (k == 12) (T.ret (V.bool true, none)) (T.ite (k == 13) (T.ret (V.bool false, none)) (T.ite (k == 14) (T.ret (V.bool false, none)) (T.ite (k == 15) (T.ret (V.bool false, none)) (T.ite (k == 16) (T.ret (V.bool false, none)) (T.ite (k == 17) (T.ret (V.bool false, none)) (T.ite (k == 18) (T.ret (V.bool false, none)) (T.ret (V.bool false, none)))))))))))))))))))) := by kernel_rfl

theorem defines_leads (k r a b o i : Int) : Leads (call Tryd.prog E1 200 27 [.agg [.sint .i64 k, .sint .i64 r, .sint .i64 a, .sint .i64 b, .sint .i64 o, .sint .u64 i]] ⟨[], 0⟩) (.bool (defB k), none) := by
  rw [defines_tree]
  obtain ⟨x, h1, h2⟩ := T.Holds.leads (K := fun x => x = (V.bool (defB k), (none : Option Mem))) (t := (T.ite (k == 1) (T.ret (V.bool true, none)) (T.ite (k == 2) (T.ret (V.bool true, none)) (T.ite (k == 3) (T.ret (V.bool false, none)) (T.ite (k == 4) (T.ret (V.bool true, none)) (T.ite (k == 5) (T.ret (V.bool false, none)) (T.ite (k == 6) (T.ret (V.bool true, none)) (T.ite (k == 7) (T.ret (V.bool false, none)) (T.ite (k == 8) (T.ret (V.bool true, none)) (T.ite (k == 9) (T.ret (V.bool true, none)) (T.ite (k == 10) (T.ret (V.bool false, none)) (T.ite (k == 11) (T.ret (V.bool true, none)) (T.ite (k == 12) (T.ret (V.bool true, none)) (T.ite (k == 13) (T.ret (V.bool false, none)) (T.ite (k == 14) (T.ret (V.bool false, none)) (T.ite (k == 15) (T.ret (V.bool false, none)) (T.ite (k == 16) (T.ret (V.bool false, none)) (T.ite (k == 17) (T.ret (V.bool false, none)) (T.ite (k == 18) (T.ret (V.bool false, none)) (T.ret (V.bool false, none))))))))))))))))))))) (by
    simp only [T.Holds, beq_iff_eq, beq_eq_false_iff_ne, defB]
    repeat' constructor
    all_goals (intros; simp_all))
  rw [h2] at h1
  exact h1
end Go.Proofs.YtomeoihdhkmamaaDoor
