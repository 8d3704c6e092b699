/- rightOp of chapter 16, kind by kind: what it comes to. -/
import Derived.Test.YtomeoihdhkmamaaDoorZxN
import Derived.Test.YtomeoihdhkmamaaDoorZyE
set_option linter.unusedVariables false
set_option linter.unusedSimpArgs false
namespace Go.Proofs.YtomeoihdhkmamaaDoor
open Go.X
set_option maxRecDepth 100000

def rows (ops : Nat → Op6) : Nat → List V := fun i => (ops i).cells

/-- May value v be used? -/
def okUse (n : Nat) (ops : Nat → Op6) (v : Int) : Bool := decide (0 ≤ v) && (decide (v < n) && defB (ops v.toNat).k)

/-- The operation's own fields. -/
def fieldB (k r o i : Int) : Bool :=
  match k with
  | 1 | 15 | 16 => r == 0 && o == 0
  | 2 | 3 => decide (0 ≤ r) && decide (r ≤ 30) && (o == 0 && i == 0)
  | 4 | 5 | 17 => r == 0 && (o == 0 && i == 0)
  | 6 | 7 => decide (0 ≤ r) && decide (r ≤ 3) && (o == 0 && i == 0)
  | 8 => decide (1 ≤ r) && decide (r ≤ 15) && (o == 0 && i == 0)
  | 9 => (o == 0 || o == 1 || o == 2) && (r == 0 && i == 0)
  | 10 | 12 => (o == 0 || o == 4) && (r == 0 && i == 0)
  | 11 => (o == 0 || o == 2) && (r == 0 && i == 0)
  | 13 => (r == 13 || r == 10 || r == 15) && (o == 0 && i == 0)
  | 14 => bitsI .and .u64 i 3 == 0 && (r == 0 && o == 0)
  | 18 => i.fdiv (2 ^ min (Int.toNat 32) IntKind.u64.bits) == 0 && (r == 0 && o == 0)
  | _ => false

/-- How many values it uses. -/
def usesN (k : Int) : Nat :=
  match k with
  | 3 | 5 | 7 | 9 | 11 | 15 | 17 => 1
  | 8 | 10 | 12 => 2
  | _ => 0

def useB (u : Nat) (n : Nat) (ops : Nat → Op6) (a b : Int) : Bool :=
  match u with
  | 0 => a == 0 && b == 0
  | 1 => b == 0 && okUse n ops a
  | _ => okUse n ops a && okUse n ops b

def rightOpB (n : Nat) (ops : Nat → Op6) (x : Op6) : Bool := fieldB x.k x.r x.o x.i && useB (usesN x.k) n ops x.a x.b

theorem fieldB1 (r o i : Int) : fieldB 1 r o i = (r == 0 && o == 0) := rfl
theorem fieldB2 (r o i : Int) : fieldB 2 r o i = (decide (0 ≤ r) && decide (r ≤ 30) && (o == 0 && i == 0)) := rfl
theorem fieldB3 (r o i : Int) : fieldB 3 r o i = (decide (0 ≤ r) && decide (r ≤ 30) && (o == 0 && i == 0)) := rfl
theorem fieldB4 (r o i : Int) : fieldB 4 r o i = (r == 0 && (o == 0 && i == 0)) := rfl
theorem fieldB5 (r o i : Int) : fieldB 5 r o i = (r == 0 && (o == 0 && i == 0)) := rfl
theorem fieldB6 (r o i : Int) : fieldB 6 r o i = (decide (0 ≤ r) && decide (r ≤ 3) && (o == 0 && i == 0)) := rfl
theorem fieldB7 (r o i : Int) : fieldB 7 r o i = (decide (0 ≤ r) && decide (r ≤ 3) && (o == 0 && i == 0)) := rfl
theorem fieldB8 (r o i : Int) : fieldB 8 r o i = (decide (1 ≤ r) && decide (r ≤ 15) && (o == 0 && i == 0)) := rfl
theorem fieldB9 (r o i : Int) : fieldB 9 r o i = ((o == 0 || o == 1 || o == 2) && (r == 0 && i == 0)) := rfl
theorem fieldB10 (r o i : Int) : fieldB 10 r o i = ((o == 0 || o == 4) && (r == 0 && i == 0)) := rfl
theorem fieldB11 (r o i : Int) : fieldB 11 r o i = ((o == 0 || o == 2) && (r == 0 && i == 0)) := rfl
theorem fieldB12 (r o i : Int) : fieldB 12 r o i = ((o == 0 || o == 4) && (r == 0 && i == 0)) := rfl
theorem fieldB13 (r o i : Int) : fieldB 13 r o i = ((r == 13 || r == 10 || r == 15) && (o == 0 && i == 0)) := rfl
theorem fieldB14 (r o i : Int) : fieldB 14 r o i = (bitsI .and .u64 i 3 == 0 && (r == 0 && o == 0)) := rfl
theorem fieldB15 (r o i : Int) : fieldB 15 r o i = (r == 0 && o == 0) := rfl
theorem fieldB16 (r o i : Int) : fieldB 16 r o i = (r == 0 && o == 0) := rfl
theorem fieldB17 (r o i : Int) : fieldB 17 r o i = (r == 0 && (o == 0 && i == 0)) := rfl
theorem fieldB18 (r o i : Int) : fieldB 18 r o i = (i.fdiv (2 ^ min (Int.toNat 32) IntKind.u64.bits) == 0 && (r == 0 && o == 0)) := rfl

theorem right_tree1 (r a b ord imm : Int) (n N : Nat) (c : Cap) (ops : Nat → Op6) : call Tryd.prog E2 200 43 [V.agg [.int .i64 1, .sint .i64 r, .sint .i64 a, .sint .i64 b, .sint .i64 ord, .sint .u64 imm], .slice ⟨0, 0, 0, 0, 0⟩ n c true] ⟨[.cells false 42 true [.arr N 6 (rows ops)]], 1⟩ =
  T.ite (r != (0 : Int)) (T.ret (V.bool false, none))
  (T.ite (ord != (0 : Int)) (T.ret (V.bool false, none))
    (T.ite (a != (0 : Int)) (T.ret (V.bool false, none))
      (T.ite (b != (0 : Int)) (T.ret (V.bool false, none)) (T.ret (V.bool true, none))))) := by kernel_rfl

theorem right_is1 (r a b ord imm : Int) (n N : Nat) (c : Cap) (ops : Nat → Op6) (hn : n ≤ N) : ∃ r1, Leads (call Tryd.prog E2 200 43 [V.agg [.int .i64 1, .sint .i64 r, .sint .i64 a, .sint .i64 b, .sint .i64 ord, .sint .u64 imm], .slice ⟨0, 0, 0, 0, 0⟩ n c true] ⟨[.cells false 42 true [.arr N 6 (rows ops)]], 1⟩) r1 ∧ seenC 1 r1 (.sbool (rightOpB n ops ⟨1, r, a, b, ord, imm⟩), none) := by
  rw [right_tree1]
  apply T.Holds.leads
  rw [show rightOpB n ops ⟨1, r, a, b, ord, imm⟩ = (fieldB 1 r ord imm && useB (usesN 1) n ops a b) from rfl, fieldB1]
  simp only [T.Holds, seenC, weak, V.sbool.injEq, useB, usesN, okUse, Bool.and_eq_true, decide_eq_true_eq, decide_eq_false_iff_not, beq_iff_eq, bne_iff_ne, bne_eq_false_iff_eq, beq_eq_false_iff_ne, Bool.not_eq_true', Bool.not_eq_false']
  repeat' first | (refine And.intro ?_ ?_) | intro _
  all_goals first | omega | (simp_all; done) | (simp_all; intros; omega)

theorem right_tree2 (r a b ord imm : Int) (n N : Nat) (c : Cap) (ops : Nat → Op6) : call Tryd.prog E2 200 43 [V.agg [.int .i64 2, .sint .i64 r, .sint .i64 a, .sint .i64 b, .sint .i64 ord, .sint .u64 imm], .slice ⟨0, 0, 0, 0, 0⟩ n c true] ⟨[.cells false 42 true [.arr N 6 (rows ops)]], 1⟩ =
  T.ite (decide (r ≥ (0 : Int)))
  (T.ite (!decide (r ≤ (30 : Int))) (T.ret (V.bool false, none))
    (T.ite (imm != (0 : Int)) (T.ret (V.bool false, none))
      (T.ite (ord != (0 : Int)) (T.ret (V.bool false, none))
        (T.ite (a != (0 : Int)) (T.ret (V.bool false, none))
          (T.ite (b != (0 : Int)) (T.ret (V.bool false, none)) (T.ret (V.bool true, none)))))))
  (T.ret (V.bool false, none)) := by kernel_rfl

theorem right_is2 (r a b ord imm : Int) (n N : Nat) (c : Cap) (ops : Nat → Op6) (hn : n ≤ N) : ∃ r1, Leads (call Tryd.prog E2 200 43 [V.agg [.int .i64 2, .sint .i64 r, .sint .i64 a, .sint .i64 b, .sint .i64 ord, .sint .u64 imm], .slice ⟨0, 0, 0, 0, 0⟩ n c true] ⟨[.cells false 42 true [.arr N 6 (rows ops)]], 1⟩) r1 ∧ seenC 1 r1 (.sbool (rightOpB n ops ⟨2, r, a, b, ord, imm⟩), none) := by
  rw [right_tree2]
  apply T.Holds.leads
  rw [show rightOpB n ops ⟨2, r, a, b, ord, imm⟩ = (fieldB 2 r ord imm && useB (usesN 2) n ops a b) from rfl, fieldB2]
  simp only [T.Holds, seenC, weak, V.sbool.injEq, useB, usesN, okUse, Bool.and_eq_true, decide_eq_true_eq, decide_eq_false_iff_not, beq_iff_eq, bne_iff_ne, bne_eq_false_iff_eq, beq_eq_false_iff_ne, Bool.not_eq_true', Bool.not_eq_false']
  repeat' first | (refine And.intro ?_ ?_) | intro _
  all_goals first | omega | (simp_all; done) | (simp_all; intros; omega)

theorem right_tree3 (r a b ord imm : Int) (n N : Nat) (c : Cap) (ops : Nat → Op6) : call Tryd.prog E2 200 43 [V.agg [.int .i64 3, .sint .i64 r, .sint .i64 a, .sint .i64 b, .sint .i64 ord, .sint .u64 imm], .slice ⟨0, 0, 0, 0, 0⟩ n c true] ⟨[.cells false 42 true [.arr N 6 (rows ops)]], 1⟩ =
  T.ite (decide (r ≥ (0 : Int)))
  (T.ite (!decide (r ≤ (30 : Int))) (T.ret (V.bool false, none))
    (T.ite (imm != (0 : Int)) (T.ret (V.bool false, none))
      (T.ite (ord != (0 : Int)) (T.ret (V.bool false, none))
        (T.ite (b != (0 : Int)) (T.ret (V.bool false, none))
          (T.ite (decide (a < (0 : Int))) (T.ret (V.bool false, none))
            (T.ite (decide (a ≥ ↑n)) (T.ret (V.bool false, none))
              (T.need ((0 : Int) ≤ a ∧ a < ↑n)
                (T.need (a.toNat < N)
                  (T.ite (!defB (ops a.toNat).k) (T.ret (V.bool false, none)) (T.ret (V.bool true, none)))))))))))
  (T.ret (V.bool false, none)) := by kernel_rfl

theorem right_is3 (r a b ord imm : Int) (n N : Nat) (c : Cap) (ops : Nat → Op6) (hn : n ≤ N) : ∃ r1, Leads (call Tryd.prog E2 200 43 [V.agg [.int .i64 3, .sint .i64 r, .sint .i64 a, .sint .i64 b, .sint .i64 ord, .sint .u64 imm], .slice ⟨0, 0, 0, 0, 0⟩ n c true] ⟨[.cells false 42 true [.arr N 6 (rows ops)]], 1⟩) r1 ∧ seenC 1 r1 (.sbool (rightOpB n ops ⟨3, r, a, b, ord, imm⟩), none) := by
  rw [right_tree3]
  apply T.Holds.leads
  rw [show rightOpB n ops ⟨3, r, a, b, ord, imm⟩ = (fieldB 3 r ord imm && useB (usesN 3) n ops a b) from rfl, fieldB3]
  simp only [T.Holds, seenC, weak, V.sbool.injEq, useB, usesN, okUse, Bool.and_eq_true, decide_eq_true_eq, decide_eq_false_iff_not, beq_iff_eq, bne_iff_ne, bne_eq_false_iff_eq, beq_eq_false_iff_ne, Bool.not_eq_true', Bool.not_eq_false']
  repeat' first | (refine And.intro ?_ ?_) | intro _
  all_goals first | omega | (simp_all; done) | (simp_all; intros; omega)

theorem right_tree4 (r a b ord imm : Int) (n N : Nat) (c : Cap) (ops : Nat → Op6) : call Tryd.prog E2 200 43 [V.agg [.int .i64 4, .sint .i64 r, .sint .i64 a, .sint .i64 b, .sint .i64 ord, .sint .u64 imm], .slice ⟨0, 0, 0, 0, 0⟩ n c true] ⟨[.cells false 42 true [.arr N 6 (rows ops)]], 1⟩ =
  T.ite (r != (0 : Int)) (T.ret (V.bool false, none))
  (T.ite (imm != (0 : Int)) (T.ret (V.bool false, none))
    (T.ite (ord != (0 : Int)) (T.ret (V.bool false, none))
      (T.ite (a != (0 : Int)) (T.ret (V.bool false, none))
        (T.ite (b != (0 : Int)) (T.ret (V.bool false, none)) (T.ret (V.bool true, none)))))) := by kernel_rfl

theorem right_is4 (r a b ord imm : Int) (n N : Nat) (c : Cap) (ops : Nat → Op6) (hn : n ≤ N) : ∃ r1, Leads (call Tryd.prog E2 200 43 [V.agg [.int .i64 4, .sint .i64 r, .sint .i64 a, .sint .i64 b, .sint .i64 ord, .sint .u64 imm], .slice ⟨0, 0, 0, 0, 0⟩ n c true] ⟨[.cells false 42 true [.arr N 6 (rows ops)]], 1⟩) r1 ∧ seenC 1 r1 (.sbool (rightOpB n ops ⟨4, r, a, b, ord, imm⟩), none) := by
  rw [right_tree4]
  apply T.Holds.leads
  rw [show rightOpB n ops ⟨4, r, a, b, ord, imm⟩ = (fieldB 4 r ord imm && useB (usesN 4) n ops a b) from rfl, fieldB4]
  simp only [T.Holds, seenC, weak, V.sbool.injEq, useB, usesN, okUse, Bool.and_eq_true, decide_eq_true_eq, decide_eq_false_iff_not, beq_iff_eq, bne_iff_ne, bne_eq_false_iff_eq, beq_eq_false_iff_ne, Bool.not_eq_true', Bool.not_eq_false']
  repeat' first | (refine And.intro ?_ ?_) | intro _
  all_goals first | omega | (simp_all; done) | (simp_all; intros; omega)

theorem right_tree5 (r a b ord imm : Int) (n N : Nat) (c : Cap) (ops : Nat → Op6) : call Tryd.prog E2 200 43 [V.agg [.int .i64 5, .sint .i64 r, .sint .i64 a, .sint .i64 b, .sint .i64 ord, .sint .u64 imm], .slice ⟨0, 0, 0, 0, 0⟩ n c true] ⟨[.cells false 42 true [.arr N 6 (rows ops)]], 1⟩ =
  T.ite (r != (0 : Int)) (T.ret (V.bool false, none))
  (T.ite (imm != (0 : Int)) (T.ret (V.bool false, none))
    (T.ite (ord != (0 : Int)) (T.ret (V.bool false, none))
      (T.ite (b != (0 : Int)) (T.ret (V.bool false, none))
        (T.ite (decide (a < (0 : Int))) (T.ret (V.bool false, none))
          (T.ite (decide (a ≥ ↑n)) (T.ret (V.bool false, none))
            (T.need ((0 : Int) ≤ a ∧ a < ↑n)
              (T.need (a.toNat < N)
                (T.ite (!defB (ops a.toNat).k) (T.ret (V.bool false, none)) (T.ret (V.bool true, none)))))))))) := by kernel_rfl

theorem right_is5 (r a b ord imm : Int) (n N : Nat) (c : Cap) (ops : Nat → Op6) (hn : n ≤ N) : ∃ r1, Leads (call Tryd.prog E2 200 43 [V.agg [.int .i64 5, .sint .i64 r, .sint .i64 a, .sint .i64 b, .sint .i64 ord, .sint .u64 imm], .slice ⟨0, 0, 0, 0, 0⟩ n c true] ⟨[.cells false 42 true [.arr N 6 (rows ops)]], 1⟩) r1 ∧ seenC 1 r1 (.sbool (rightOpB n ops ⟨5, r, a, b, ord, imm⟩), none) := by
  rw [right_tree5]
  apply T.Holds.leads
  rw [show rightOpB n ops ⟨5, r, a, b, ord, imm⟩ = (fieldB 5 r ord imm && useB (usesN 5) n ops a b) from rfl, fieldB5]
  simp only [T.Holds, seenC, weak, V.sbool.injEq, useB, usesN, okUse, Bool.and_eq_true, decide_eq_true_eq, decide_eq_false_iff_not, beq_iff_eq, bne_iff_ne, bne_eq_false_iff_eq, beq_eq_false_iff_ne, Bool.not_eq_true', Bool.not_eq_false']
  repeat' first | (refine And.intro ?_ ?_) | intro _
  all_goals first | omega | (simp_all; done) | (simp_all; intros; omega)

theorem right_tree6 (r a b ord imm : Int) (n N : Nat) (c : Cap) (ops : Nat → Op6) : call Tryd.prog E2 200 43 [V.agg [.int .i64 6, .sint .i64 r, .sint .i64 a, .sint .i64 b, .sint .i64 ord, .sint .u64 imm], .slice ⟨0, 0, 0, 0, 0⟩ n c true] ⟨[.cells false 42 true [.arr N 6 (rows ops)]], 1⟩ =
  T.ite (decide (r ≥ (0 : Int)))
  (T.ite (!decide (r ≤ (3 : Int))) (T.ret (V.bool false, none))
    (T.ite (imm != (0 : Int)) (T.ret (V.bool false, none))
      (T.ite (ord != (0 : Int)) (T.ret (V.bool false, none))
        (T.ite (a != (0 : Int)) (T.ret (V.bool false, none))
          (T.ite (b != (0 : Int)) (T.ret (V.bool false, none)) (T.ret (V.bool true, none)))))))
  (T.ret (V.bool false, none)) := by kernel_rfl

theorem right_is6 (r a b ord imm : Int) (n N : Nat) (c : Cap) (ops : Nat → Op6) (hn : n ≤ N) : ∃ r1, Leads (call Tryd.prog E2 200 43 [V.agg [.int .i64 6, .sint .i64 r, .sint .i64 a, .sint .i64 b, .sint .i64 ord, .sint .u64 imm], .slice ⟨0, 0, 0, 0, 0⟩ n c true] ⟨[.cells false 42 true [.arr N 6 (rows ops)]], 1⟩) r1 ∧ seenC 1 r1 (.sbool (rightOpB n ops ⟨6, r, a, b, ord, imm⟩), none) := by
  rw [right_tree6]
  apply T.Holds.leads
  rw [show rightOpB n ops ⟨6, r, a, b, ord, imm⟩ = (fieldB 6 r ord imm && useB (usesN 6) n ops a b) from rfl, fieldB6]
  simp only [T.Holds, seenC, weak, V.sbool.injEq, useB, usesN, okUse, Bool.and_eq_true, decide_eq_true_eq, decide_eq_false_iff_not, beq_iff_eq, bne_iff_ne, bne_eq_false_iff_eq, beq_eq_false_iff_ne, Bool.not_eq_true', Bool.not_eq_false']
  repeat' first | (refine And.intro ?_ ?_) | intro _
  all_goals first | omega | (simp_all; done) | (simp_all; intros; omega)

theorem right_tree7 (r a b ord imm : Int) (n N : Nat) (c : Cap) (ops : Nat → Op6) : call Tryd.prog E2 200 43 [V.agg [.int .i64 7, .sint .i64 r, .sint .i64 a, .sint .i64 b, .sint .i64 ord, .sint .u64 imm], .slice ⟨0, 0, 0, 0, 0⟩ n c true] ⟨[.cells false 42 true [.arr N 6 (rows ops)]], 1⟩ =
  T.ite (decide (r ≥ (0 : Int)))
  (T.ite (!decide (r ≤ (3 : Int))) (T.ret (V.bool false, none))
    (T.ite (imm != (0 : Int)) (T.ret (V.bool false, none))
      (T.ite (ord != (0 : Int)) (T.ret (V.bool false, none))
        (T.ite (b != (0 : Int)) (T.ret (V.bool false, none))
          (T.ite (decide (a < (0 : Int))) (T.ret (V.bool false, none))
            (T.ite (decide (a ≥ ↑n)) (T.ret (V.bool false, none))
              (T.need ((0 : Int) ≤ a ∧ a < ↑n)
                (T.need (a.toNat < N)
                  (T.ite (!defB (ops a.toNat).k) (T.ret (V.bool false, none)) (T.ret (V.bool true, none)))))))))))
  (T.ret (V.bool false, none)) := by kernel_rfl

theorem right_is7 (r a b ord imm : Int) (n N : Nat) (c : Cap) (ops : Nat → Op6) (hn : n ≤ N) : ∃ r1, Leads (call Tryd.prog E2 200 43 [V.agg [.int .i64 7, .sint .i64 r, .sint .i64 a, .sint .i64 b, .sint .i64 ord, .sint .u64 imm], .slice ⟨0, 0, 0, 0, 0⟩ n c true] ⟨[.cells false 42 true [.arr N 6 (rows ops)]], 1⟩) r1 ∧ seenC 1 r1 (.sbool (rightOpB n ops ⟨7, r, a, b, ord, imm⟩), none) := by
  rw [right_tree7]
  apply T.Holds.leads
  rw [show rightOpB n ops ⟨7, r, a, b, ord, imm⟩ = (fieldB 7 r ord imm && useB (usesN 7) n ops a b) from rfl, fieldB7]
  simp only [T.Holds, seenC, weak, V.sbool.injEq, useB, usesN, okUse, Bool.and_eq_true, decide_eq_true_eq, decide_eq_false_iff_not, beq_iff_eq, bne_iff_ne, bne_eq_false_iff_eq, beq_eq_false_iff_ne, Bool.not_eq_true', Bool.not_eq_false']
  repeat' first | (refine And.intro ?_ ?_) | intro _
  all_goals first | omega | (simp_all; done) | (simp_all; intros; omega)

theorem right_tree8 (r a b ord imm : Int) (n N : Nat) (c : Cap) (ops : Nat → Op6) : call Tryd.prog E2 200 43 [V.agg [.int .i64 8, .sint .i64 r, .sint .i64 a, .sint .i64 b, .sint .i64 ord, .sint .u64 imm], .slice ⟨0, 0, 0, 0, 0⟩ n c true] ⟨[.cells false 42 true [.arr N 6 (rows ops)]], 1⟩ =
  T.ite (decide (r ≥ (1 : Int)))
  (T.ite (!decide (r ≤ (15 : Int))) (T.ret (V.bool false, none))
    (T.ite (imm != (0 : Int)) (T.ret (V.bool false, none))
      (T.ite (ord != (0 : Int)) (T.ret (V.bool false, none))
        (T.ite (decide (a < (0 : Int))) (T.ret (V.bool false, none))
          (T.ite (decide (a ≥ ↑n)) (T.ret (V.bool false, none))
            (T.need ((0 : Int) ≤ a ∧ a < ↑n)
              (T.need (a.toNat < N)
                (T.ite (!defB (ops a.toNat).k) (T.ret (V.bool false, none))
                  (T.ite (decide (b < (0 : Int))) (T.ret (V.bool false, none))
                    (T.ite (decide (b ≥ ↑n)) (T.ret (V.bool false, none))
                      (T.need ((0 : Int) ≤ b ∧ b < ↑n)
                        (T.need (b.toNat < N)
                          (T.ite (!defB (ops b.toNat).k) (T.ret (V.bool false, none))
                            (T.ret (V.bool true, none)))))))))))))))
  (T.ret (V.bool false, none)) := by kernel_rfl

theorem right_is8 (r a b ord imm : Int) (n N : Nat) (c : Cap) (ops : Nat → Op6) (hn : n ≤ N) : ∃ r1, Leads (call Tryd.prog E2 200 43 [V.agg [.int .i64 8, .sint .i64 r, .sint .i64 a, .sint .i64 b, .sint .i64 ord, .sint .u64 imm], .slice ⟨0, 0, 0, 0, 0⟩ n c true] ⟨[.cells false 42 true [.arr N 6 (rows ops)]], 1⟩) r1 ∧ seenC 1 r1 (.sbool (rightOpB n ops ⟨8, r, a, b, ord, imm⟩), none) := by
  rw [right_tree8]
  apply T.Holds.leads
  rw [show rightOpB n ops ⟨8, r, a, b, ord, imm⟩ = (fieldB 8 r ord imm && useB (usesN 8) n ops a b) from rfl, fieldB8]
  simp only [T.Holds, seenC, weak, V.sbool.injEq, useB, usesN, okUse, Bool.and_eq_true, decide_eq_true_eq, decide_eq_false_iff_not, beq_iff_eq, bne_iff_ne, bne_eq_false_iff_eq, beq_eq_false_iff_ne, Bool.not_eq_true', Bool.not_eq_false']
  repeat' first | (refine And.intro ?_ ?_) | intro _
  all_goals first | omega | (simp_all; done) | (simp_all; intros; omega)

theorem right_tree9 (r a b ord imm : Int) (n N : Nat) (c : Cap) (ops : Nat → Op6) : call Tryd.prog E2 200 43 [V.agg [.int .i64 9, .sint .i64 r, .sint .i64 a, .sint .i64 b, .sint .i64 ord, .sint .u64 imm], .slice ⟨0, 0, 0, 0, 0⟩ n c true] ⟨[.cells false 42 true [.arr N 6 (rows ops)]], 1⟩ =
  T.ite (ord == (0 : Int))
  (T.ite (r != (0 : Int)) (T.ret (V.bool false, none))
    (T.ite (imm != (0 : Int)) (T.ret (V.bool false, none))
      (T.ite (b != (0 : Int)) (T.ret (V.bool false, none))
        (T.ite (decide (a < (0 : Int))) (T.ret (V.bool false, none))
          (T.ite (decide (a ≥ ↑n)) (T.ret (V.bool false, none))
            (T.need ((0 : Int) ≤ a ∧ a < ↑n)
              (T.need (a.toNat < N)
                (T.ite (!defB (ops a.toNat).k) (T.ret (V.bool false, none)) (T.ret (V.bool true, none))))))))))
  (T.ite (ord == (1 : Int))
    (T.ite (r != (0 : Int)) (T.ret (V.bool false, none))
      (T.ite (imm != (0 : Int)) (T.ret (V.bool false, none))
        (T.ite (b != (0 : Int)) (T.ret (V.bool false, none))
          (T.ite (decide (a < (0 : Int))) (T.ret (V.bool false, none))
            (T.ite (decide (a ≥ ↑n)) (T.ret (V.bool false, none))
              (T.need ((0 : Int) ≤ a ∧ a < ↑n)
                (T.need (a.toNat < N)
                  (T.ite (!defB (ops a.toNat).k) (T.ret (V.bool false, none)) (T.ret (V.bool true, none))))))))))
    (T.ite (ord == (2 : Int))
      (T.ite (r != (0 : Int)) (T.ret (V.bool false, none))
        (T.ite (imm != (0 : Int)) (T.ret (V.bool false, none))
          (T.ite (b != (0 : Int)) (T.ret (V.bool false, none))
            (T.ite (decide (a < (0 : Int))) (T.ret (V.bool false, none))
              (T.ite (decide (a ≥ ↑n)) (T.ret (V.bool false, none))
                (T.need ((0 : Int) ≤ a ∧ a < ↑n)
                  (T.need (a.toNat < N)
                    (T.ite (!defB (ops a.toNat).k) (T.ret (V.bool false, none)) (T.ret (V.bool true, none))))))))))
      (T.ret (V.bool false, none)))) := by kernel_rfl

theorem right_is9 (r a b ord imm : Int) (n N : Nat) (c : Cap) (ops : Nat → Op6) (hn : n ≤ N) : ∃ r1, Leads (call Tryd.prog E2 200 43 [V.agg [.int .i64 9, .sint .i64 r, .sint .i64 a, .sint .i64 b, .sint .i64 ord, .sint .u64 imm], .slice ⟨0, 0, 0, 0, 0⟩ n c true] ⟨[.cells false 42 true [.arr N 6 (rows ops)]], 1⟩) r1 ∧ seenC 1 r1 (.sbool (rightOpB n ops ⟨9, r, a, b, ord, imm⟩), none) := by
  rw [right_tree9]
  apply T.Holds.leads
  rw [show rightOpB n ops ⟨9, r, a, b, ord, imm⟩ = (fieldB 9 r ord imm && useB (usesN 9) n ops a b) from rfl, fieldB9]
  simp only [T.Holds, seenC, weak, V.sbool.injEq, useB, usesN, okUse, Bool.and_eq_true, decide_eq_true_eq, decide_eq_false_iff_not, beq_iff_eq, bne_iff_ne, bne_eq_false_iff_eq, beq_eq_false_iff_ne, Bool.not_eq_true', Bool.not_eq_false']
  repeat' first | (refine And.intro ?_ ?_) | intro _
  all_goals first | omega | (simp_all; done) | (simp_all; intros; omega)

theorem right_tree10 (r a b ord imm : Int) (n N : Nat) (c : Cap) (ops : Nat → Op6) : call Tryd.prog E2 200 43 [V.agg [.int .i64 10, .sint .i64 r, .sint .i64 a, .sint .i64 b, .sint .i64 ord, .sint .u64 imm], .slice ⟨0, 0, 0, 0, 0⟩ n c true] ⟨[.cells false 42 true [.arr N 6 (rows ops)]], 1⟩ =
  T.ite (ord == (0 : Int))
  (T.ite (r != (0 : Int)) (T.ret (V.bool false, none))
    (T.ite (imm != (0 : Int)) (T.ret (V.bool false, none))
      (T.ite (decide (a < (0 : Int))) (T.ret (V.bool false, none))
        (T.ite (decide (a ≥ ↑n)) (T.ret (V.bool false, none))
          (T.need ((0 : Int) ≤ a ∧ a < ↑n)
            (T.need (a.toNat < N)
              (T.ite (!defB (ops a.toNat).k) (T.ret (V.bool false, none))
                (T.ite (decide (b < (0 : Int))) (T.ret (V.bool false, none))
                  (T.ite (decide (b ≥ ↑n)) (T.ret (V.bool false, none))
                    (T.need ((0 : Int) ≤ b ∧ b < ↑n)
                      (T.need (b.toNat < N)
                        (T.ite (!defB (ops b.toNat).k) (T.ret (V.bool false, none))
                          (T.ret (V.bool true, none))))))))))))))
  (T.ite (ord == (4 : Int))
    (T.ite (r != (0 : Int)) (T.ret (V.bool false, none))
      (T.ite (imm != (0 : Int)) (T.ret (V.bool false, none))
        (T.ite (decide (a < (0 : Int))) (T.ret (V.bool false, none))
          (T.ite (decide (a ≥ ↑n)) (T.ret (V.bool false, none))
            (T.need ((0 : Int) ≤ a ∧ a < ↑n)
              (T.need (a.toNat < N)
                (T.ite (!defB (ops a.toNat).k) (T.ret (V.bool false, none))
                  (T.ite (decide (b < (0 : Int))) (T.ret (V.bool false, none))
                    (T.ite (decide (b ≥ ↑n)) (T.ret (V.bool false, none))
                      (T.need ((0 : Int) ≤ b ∧ b < ↑n)
                        (T.need (b.toNat < N)
                          (T.ite (!defB (ops b.toNat).k) (T.ret (V.bool false, none))
                            (T.ret (V.bool true, none))))))))))))))
    (T.ret (V.bool false, none))) := by kernel_rfl

theorem right_is10 (r a b ord imm : Int) (n N : Nat) (c : Cap) (ops : Nat → Op6) (hn : n ≤ N) : ∃ r1, Leads (call Tryd.prog E2 200 43 [V.agg [.int .i64 10, .sint .i64 r, .sint .i64 a, .sint .i64 b, .sint .i64 ord, .sint .u64 imm], .slice ⟨0, 0, 0, 0, 0⟩ n c true] ⟨[.cells false 42 true [.arr N 6 (rows ops)]], 1⟩) r1 ∧ seenC 1 r1 (.sbool (rightOpB n ops ⟨10, r, a, b, ord, imm⟩), none) := by
  rw [right_tree10]
  apply T.Holds.leads
  rw [show rightOpB n ops ⟨10, r, a, b, ord, imm⟩ = (fieldB 10 r ord imm && useB (usesN 10) n ops a b) from rfl, fieldB10]
  simp only [T.Holds, seenC, weak, V.sbool.injEq, useB, usesN, okUse, Bool.and_eq_true, decide_eq_true_eq, decide_eq_false_iff_not, beq_iff_eq, bne_iff_ne, bne_eq_false_iff_eq, beq_eq_false_iff_ne, Bool.not_eq_true', Bool.not_eq_false']
  repeat' first | (refine And.intro ?_ ?_) | intro _
  all_goals first | omega | (simp_all; done) | (simp_all; intros; omega)

theorem right_tree11 (r a b ord imm : Int) (n N : Nat) (c : Cap) (ops : Nat → Op6) : call Tryd.prog E2 200 43 [V.agg [.int .i64 11, .sint .i64 r, .sint .i64 a, .sint .i64 b, .sint .i64 ord, .sint .u64 imm], .slice ⟨0, 0, 0, 0, 0⟩ n c true] ⟨[.cells false 42 true [.arr N 6 (rows ops)]], 1⟩ =
  T.ite (ord == (0 : Int))
  (T.ite (r != (0 : Int)) (T.ret (V.bool false, none))
    (T.ite (imm != (0 : Int)) (T.ret (V.bool false, none))
      (T.ite (b != (0 : Int)) (T.ret (V.bool false, none))
        (T.ite (decide (a < (0 : Int))) (T.ret (V.bool false, none))
          (T.ite (decide (a ≥ ↑n)) (T.ret (V.bool false, none))
            (T.need ((0 : Int) ≤ a ∧ a < ↑n)
              (T.need (a.toNat < N)
                (T.ite (!defB (ops a.toNat).k) (T.ret (V.bool false, none)) (T.ret (V.bool true, none))))))))))
  (T.ite (ord == (2 : Int))
    (T.ite (r != (0 : Int)) (T.ret (V.bool false, none))
      (T.ite (imm != (0 : Int)) (T.ret (V.bool false, none))
        (T.ite (b != (0 : Int)) (T.ret (V.bool false, none))
          (T.ite (decide (a < (0 : Int))) (T.ret (V.bool false, none))
            (T.ite (decide (a ≥ ↑n)) (T.ret (V.bool false, none))
              (T.need ((0 : Int) ≤ a ∧ a < ↑n)
                (T.need (a.toNat < N)
                  (T.ite (!defB (ops a.toNat).k) (T.ret (V.bool false, none)) (T.ret (V.bool true, none))))))))))
    (T.ret (V.bool false, none))) := by kernel_rfl

theorem right_is11 (r a b ord imm : Int) (n N : Nat) (c : Cap) (ops : Nat → Op6) (hn : n ≤ N) : ∃ r1, Leads (call Tryd.prog E2 200 43 [V.agg [.int .i64 11, .sint .i64 r, .sint .i64 a, .sint .i64 b, .sint .i64 ord, .sint .u64 imm], .slice ⟨0, 0, 0, 0, 0⟩ n c true] ⟨[.cells false 42 true [.arr N 6 (rows ops)]], 1⟩) r1 ∧ seenC 1 r1 (.sbool (rightOpB n ops ⟨11, r, a, b, ord, imm⟩), none) := by
  rw [right_tree11]
  apply T.Holds.leads
  rw [show rightOpB n ops ⟨11, r, a, b, ord, imm⟩ = (fieldB 11 r ord imm && useB (usesN 11) n ops a b) from rfl, fieldB11]
  simp only [T.Holds, seenC, weak, V.sbool.injEq, useB, usesN, okUse, Bool.and_eq_true, decide_eq_true_eq, decide_eq_false_iff_not, beq_iff_eq, bne_iff_ne, bne_eq_false_iff_eq, beq_eq_false_iff_ne, Bool.not_eq_true', Bool.not_eq_false']
  repeat' first | (refine And.intro ?_ ?_) | intro _
  all_goals first | omega | (simp_all; done) | (simp_all; intros; omega)

theorem right_tree12 (r a b ord imm : Int) (n N : Nat) (c : Cap) (ops : Nat → Op6) : call Tryd.prog E2 200 43 [V.agg [.int .i64 12, .sint .i64 r, .sint .i64 a, .sint .i64 b, .sint .i64 ord, .sint .u64 imm], .slice ⟨0, 0, 0, 0, 0⟩ n c true] ⟨[.cells false 42 true [.arr N 6 (rows ops)]], 1⟩ =
  T.ite (ord == (0 : Int))
  (T.ite (r != (0 : Int)) (T.ret (V.bool false, none))
    (T.ite (imm != (0 : Int)) (T.ret (V.bool false, none))
      (T.ite (decide (a < (0 : Int))) (T.ret (V.bool false, none))
        (T.ite (decide (a ≥ ↑n)) (T.ret (V.bool false, none))
          (T.need ((0 : Int) ≤ a ∧ a < ↑n)
            (T.need (a.toNat < N)
              (T.ite (!defB (ops a.toNat).k) (T.ret (V.bool false, none))
                (T.ite (decide (b < (0 : Int))) (T.ret (V.bool false, none))
                  (T.ite (decide (b ≥ ↑n)) (T.ret (V.bool false, none))
                    (T.need ((0 : Int) ≤ b ∧ b < ↑n)
                      (T.need (b.toNat < N)
                        (T.ite (!defB (ops b.toNat).k) (T.ret (V.bool false, none))
                          (T.ret (V.bool true, none))))))))))))))
  (T.ite (ord == (4 : Int))
    (T.ite (r != (0 : Int)) (T.ret (V.bool false, none))
      (T.ite (imm != (0 : Int)) (T.ret (V.bool false, none))
        (T.ite (decide (a < (0 : Int))) (T.ret (V.bool false, none))
          (T.ite (decide (a ≥ ↑n)) (T.ret (V.bool false, none))
            (T.need ((0 : Int) ≤ a ∧ a < ↑n)
              (T.need (a.toNat < N)
                (T.ite (!defB (ops a.toNat).k) (T.ret (V.bool false, none))
                  (T.ite (decide (b < (0 : Int))) (T.ret (V.bool false, none))
                    (T.ite (decide (b ≥ ↑n)) (T.ret (V.bool false, none))
                      (T.need ((0 : Int) ≤ b ∧ b < ↑n)
                        (T.need (b.toNat < N)
                          (T.ite (!defB (ops b.toNat).k) (T.ret (V.bool false, none))
                            (T.ret (V.bool true, none))))))))))))))
    (T.ret (V.bool false, none))) := by kernel_rfl

theorem right_is12 (r a b ord imm : Int) (n N : Nat) (c : Cap) (ops : Nat → Op6) (hn : n ≤ N) : ∃ r1, Leads (call Tryd.prog E2 200 43 [V.agg [.int .i64 12, .sint .i64 r, .sint .i64 a, .sint .i64 b, .sint .i64 ord, .sint .u64 imm], .slice ⟨0, 0, 0, 0, 0⟩ n c true] ⟨[.cells false 42 true [.arr N 6 (rows ops)]], 1⟩) r1 ∧ seenC 1 r1 (.sbool (rightOpB n ops ⟨12, r, a, b, ord, imm⟩), none) := by
  rw [right_tree12]
  apply T.Holds.leads
  rw [show rightOpB n ops ⟨12, r, a, b, ord, imm⟩ = (fieldB 12 r ord imm && useB (usesN 12) n ops a b) from rfl, fieldB12]
  simp only [T.Holds, seenC, weak, V.sbool.injEq, useB, usesN, okUse, Bool.and_eq_true, decide_eq_true_eq, decide_eq_false_iff_not, beq_iff_eq, bne_iff_ne, bne_eq_false_iff_eq, beq_eq_false_iff_ne, Bool.not_eq_true', Bool.not_eq_false']
  repeat' first | (refine And.intro ?_ ?_) | intro _
  all_goals first | omega | (simp_all; done) | (simp_all; intros; omega)

theorem right_tree13 (r a b ord imm : Int) (n N : Nat) (c : Cap) (ops : Nat → Op6) : call Tryd.prog E2 200 43 [V.agg [.int .i64 13, .sint .i64 r, .sint .i64 a, .sint .i64 b, .sint .i64 ord, .sint .u64 imm], .slice ⟨0, 0, 0, 0, 0⟩ n c true] ⟨[.cells false 42 true [.arr N 6 (rows ops)]], 1⟩ =
  T.ite (r == (13 : Int))
  (T.ite (imm != (0 : Int)) (T.ret (V.bool false, none))
    (T.ite (ord != (0 : Int)) (T.ret (V.bool false, none))
      (T.ite (a != (0 : Int)) (T.ret (V.bool false, none))
        (T.ite (b != (0 : Int)) (T.ret (V.bool false, none)) (T.ret (V.bool true, none))))))
  (T.ite (r == (10 : Int))
    (T.ite (imm != (0 : Int)) (T.ret (V.bool false, none))
      (T.ite (ord != (0 : Int)) (T.ret (V.bool false, none))
        (T.ite (a != (0 : Int)) (T.ret (V.bool false, none))
          (T.ite (b != (0 : Int)) (T.ret (V.bool false, none)) (T.ret (V.bool true, none))))))
    (T.ite (!r == (15 : Int)) (T.ret (V.bool false, none))
      (T.ite (imm != (0 : Int)) (T.ret (V.bool false, none))
        (T.ite (ord != (0 : Int)) (T.ret (V.bool false, none))
          (T.ite (a != (0 : Int)) (T.ret (V.bool false, none))
            (T.ite (b != (0 : Int)) (T.ret (V.bool false, none)) (T.ret (V.bool true, none)))))))) := by kernel_rfl

theorem right_is13 (r a b ord imm : Int) (n N : Nat) (c : Cap) (ops : Nat → Op6) (hn : n ≤ N) : ∃ r1, Leads (call Tryd.prog E2 200 43 [V.agg [.int .i64 13, .sint .i64 r, .sint .i64 a, .sint .i64 b, .sint .i64 ord, .sint .u64 imm], .slice ⟨0, 0, 0, 0, 0⟩ n c true] ⟨[.cells false 42 true [.arr N 6 (rows ops)]], 1⟩) r1 ∧ seenC 1 r1 (.sbool (rightOpB n ops ⟨13, r, a, b, ord, imm⟩), none) := by
  rw [right_tree13]
  apply T.Holds.leads
  rw [show rightOpB n ops ⟨13, r, a, b, ord, imm⟩ = (fieldB 13 r ord imm && useB (usesN 13) n ops a b) from rfl, fieldB13]
  simp only [T.Holds, seenC, weak, V.sbool.injEq, useB, usesN, okUse, Bool.and_eq_true, decide_eq_true_eq, decide_eq_false_iff_not, beq_iff_eq, bne_iff_ne, bne_eq_false_iff_eq, beq_eq_false_iff_ne, Bool.not_eq_true', Bool.not_eq_false']
  repeat' first | (refine And.intro ?_ ?_) | intro _
  all_goals first | omega | (simp_all; done) | (simp_all; intros; omega)

theorem right_tree14 (r a b ord imm : Int) (n N : Nat) (c : Cap) (ops : Nat → Op6) : call Tryd.prog E2 200 43 [V.agg [.int .i64 14, .sint .i64 r, .sint .i64 a, .sint .i64 b, .sint .i64 ord, .sint .u64 imm], .slice ⟨0, 0, 0, 0, 0⟩ n c true] ⟨[.cells false 42 true [.arr N 6 (rows ops)]], 1⟩ =
  T.ite (!bitsI BinOp.and IntKind.u64 imm (3 : Int) == (0 : Int)) (T.ret (V.bool false, none))
  (T.ite (r != (0 : Int)) (T.ret (V.bool false, none))
    (T.ite (ord != (0 : Int)) (T.ret (V.bool false, none))
      (T.ite (a != (0 : Int)) (T.ret (V.bool false, none))
        (T.ite (b != (0 : Int)) (T.ret (V.bool false, none)) (T.ret (V.bool true, none)))))) := by kernel_rfl

theorem right_is14 (r a b ord imm : Int) (n N : Nat) (c : Cap) (ops : Nat → Op6) (hn : n ≤ N) : ∃ r1, Leads (call Tryd.prog E2 200 43 [V.agg [.int .i64 14, .sint .i64 r, .sint .i64 a, .sint .i64 b, .sint .i64 ord, .sint .u64 imm], .slice ⟨0, 0, 0, 0, 0⟩ n c true] ⟨[.cells false 42 true [.arr N 6 (rows ops)]], 1⟩) r1 ∧ seenC 1 r1 (.sbool (rightOpB n ops ⟨14, r, a, b, ord, imm⟩), none) := by
  rw [right_tree14]
  apply T.Holds.leads
  rw [show rightOpB n ops ⟨14, r, a, b, ord, imm⟩ = (fieldB 14 r ord imm && useB (usesN 14) n ops a b) from rfl, fieldB14]
  simp only [T.Holds, seenC, weak, V.sbool.injEq, useB, usesN, okUse, Bool.and_eq_true, decide_eq_true_eq, decide_eq_false_iff_not, beq_iff_eq, bne_iff_ne, bne_eq_false_iff_eq, beq_eq_false_iff_ne, Bool.not_eq_true', Bool.not_eq_false']
  repeat' first | (refine And.intro ?_ ?_) | intro _
  all_goals first | omega | (simp_all; done) | (simp_all; intros; omega)

theorem right_tree15 (r a b ord imm : Int) (n N : Nat) (c : Cap) (ops : Nat → Op6) : call Tryd.prog E2 200 43 [V.agg [.int .i64 15, .sint .i64 r, .sint .i64 a, .sint .i64 b, .sint .i64 ord, .sint .u64 imm], .slice ⟨0, 0, 0, 0, 0⟩ n c true] ⟨[.cells false 42 true [.arr N 6 (rows ops)]], 1⟩ =
  T.ite (r != (0 : Int)) (T.ret (V.bool false, none))
  (T.ite (ord != (0 : Int)) (T.ret (V.bool false, none))
    (T.ite (b != (0 : Int)) (T.ret (V.bool false, none))
      (T.ite (decide (a < (0 : Int))) (T.ret (V.bool false, none))
        (T.ite (decide (a ≥ ↑n)) (T.ret (V.bool false, none))
          (T.need ((0 : Int) ≤ a ∧ a < ↑n)
            (T.need (a.toNat < N)
              (T.ite (!defB (ops a.toNat).k) (T.ret (V.bool false, none)) (T.ret (V.bool true, none))))))))) := by kernel_rfl

theorem right_is15 (r a b ord imm : Int) (n N : Nat) (c : Cap) (ops : Nat → Op6) (hn : n ≤ N) : ∃ r1, Leads (call Tryd.prog E2 200 43 [V.agg [.int .i64 15, .sint .i64 r, .sint .i64 a, .sint .i64 b, .sint .i64 ord, .sint .u64 imm], .slice ⟨0, 0, 0, 0, 0⟩ n c true] ⟨[.cells false 42 true [.arr N 6 (rows ops)]], 1⟩) r1 ∧ seenC 1 r1 (.sbool (rightOpB n ops ⟨15, r, a, b, ord, imm⟩), none) := by
  rw [right_tree15]
  apply T.Holds.leads
  rw [show rightOpB n ops ⟨15, r, a, b, ord, imm⟩ = (fieldB 15 r ord imm && useB (usesN 15) n ops a b) from rfl, fieldB15]
  simp only [T.Holds, seenC, weak, V.sbool.injEq, useB, usesN, okUse, Bool.and_eq_true, decide_eq_true_eq, decide_eq_false_iff_not, beq_iff_eq, bne_iff_ne, bne_eq_false_iff_eq, beq_eq_false_iff_ne, Bool.not_eq_true', Bool.not_eq_false']
  repeat' first | (refine And.intro ?_ ?_) | intro _
  all_goals first | omega | (simp_all; done) | (simp_all; intros; omega)

theorem right_tree16 (r a b ord imm : Int) (n N : Nat) (c : Cap) (ops : Nat → Op6) : call Tryd.prog E2 200 43 [V.agg [.int .i64 16, .sint .i64 r, .sint .i64 a, .sint .i64 b, .sint .i64 ord, .sint .u64 imm], .slice ⟨0, 0, 0, 0, 0⟩ n c true] ⟨[.cells false 42 true [.arr N 6 (rows ops)]], 1⟩ =
  T.ite (r != (0 : Int)) (T.ret (V.bool false, none))
  (T.ite (ord != (0 : Int)) (T.ret (V.bool false, none))
    (T.ite (a != (0 : Int)) (T.ret (V.bool false, none))
      (T.ite (b != (0 : Int)) (T.ret (V.bool false, none)) (T.ret (V.bool true, none))))) := by kernel_rfl

theorem right_is16 (r a b ord imm : Int) (n N : Nat) (c : Cap) (ops : Nat → Op6) (hn : n ≤ N) : ∃ r1, Leads (call Tryd.prog E2 200 43 [V.agg [.int .i64 16, .sint .i64 r, .sint .i64 a, .sint .i64 b, .sint .i64 ord, .sint .u64 imm], .slice ⟨0, 0, 0, 0, 0⟩ n c true] ⟨[.cells false 42 true [.arr N 6 (rows ops)]], 1⟩) r1 ∧ seenC 1 r1 (.sbool (rightOpB n ops ⟨16, r, a, b, ord, imm⟩), none) := by
  rw [right_tree16]
  apply T.Holds.leads
  rw [show rightOpB n ops ⟨16, r, a, b, ord, imm⟩ = (fieldB 16 r ord imm && useB (usesN 16) n ops a b) from rfl, fieldB16]
  simp only [T.Holds, seenC, weak, V.sbool.injEq, useB, usesN, okUse, Bool.and_eq_true, decide_eq_true_eq, decide_eq_false_iff_not, beq_iff_eq, bne_iff_ne, bne_eq_false_iff_eq, beq_eq_false_iff_ne, Bool.not_eq_true', Bool.not_eq_false']
  repeat' first | (refine And.intro ?_ ?_) | intro _
  all_goals first | omega | (simp_all; done) | (simp_all; intros; omega)

theorem right_tree17 (r a b ord imm : Int) (n N : Nat) (c : Cap) (ops : Nat → Op6) : call Tryd.prog E2 200 43 [V.agg [.int .i64 17, .sint .i64 r, .sint .i64 a, .sint .i64 b, .sint .i64 ord, .sint .u64 imm], .slice ⟨0, 0, 0, 0, 0⟩ n c true] ⟨[.cells false 42 true [.arr N 6 (rows ops)]], 1⟩ =
  T.ite (r != (0 : Int)) (T.ret (V.bool false, none))
  (T.ite (imm != (0 : Int)) (T.ret (V.bool false, none))
    (T.ite (ord != (0 : Int)) (T.ret (V.bool false, none))
      (T.ite (b != (0 : Int)) (T.ret (V.bool false, none))
        (T.ite (decide (a < (0 : Int))) (T.ret (V.bool false, none))
          (T.ite (decide (a ≥ ↑n)) (T.ret (V.bool false, none))
            (T.need ((0 : Int) ≤ a ∧ a < ↑n)
              (T.need (a.toNat < N)
                (T.ite (!defB (ops a.toNat).k) (T.ret (V.bool false, none)) (T.ret (V.bool true, none)))))))))) := by kernel_rfl

theorem right_is17 (r a b ord imm : Int) (n N : Nat) (c : Cap) (ops : Nat → Op6) (hn : n ≤ N) : ∃ r1, Leads (call Tryd.prog E2 200 43 [V.agg [.int .i64 17, .sint .i64 r, .sint .i64 a, .sint .i64 b, .sint .i64 ord, .sint .u64 imm], .slice ⟨0, 0, 0, 0, 0⟩ n c true] ⟨[.cells false 42 true [.arr N 6 (rows ops)]], 1⟩) r1 ∧ seenC 1 r1 (.sbool (rightOpB n ops ⟨17, r, a, b, ord, imm⟩), none) := by
  rw [right_tree17]
  apply T.Holds.leads
  rw [show rightOpB n ops ⟨17, r, a, b, ord, imm⟩ = (fieldB 17 r ord imm && useB (usesN 17) n ops a b) from rfl, fieldB17]
  simp only [T.Holds, seenC, weak, V.sbool.injEq, useB, usesN, okUse, Bool.and_eq_true, decide_eq_true_eq, decide_eq_false_iff_not, beq_iff_eq, bne_iff_ne, bne_eq_false_iff_eq, beq_eq_false_iff_ne, Bool.not_eq_true', Bool.not_eq_false']
  repeat' first | (refine And.intro ?_ ?_) | intro _
  all_goals first | omega | (simp_all; done) | (simp_all; intros; omega)

theorem right_tree18 (r a b ord imm : Int) (n N : Nat) (c : Cap) (ops : Nat → Op6) : call Tryd.prog E2 200 43 [V.agg [.int .i64 18, .sint .i64 r, .sint .i64 a, .sint .i64 b, .sint .i64 ord, .sint .u64 imm], .slice ⟨0, 0, 0, 0, 0⟩ n c true] ⟨[.cells false 42 true [.arr N 6 (rows ops)]], 1⟩ =
  T.need ((0 : Int) ≤ (32 : Int))
  (T.ite (!imm.fdiv ((2 : Int) ^ min (Int.toNat (32 : Int)) IntKind.u64.bits) == (0 : Int)) (T.ret (V.bool false, none))
    (T.ite (r != (0 : Int)) (T.ret (V.bool false, none))
      (T.ite (ord != (0 : Int)) (T.ret (V.bool false, none))
        (T.ite (a != (0 : Int)) (T.ret (V.bool false, none))
          (T.ite (b != (0 : Int)) (T.ret (V.bool false, none)) (T.ret (V.bool true, none))))))) := by kernel_rfl

theorem right_is18 (r a b ord imm : Int) (n N : Nat) (c : Cap) (ops : Nat → Op6) (hn : n ≤ N) : ∃ r1, Leads (call Tryd.prog E2 200 43 [V.agg [.int .i64 18, .sint .i64 r, .sint .i64 a, .sint .i64 b, .sint .i64 ord, .sint .u64 imm], .slice ⟨0, 0, 0, 0, 0⟩ n c true] ⟨[.cells false 42 true [.arr N 6 (rows ops)]], 1⟩) r1 ∧ seenC 1 r1 (.sbool (rightOpB n ops ⟨18, r, a, b, ord, imm⟩), none) := by
  rw [right_tree18]
  apply T.Holds.leads
  rw [show rightOpB n ops ⟨18, r, a, b, ord, imm⟩ = (fieldB 18 r ord imm && useB (usesN 18) n ops a b) from rfl, fieldB18]
  simp only [T.Holds, seenC, weak, V.sbool.injEq, useB, usesN, okUse, Bool.and_eq_true, decide_eq_true_eq, decide_eq_false_iff_not, beq_iff_eq, bne_iff_ne, bne_eq_false_iff_eq, beq_eq_false_iff_ne, Bool.not_eq_true', Bool.not_eq_false']
  repeat' first | (refine And.intro ?_ ?_) | intro _
  all_goals first | omega | (simp_all; done) | (simp_all; intros; omega)

end Go.Proofs.YtomeoihdhkmamaaDoor
