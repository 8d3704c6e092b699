/- The laws of chapter 16: runs, answer by answer. -/
import Derived.Test.YtomeoihdhkmamaaDoorZyQ
set_option linter.unusedVariables false
set_option linter.unusedSimpArgs false
namespace Go.Proofs.YtomeoihdhkmamaaDoor
open Go.X
set_option maxRecDepth 100000

theorem eqs10 : EqsOk Tryd.prog [38, 29, 42] := eqs_ok fun t ht => by
  simp only [List.mem_cons, List.not_mem_nil, or_false] at ht
  rcases ht with rfl | rfl | rfl
  · exact ⟨by kernel_rfl, by kernel_rfl, by kernel_rfl, by kernel_rfl⟩
  · exact ⟨by kernel_rfl, by kernel_rfl, by kernel_rfl, by kernel_rfl⟩
  · exact ⟨by kernel_rfl, by kernel_rfl, by kernel_rfl, by kernel_rfl⟩
noncomputable def E10 : Env := { E9 with eqs := [38, 29, 42] }
theorem E10_ok : EnvOk Tryd.prog E10 := { E9_ok with eqs := eqs10 }

/-- An answer. -/
structure Gt where
  v : Int
  ok : Bool
  fault : Int
def Gt.cells (g : Gt) : List V := [.sint .u64 g.v, .sbool g.ok, .sint .i64 g.fault]
def gts (got : Nat → Gt) : Nat → List V := fun i => (got i).cells
def gtsO (N : Nat) (got : Nat → Gt) : O := .cells false 44 true [.arr N 3 (gts got)]

/-- The answers. -/
structure Ans where
  m : Nat
  c : Cap
  N : Nat
  got : Nat → Gt

structure Kp where
  b : Blk
  a : Ans
  r : Rn
  i : Int

def runO (r : Rn) (m : Mode) (o v me : Nat) : O := .cells true 71 false (r.cells m o v me)
noncomputable def kpS (x : Kp) : List V := slots 134 [(2, slc 1 x.a.m x.a.c), (3, pt 2), (8, pt 5), (10, .sint .i64 x.i)]
def kpM (x : Kp) : List O := [opsO x.b.N x.b.ops, gtsO x.a.N x.a.got, .cells false 25 true (x.b.cells 0), opsO x.r.n x.r.ops, valsO x.r.n x.r.vals, runO x.r .off 3 4 5]
noncomputable def kpBody : Code := loopAt (Tryd.prog.funcs[4]?.bind (·.body)) 8
noncomputable def kpRound (x : Kp) (h : Nat → Value) : T (Ex × St) := exec Tryd.prog E10 200 4 kpBody ⟨fill [4, 6, 7] h 0 (kpS x), ⟨kpM x, 4⟩⟩
end Go.Proofs.YtomeoihdhkmamaaDoor
