/- New of chapter 16. -/
import Derived.Test.YtomeoihdhkmamaaDoorZyJ
set_option linter.unusedVariables false
set_option linter.unusedSimpArgs false
namespace Go.Proofs.YtomeoihdhkmamaaDoor
open Go.X
set_option maxRecDepth 100000

/-- A state. -/
structure Cor where
  X : Nat → Int
  SP : Nat → Int
  pc : Int
  (n z c v : Bool)
  el : Int
  mask : Bool
  (spsr elr esr far vbar tpidr id wait : Int)
  event : Bool

def u64s (f : Nat → Int) : Nat → List V := fun k => [.sint .u64 (f k)]
def Cor.cells (c : Cor) : List V := [.arr 31 1 (u64s c.X), .arr 2 1 (u64s c.SP), .sint .u64 c.pc, .sbool c.n, .sbool c.z, .sbool c.c, .sbool c.v, .sint .i64 c.el, .sbool c.mask,
  .sint .u64 c.spsr, .sint .u64 c.elr, .sint .u64 c.esr, .sint .u64 c.far, .sint .u64 c.vbar, .sint .u64 c.tpidr, .sint .i64 c.id, .sint .i64 c.wait, .sbool c.event]

structure NewX where
  b : Blk
  c : Cor
def newA (x : NewX) : List V := [.agg (x.b.cells 0), .agg x.c.cells]
def newM (x : NewX) : List O := [opsO x.b.N x.b.ops]
end Go.Proofs.YtomeoihdhkmamaaDoor
