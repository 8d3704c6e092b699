/- A run of a block: what it holds. -/
import Derived.Test.YtomeoihdhkmamaaDoorZyL
set_option linter.unusedVariables false
set_option linter.unusedSimpArgs false
namespace Go.Proofs.YtomeoihdhkmamaaDoor
open Go.X
set_option maxRecDepth 100000

structure Wnt where
  (kind addr value acq : Int)
  rel : Bool
  fence : Int
  dsb : Bool
  (sys cls iss : Int)

def Wnt.cells (w : Wnt) : List V := [.sint .i64 w.kind, .sint .u64 w.addr, .sint .u64 w.value, .sint .i64 w.acq, .sbool w.rel, .sint .i64 w.fence, .sbool w.dsb, .sint .i64 w.sys, .sint .i64 w.cls, .sint .i64 w.iss]

/-- What takes an answer. -/
inductive Mode where
  | off | passed | loaded | stored | tried

structure Rn where
  n : Nat
  ops : Nat → Op6
  vals : Nat → Int
  el : Int
  at_ : Int
  c : Cor
  w : Wnt
  left : Bool
  faulted : Bool
  word : Int
  guest : Bool

def takeV (m : Mode) (me : Nat) : V :=
  match m with
  | .off => .nilFunc
  | .passed => .func (.func 47) [pt me] []
  | .loaded => .func (.func 67) [pt me] []
  | .stored => .func (.func 68) [pt me] []
  | .tried => .func (.func 69) [pt me] []

def Rn.cells (r : Rn) (m : Mode) (o v me : Nat) : List V :=
  [.slice ⟨o, 0, 0, 0, 0⟩ r.n (.rest 6) true, .sint .i64 r.el, .sint .i64 r.at_] ++ (r.c.cells ++ (.slice ⟨v, 0, 0, 0, 0⟩ r.n (.known r.n) true :: (r.w.cells ++ [takeV m me, .sbool r.left, .sbool r.faulted, .sint .u32 r.word, .sbool r.guest])))

def valsO (n : Nat) (vals : Nat → Int) : O := .cells true 22 false [.arr n 1 (u64s vals)]
def Rn.objs (r : Rn) (m : Mode) : List O := [opsO r.n r.ops, valsO r.n r.vals, .cells true 71 false (r.cells m 0 1 2)]

/-! ### One operation -/

def setAt (f : Nat → Int) (i : Nat) (v : Int) : Nat → Int := fun k => bif decide (k = i) then v else f k

def Rn.at1 (x : Rn) : Int := IntKind.i64.wrap (x.at_ + 1)
def Rn.ki (x : Rn) : Int := IntKind.i64.wrap (x.at1 - 1)
def Rn.o (x : Rn) : Op6 := x.ops x.at_.toNat
def Rn.a (x : Rn) : Int := x.vals x.o.a.toNat
def Rn.b (x : Rn) : Int := x.vals x.o.b.toNat
def Rn.nx (x : Rn) : Rn := { x with at_ := x.at1 }
def Rn.put (x : Rn) (v : Int) : Rn := { x.nx with vals := setAt x.vals x.ki.toNat v }
def Rn.leave (x : Rn) (pc : Int) : Rn := { x.nx with c := { x.c with pc := pc }, left := true }
def Rn.fault (x : Rn) : Rn := { x.nx with left := true, faulted := true }

def Cor.flag (c : Cor) (r : Int) : Bool :=
  match r with
  | 0 => c.n
  | 1 => c.z
  | 2 => c.c
  | _ => c.v
def Cor.setF (c : Cor) (r : Int) (b : Bool) : Cor :=
  match r with
  | 0 => { c with n := b }
  | 1 => { c with z := b }
  | 2 => { c with c := b }
  | _ => { c with v := b }
def Rn.getF (x : Rn) (b : Bool) : Rn := bif b then x.put 1 else x.nx
def Rn.exitIf (x : Rn) (b : Bool) : Rn := bif b then x.leave x.o.i else x.nx
def Rn.want (x : Rn) (k v : Int) : Rn := { x.nx with w := ⟨k, x.a, v, bitsI .andNot .i64 x.o.o 4, x.o.o == 4, 0, false, 0, 0, 0⟩ }
def Rn.access (x : Rn) (k : Int) (b : Bool) : Mode × Rn :=
  bif b then (.off, x.fault) else
    match k with
    | 9 => (.loaded, x.want 1 0)
    | 11 => (.loaded, x.want 3 0)
    | 10 => (.stored, x.want 2 x.b)
    | _ => (.tried, x.want 4 x.b)

/-- What an operation of a kind does. -/
def stepK (k : Int) (x : Rn) : Mode × Rn :=
  match k with
  | 1 => (.off, x.put x.o.i)
  | 2 => (.off, x.put (x.c.X x.o.r.toNat))
  | 3 => (.off, { x.nx with c := { x.c with X := setAt x.c.X x.o.r.toNat x.a } })
  | 4 => (.off, x.put (x.c.SP x.el.toNat))
  | 5 => (.off, { x.nx with c := { x.c with SP := setAt x.c.SP x.el.toNat x.a } })
  | 6 => (.off, x.getF (x.c.flag x.o.r))
  | 7 => (.off, { x.nx with c := x.c.setF x.o.r (x.a != 0) })
  | 8 => (.off, x.put (reckonI x.o.r x.a x.b))
  | 13 => (.passed, { x.nx with w := ⟨6, 0, 0, 0, false, x.o.r, false, 0, 0, 0⟩ })
  | 14 => (.off, { x.nx with c := { x.c with pc := x.o.i } })
  | 15 => (.off, x.exitIf (x.a != 0))
  | 16 => (.off, x.leave x.o.i)
  | 17 => (.off, x.leave x.a)
  | 18 => (.off, { x.nx with left := true, word := IntKind.u32.wrap x.o.i, guest := true })
  | k => x.access k (bitsI .and .u64 x.a 7 != 0)

def stepRn (x : Rn) : Mode × Rn := stepK x.o.k x

/-! ### The round -/

noncomputable def nxS : List V := slots 47 [(0, pt 2)]
noncomputable def nxBody : Code := loopAt (Tryd.prog.funcs[10]?.bind (·.body)) 1
noncomputable def nxRound (x : Rn) (h : Nat → Value) : T (Ex × St) := exec Tryd.prog E7 200 10 nxBody ⟨fill [2, 3] h 0 nxS, ⟨x.objs .off, 1⟩⟩

def nxSk (x : Rn) (o : Op6) (ki : Int) (k : Nat) : Sk := Sk.ite (!x.left) (Sk.need ((0 : Int) ≤ x.at_ ∧ x.at_ < (↑x.n : Int)) (Sk.need (x.at_.toNat < x.n) (Sk.need ((0 : Int) ≤ ki ∧ ki < (↑x.n : Int)) (Sk.need ((0 : Int) ≤ o.a ∧ o.a < (↑x.n : Int)) (Sk.need (o.a.toNat < x.n) (Sk.need ((0 : Int) ≤ o.b ∧ o.b < (↑x.n : Int)) (Sk.need (o.b.toNat < x.n) (Sk.ite (o.k == (1 : Int)) (Sk.need (k < x.n) Sk.ret) (Sk.ite (o.k == (2 : Int)) (Sk.need ((0 : Int) ≤ o.r ∧ o.r < (↑(31 : Nat) : Int)) (Sk.need (o.r.toNat < (31 : Nat)) (Sk.need (k < x.n) Sk.ret))) (Sk.ite (o.k == (3 : Int)) (Sk.need ((0 : Int) ≤ o.r ∧ o.r < (↑(31 : Nat) : Int)) (Sk.need (o.r.toNat < (31 : Nat)) Sk.ret)) (Sk.ite (o.k == (4 : Int)) (Sk.need ((0 : Int) ≤ x.el ∧ x.el < (↑(2 : Nat) : Int)) (Sk.need (x.el.toNat < (2 : Nat)) (Sk.need (k < x.n) Sk.ret))) (Sk.ite (o.k == (5 : Int)) (Sk.need ((0 : Int) ≤ x.el ∧ x.el < (↑(2 : Nat) : Int)) (Sk.need (x.el.toNat < (2 : Nat)) Sk.ret)) (Sk.ite (o.k == (6 : Int)) (Sk.need ((0 : Int) ≤ o.r ∧ o.r < (↑(4 : Nat) : Int)) (Sk.ite (decide (o.r = (↑(0 : Nat) : Int))) (Sk.ite x.c.n (Sk.need (k < x.n) Sk.ret) Sk.ret) (Sk.ite (decide (o.r = (↑((0 : Nat) + (1 : Nat)) : Int))) (Sk.ite x.c.z (Sk.need (k < x.n) Sk.ret) Sk.ret) (Sk.ite (decide (o.r = (↑((0 : Nat) + (1 : Nat) + (1 : Nat)) : Int))) (Sk.ite x.c.c (Sk.need (k < x.n) Sk.ret) Sk.ret) (Sk.ite (decide (o.r = (↑((0 : Nat) + (1 : Nat) + (1 : Nat) + (1 : Nat)) : Int))) (Sk.ite x.c.v (Sk.need (k < x.n) Sk.ret) Sk.ret) Sk.fail))))) (Sk.ite (o.k == (7 : Int)) (Sk.need ((0 : Int) ≤ o.r ∧ o.r < (↑(4 : Nat) : Int)) (Sk.ite (decide (o.r = (↑(0 : Nat) : Int))) Sk.ret (Sk.ite (decide (o.r = (↑((0 : Nat) + (1 : Nat)) : Int))) Sk.ret (Sk.ite (decide (o.r = (↑((0 : Nat) + (1 : Nat) + (1 : Nat)) : Int))) Sk.ret (Sk.ite (decide (o.r = (↑((0 : Nat) + (1 : Nat) + (1 : Nat) + (1 : Nat)) : Int))) Sk.ret Sk.fail))))) (Sk.ite (o.k == (8 : Int)) (Sk.need ((1 : Int) ≤ o.r ∧ o.r ≤ (15 : Int)) (Sk.need (k < x.n) Sk.ret)).fit (Sk.ite (o.k == (13 : Int)) Sk.ret (Sk.ite (o.k == (14 : Int)) Sk.ret (Sk.ite (o.k == (15 : Int)) (Sk.ite (x.vals o.a.toNat != (0 : Int)) Sk.ret Sk.ret) (Sk.ite (o.k == (16 : Int)) Sk.ret (Sk.ite (o.k == (17 : Int)) Sk.ret (Sk.ite (o.k == (18 : Int)) Sk.ret (Sk.ite (bitsI BinOp.and IntKind.u64 (x.vals o.a.toNat) (7 : Int) != (0 : Int)) Sk.ret (Sk.ite (o.k == (9 : Int)) Sk.ret (Sk.ite (o.k == (11 : Int)) Sk.ret (Sk.ite (o.k == (10 : Int)) Sk.ret (Sk.ite (o.k == (12 : Int)) Sk.ret Sk.ret)))))))))))))))))))))))))) Sk.ret

theorem nx_sk (x : Rn) (h : Nat → Value) : (nxRound x h).sk = nxSk x x.o x.ki x.ki.toNat := by kernel_rfl

noncomputable def nxTo (h : Nat → Value) (p : Mode × Rn) : Option (Ex × St) → Prop := KL 3 [2, 3] h .normal ⟨nxS, ⟨p.2.objs p.1, 1⟩⟩

end Go.Proofs.YtomeoihdhkmamaaDoor
