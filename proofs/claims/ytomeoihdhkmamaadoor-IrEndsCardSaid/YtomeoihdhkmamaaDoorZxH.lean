/- The symbolic evaluator: memory, calls, code. -/
import Derived.Test.YtomeoihdhkmamaaDoorZxB
import Derived.StillTail
set_option linter.unusedVariables false
set_option linter.unusedSimpArgs false
namespace Go.X
noncomputable section

inductive Ex where
  | normal
  | exit (id : Nat)
  | ret

structure Env where
  eqs : List TypeId
  ext : FuncId → Option (List V → Mem → T (V × Option Mem))
  sum : FuncId → Nat → Option (St → T (Ex × St))
  idle : FuncId → Option Nat
  esc : FuncId → Bool
  plan : FuncId → Nat → Option (Nat × List (List Nat))

/-! ### Operations that write memory -/

def repl (n : Nat) (l : List V) : List V :=
  match n with
  | 0 => []
  | n + 1 => l ++ repl n l

/-- The cells of a slice of a length that is no literal. -/
def srcSym (vs : List V) (a : A) (n sz : Nat) : T (List V) :=
  match vs, a.s with
  | [.arr k s f], 0 => bif Nat.beq s sz && Nat.beq a.o 0 then .need (n ≤ k) (.ret [.arr n s f]) else .fail
  | [.arr k s f], s' + 1 => bif Nat.beq s sz && (Nat.beq (s' + 1) sz && Nat.beq a.o 0) then .need (a.i + n ≤ k) (.ret [.arr n s (fun j => f (a.i + j))]) else .fail
  | _, _ => .fail

/-- What is appended or copied: how many elements; no literal?; their cells. -/
def srcV (m : Mem) (sz : Nat) : V → T (Nat × Bool × List V)
  | .nilSlice => .ret (0, false, [])
  | .slice a n _ sy => match objL m.objs a.id with
    | some (.cells _ _ _ vs) => bif Nat.beq a.j 0 then
        bif sy then (srcSym vs a n sz).bind fun cs => .ret (n, true, cs)
        else (match a.s with
          | 0 => opt (ldC vs a.o (n * sz))
          | _ + 1 => bif Nat.beq n 1 then ldA vs a sz else .fail).bind fun cs => .ret (n, false, cs)
      else .fail
    | _ => .fail
  | .str s sy => bif sy then .ret (s.size, true, [.arr s.size 1 (fun k => [.sint .u8 (s.data.toList.getD k 0).toNat])])
    else .ret (s.size, false, s.data.toList.map fun b => .int .u8 b.toNat)
  | _ => .fail

def isSl (P : Program) (t : TypeId) : Bool := match P.underlying t with | some (.slice _) => true | some .string => true | _ => false

def bytesT (P : Program) (t : TypeId) : Option Nat := (P.info? t).map (·.bytes)

/-- The zero value is known, and of the right size. -/
def zeroOk (P : Program) (e : TypeId) (sz : Nat) : Bool :=
  match zeroT P e with
  | some z => match z.lay with
    | some cs => Nat.beq (wds cs) sz
    | none => false
  | none => false

/-- A string's bytes are appended to bytes alone. -/
def srcFits (y : V) (sz : Option Nat) : Bool :=
  match y with
  | .str _ _ => match sz with
    | some n => Nat.beq n 1
    | none => false
  | _ => true

/-- append -/
def appendV (P : Program) (m : Mem) (t t2 : TypeId) (x y : V) : T (V × Mem) :=
  match P.underlying t with
  | some (.slice e) => match sizeT P e, bytesT P e, isSl P t2 && srcFits y (sizeT P e), (sizeT P e).map (zeroOk P e) with
    | some sz, some (by0 + 1), true, some true => (srcV m sz y).bind fun r =>
      let by_ := by0 + 1
      let k := r.1
      let sy := r.2.1
      let new := r.2.2
      let N := m.objs.length
      match x with
      | .nilSlice => bif !sy && Nat.beq k 0 then .ret (.nilSlice, m) else
          ask sy (k * by_ ≤ 140737488355328) (.ret (.slice (ptrTo N) k (.rest sz) sy, m.push (.cells true e true new)))
      | .slice a n c sx => (srcV m sz (.slice a n c sx)).bind fun q =>
          match c with
          | .known cap => bif sx || sy then .fail else
              bif Nat.beq k 0 then .ret (.slice a n c false, m) else
              bif Nat.ble (n + k) cap then
                match objL m.objs a.id, a.s with
                | some (.cells true e' sp vs), 0 => bif Nat.beq a.j 0 then
                    (opt (stC vs (a.o + n * sz) (k * sz) new)).bind fun vs' => .ret (.slice a (n + k) c false, { objs := setL m.objs a.id (.cells true e' sp vs'), low := min m.low a.id })
                  else .fail
                | _, _ => .fail
              else ask false ((n + k) * by_ ≤ 140737488355328) (.ret (.slice (ptrTo N) (n + k) (.rest sz) false, m.push (.cells true e true (q.2.2 ++ new))))
          | .rest e' => match objL m.objs a.id, a.s with
            | some (.cells true e2 _ _), 0 => bif Nat.beq e' sz && (Nat.beq a.o 0 && (Nat.beq a.j 0 && Nat.beq e2 e)) then
                ask (sx || sy) ((n + k) * by_ ≤ 140737488355328)
                  (.ret (.slice (ptrTo N) (n + k) (.rest sz) (sx || sy), { objs := setL m.objs a.id .dead ++ [.cells true e true (q.2.2 ++ new)], low := min m.low a.id }))
              else .fail
            | _, _ => .fail
      | _ => .fail
    | _, _, _, _ => .fail
  | _ => .fail

/-- make -/
def makeV (P : Program) (m : Mem) (t : TypeId) (l c : V) : T (V × Mem) :=
  match P.underlying t, isInt l, isInt c with
  | some (.slice e), some (_, l, s1), some (_, c, s2) =>
    match P.info? e with
    | some i => match i.zero with
      | some z => match (ofVal z).lay with
        | some cs => bif Nat.beq (wds cs) i.size then
            ask (s1 || s2) (0 ≤ l ∧ l ≤ c ∧ (i.bytes : Int) * c ≤ 281474976710656 ∧ c ≤ 9223372036854775807)
              (.ret (.slice (ptrTo m.objs.length) l.toNat (.known c.toNat) (s1 || s2),
                m.push (.cells true e false (bif s1 || s2 then [.arr c.toNat (wds cs) (fun _ => cs)] else repl c.toNat cs))))
          else .fail
        | none => .fail
      | none => .fail
    | none => .fail
  | _, _, _ => .fail

def memOp (P : Program) (m : Mem) (tm : List V) : Op → Option (T (V × Mem))
  | .alloc e => some (match zeroT P e with
    | some z => match z.lay with
      | some cs => .ret (.ptr (ptrTo m.objs.length), m.push (.cells true e false cs))
      | none => .fail
    | none => .fail)
  | .box e x => some (match (ev tm x).lay with
      | some cs => .ret (.ptr (ptrTo m.objs.length), m.push (.cells true e false cs))
      | none => .fail)
  | .buildSlice t n parts => some (match P.underlying t with
    | some (.slice e) => match sizeT P e, zeroT P e with
      | some sz, some z => match z.lay with
        | some cs => bif Nat.ble (n * sz) 16777216 && (Nat.beq (wds cs) sz && Nat.blt 0 (n * sz)) then
            (opt (buildCells P (fun i => some (i * sz, sz)) (repl n cs) (evP tm parts.toList))).bind fun cs =>
              .ret (.slice (ptrTo m.objs.length) n (.known n) false, m.push (.cells true e false cs))
          else .fail
        | none => .fail
      | _, _ => .fail
    | _ => .fail)
  | .store t a x => some (match ev tm a with
    | .ptr a => (stV P m t a (ev tm x)).bind fun m' => .ret (.unk, m')
    | _ => .fail)
  | .call { callee := .builtin .append, args := ⟨[x, y]⟩, argTypes := ⟨[t, t2]⟩ } => some (appendV P m t t2 (ev tm x) (ev tm y))
  | .makeSlice t l c => some (makeV P m t (ev tm l) (ev tm c))
  | _ => none

def byteOf : List V → UInt8
  | [.int .u8 x] => UInt8.ofNat x.toNat
  | [.sint .u8 x] => UInt8.ofNat x.toNat
  | _ => 0

def byteOk : List V → Prop
  | [.int .u8 x] => 0 ≤ x ∧ x < 256
  | [.sint .u8 x] => 0 ≤ x ∧ x < 256
  | _ => False

/-- Cells as bytes. -/
def bytesV : List V → T (List UInt8 × Bool)
  | [] => .ret ([], false)
  | .int .u8 k :: vs => ask false (0 ≤ k ∧ k < 256) ((bytesV vs).bind fun r => .ret (UInt8.ofNat k.toNat :: r.1, r.2))
  | .sint .u8 k :: vs => .need (0 ≤ k ∧ k < 256) ((bytesV vs).bind fun r => .ret (UInt8.ofNat k.toNat :: r.1, true))
  | .arr n s f :: vs => bif Nat.beq s 1 then .need (∀ k, k < n → byteOk (f k)) ((bytesV vs).bind fun r => .ret ((List.range n).map (fun k => byteOf (f k)) ++ r.1, true)) else .fail
  | _ => .fail

/-- What package strings does behind a Builder's back. -/
def memOp2 (P : Program) (E : Env) (m : Mem) (tm : List V) : Op → Option (T (V × Mem))
  | .convert s d x => match ev tm x with
    | .ptr a => some (match P.underlying s, P.underlying d, objL m.objs a.id with
      | some (.pointer t), some .unsafePointer, some (.cells true e sp vs) => match P.info? t with
        | some i => bif !(Nat.beq i.size 0) && (Nat.blt a.o (wds vs) && (Nat.beq a.j 0 && Nat.beq a.s 0)) then .ret (.ptr a, m) else .fail
        | none => .fail
      | some .unsafePointer, some (.pointer u), some (.cells true e false vs) => bif (P.info? u).isSome && (liesAt P P.depth e (wds vs / P.cellsOf e) a.o u 1 && (Nat.beq a.j 0 && Nat.beq a.s 0)) then .ret (.ptr a, m) else .fail
      | _, _, _ => .fail)
    | _ => none
  | .call { callee := .value f, args := ⟨[x]⟩, .. } => match ev tm f with
    | .func (.func g) [] [] => bif E.esc g then some (.ret (ev tm x, m)) else none
    | _ => none
  | .call { callee := .builtin .unsafeSliceData, args := ⟨[x]⟩, .. } => some (match ev tm x with
    | .slice a n _ sy => ask sy (0 < n) (.ret (.ptr a, m))
    | _ => .fail)
  | .call { callee := .builtin .unsafeString, args := ⟨[p, l]⟩, argTypes := ⟨[pt, _]⟩ } => some (match ev tm p, isInt (ev tm l), P.underlying pt with
    | .ptr a, some (k, n, sy), some (.pointer e') => match objL m.objs a.id with
      | some (.cells true e sp vs) => bif Nat.beq e e' && (Nat.beq (P.cellsOf e) 1 && (Nat.beq a.o 0 && (Nat.beq a.j 0 && Nat.beq a.s 0))) then
          (bytesV vs).bind fun r => ask (sy || r.2) (k = .i64 ∧ n = r.1.length ∧ 0 < n ∧ n ≤ 9223372036854775807) (.ret (.str ⟨r.1.toArray⟩ (sy || r.2), { objs := setL m.objs a.id (.cells false e sp vs), low := min m.low a.id }))
        else .fail
      | _ => .fail
    | _, _, _ => .fail)
  | _ => none

/-! ### Calls -/

/-- Has it a body? -/
def fnB (P : Program) (f : FuncId) : Bool :=
  match P.funcs[f]? with
  | some fn => fn.body.isSome
  | none => false

def callOf (P : Program) (tm : List V) : Op → Option (FuncId × List V)
  | .call { callee := .value f, args, .. } => match ev tm f with
    | .func (.func g) first captured => bif fnB P g then some (g, first ++ (evL tm args.toList ++ captured)) else none
    | _ => none
  | _ => none

/-- What may be handed out where only the objects below N stand. -/
def ok1 (N : Nat) : V → Bool
  | .bool _ | .sbool _ | .int _ _ | .sint _ _ | .str _ _ | .nil | .nilSlice | .nilMap | .nilFunc | .nilIface => true
  | .ptr a => Nat.blt a.id N
  | .sptr _ a => Nat.blt a.id N
  | .slice a _ _ _ => Nat.blt a.id N
  | .map r => Nat.blt r.id N
  | .func _ [] [] => true
  | .unks _ => true
  | .arr _ _ _ => true
  | _ => false

def ok2 (N : Nat) : V → Bool
  | .agg cs => cs.all (ok1 N)
  | .iface _ v => ok1 N v
  | v => ok1 N v

def ok3 (N : Nat) : V → Bool
  | .tuple vs => vs.all (ok2 N)
  | v => ok2 N v

def isArr : V → Bool
  | .arr _ _ _ => true
  | _ => false

def arr2 : V → Bool
  | .agg cs => cs.any isArr
  | v => isArr v

def arr3 : V → Bool
  | .tuple vs => vs.any arr2
  | v => arr2 v

def nee1 (N : Nat) : V → Prop
  | .arr n _ f => ∀ k, k < n → (f k).all (fun v => ok1 N v && !isArr v) = true
  | _ => True

def neeL (N : Nat) : List V → Prop
  | [] => True
  | v :: vs => nee1 N v ∧ neeL N vs

def nee2 (N : Nat) : V → Prop
  | .agg cs => neeL N cs
  | v => nee1 N v

def neeT (N : Nat) : List V → Prop
  | [] => True
  | v :: vs => nee2 N v ∧ neeT N vs

def nee3 (N : Nat) : V → Prop
  | .tuple vs => neeT N vs
  | v => nee2 N v

def replU : Nat → List V
  | 0 => []
  | n + 1 => .unk :: replU n

def resL (P : Program) (st : St) : List ResultVar → T (List V)
  | [] => .ret []
  | .tmp t :: rs => (resL P st rs).bind fun l => .ret (getL st.tm t :: l)
  | .cell a t :: rs => match getL st.tm a with
    | .ptr p => (ldV P st.mem t p).bind fun v => (resL P st rs).bind fun l => .ret (v :: l)
    | _ => .fail

def resV (P : Program) (fn : Func) (st : St) : T V :=
  (resL P st fn.results.toList).bind fun l => match l with
    | [v] => .ret v
    | l => .ret (.tuple l)

/-- The end of a call: what it made goes, if nothing of it is handed out and nothing that was there was written. -/
def finish (m : Mem) (v : V) (m' : Mem) : T (V × Option Mem) :=
  bif Nat.ble m.objs.length m'.low && ok3 m.objs.length v then
    (bif arr3 v then .need (nee3 m.objs.length v) (.ret (v, none)) else .ret (v, none))
  else .ret (v, some { m' with low := min m.low m'.low })

def callBody (P : Program) (E : Env) (run : FuncId → Code → St → T (Ex × St)) (f : FuncId) (args : List V) (m : Mem) : T (V × Option Mem) :=
  match E.ext f with
  | some g => g args m
  | none => match P.funcs[f]? with
    | some fn => match fn.body with
      | some c => (run f c { tm := args ++ replU (fn.ntmps - args.length), mem := { m with low := m.objs.length } }).bind fun r =>
        match r.1 with
        | .exit _ => .fail
        | _ => (resV P fn r.2).bind fun v => finish m v r.2.mem
      | none => .fail
    | none => .fail

/-! ### Regions -/

def guardV (ops : List Oper) (tm : List V) (j : Nat) (want : Bool) : T (Bool × List V) :=
  match objL ops j with
  | some o => match o.dst with
    | some d => match getL tm d with
      | .bool b => .ret (b == want, tm)
      | .sbool b => .ite b (.ret (want, setL tm d (.bool true))) (.ret (!want, setL tm d (.bool false)))
      | .tuple [] => .ret (false, tm)
      | _ => .fail
    | none => .fail
  | none => .fail

/-- One operation. -/
def op1 (P : Program) (E : Env) (call : FuncId → List V → Mem → T (V × Option Mem)) (o : Oper) (st : St) : T St :=
  match pureOp P E.eqs st.mem st.tm o.op with
  | some t => t.bind fun v => .ret (st.put o.dst v)
  | none => match callOf P st.tm o.op with
    | some (f, args) => (call f args st.mem).bind fun r => match r.2 with
      | none => .ret (st.put o.dst r.1)
      | some m' => .ret ((St.mk st.tm m').put o.dst r.1)
    | none => match memOp P st.mem st.tm o.op with
      | some t => t.bind fun r => .ret ((St.mk st.tm r.2).put o.dst r.1)
      | none => match memOp2 P E st.mem st.tm o.op with
        | some t => t.bind fun r => .ret ((St.mk st.tm r.2).put o.dst r.1)
        | none => .fail

/-- A deferred call that does nothing where the function returns. -/
def deferOf (P : Program) (E : Env) (tm : List V) : Op → Bool
  | .defer { callee := .value f, args := ⟨[]⟩, .. } => match ev tm f with
    | .func (.func g) [] captured => match E.idle g with
      | some k => fnB P g && Nat.beq captured.length k
      | none => false
    | _ => false
  | _ => false

def isDefer : Op → Bool
  | .defer _ => true
  | _ => false

def runOps1 (P : Program) (E : Env) (call : FuncId → List V → Mem → T (V × Option Mem)) (ops : List Oper) (o : Oper) (next : St → T St) (st : St) : T St :=
  match o.guard with
  | none => bif isDefer o.op then (bif deferOf P E st.tm o.op then next (st.put o.dst (.tuple [])) else .fail)
    else (op1 P E call o st).bind next
  | some (j, want) => (guardV ops st.tm j want).bind fun r =>
    bif r.1 then (op1 P E call o { st with tm := r.2 }).bind next
    else next ((St.mk r.2 st.mem).put o.dst (.tuple []))

def runOps (P : Program) (E : Env) (call : FuncId → List V → Mem → T (V × Option Mem)) (ops : List Oper) (l : List Oper) (st : St) : T St :=
  List.rec (motive := fun _ => St → T St) (fun st => .ret st) (fun o _ ih st => runOps1 P E call ops o ih st) l st

/-! ### Regions that draw their order: a head in whatever order, whose operations leave alone what was there; a tail in its order -/

def inL (l : List Nat) (i : Nat) : Bool := List.rec (motive := fun _ => Bool) false (fun x _ ih => bif Nat.beq i x then true else ih) l

def maskL (l : List Nat) (i : Nat) (tm : List V) : List V :=
  List.rec (motive := fun _ => Nat → List V) (fun _ => []) (fun v _ ih i => (bif inL l i then v else .unk) :: ih (i + 1)) tm i

theorem maskL_nil (l : List Nat) (i : Nat) : maskL l i [] = [] := rfl
theorem maskL_cons (l : List Nat) (i : Nat) (v : V) (vs : List V) : maskL l i (v :: vs) = (bif inL l i then v else .unk) :: maskL l (i + 1) vs := rfl
theorem inL_any : ∀ (l : List Nat) (i : Nat), inL l i = l.any (Nat.beq i)
  | [], _ => rfl
  | x :: l, i => by
    show (bif Nat.beq i x then true else inL l i) = _
    rw [inL_any l i, List.any_cons]
    cases Nat.beq i x <;> rfl

/-- What an operation waits for. -/
def direct (ops : List Oper) (k : Nat) : List Nat :=
  match objL ops k with
  | some o => (o.after.toList.filter fun e => Region.binds .any e).map (·.on)
  | none => []

def nth (l : List (List Nat)) (k : Nat) : List Nat :=
  match objL l k with
  | some x => x
  | none => []

/-- .. with what these wait for, and so on: of the first n. -/
def ancs (ops : List Oper) : Nat → List (List Nat)
  | 0 => []
  | k + 1 => match ancs ops k with
    | l => l ++ [(List.range k).filter fun i => (direct ops k).any fun j => Nat.beq i j || (nth l j).any (Nat.beq i)]

def deads (l : List O) : List O := List.rec (motive := fun _ => List O) [] (fun _ _ ih => .dead :: ih) l

/-- What an operation may look at of what those ahead of it made: what those made for which it waits. -/
def padL (anc : List Nat) (j : Nat) (l : List (List O)) : List O :=
  List.rec (motive := fun _ => Nat → List O) (fun _ => []) (fun s _ ih j => (bif anc.any (Nat.beq j) then s else deads s) ++ ih (j + 1)) l j

theorem padL_nil (anc : List Nat) (j : Nat) : padL anc j [] = [] := rfl
theorem padL_cons (anc : List Nat) (j : Nat) (s : List O) (r : List (List O)) : padL anc j (s :: r) = (bif anc.any (Nat.beq j) then s else deads s) ++ padL anc (j + 1) r := rfl

def stepH (P : Program) (E : Env) (call : FuncId → List V → Mem → T (V × Option Mem)) (ops : Array Oper) (o : Oper) (tm : List V) (objs : List O) : T (V × List O) :=
  (op1 P E call o { tm := maskL (o.looksAt ops) 0 tm, mem := { objs := objs, low := objs.length } }).bind fun st =>
    bif Nat.ble objs.length st.mem.low then .ret (match o.dst with | some d => getL st.tm d | none => .unk, st.mem.objs.drop objs.length) else .fail

def putL (tm : List V) (d : Option Tmp) (v : V) : List V :=
  match d with
  | some d => setL tm d v
  | none => tm

def runHead1 (P : Program) (E : Env) (call : FuncId → List V → Mem → T (V × Option Mem)) (ops : Array Oper) (anc : List (List Nat)) (base : List O) (o : Oper) (k : Nat) (next : List V → List (List O) → T (List V × List (List O))) (tm : List V) (segs : List (List O)) : T (List V × List (List O)) :=
  match o.guard with
  | none => (stepH P E call ops o tm (base ++ padL (nth anc k) 0 segs)).bind fun r => next (putL tm o.dst r.1) (segs ++ [r.2])
  | some (j, want) => (guardV ops.toList tm j want).bind fun g =>
    bif g.1 then (stepH P E call ops o g.2 (base ++ padL (nth anc k) 0 segs)).bind fun r => next (putL g.2 o.dst r.1) (segs ++ [r.2])
    else next (putL g.2 o.dst (.tuple [])) (segs ++ [[]])

def runHead (P : Program) (E : Env) (call : FuncId → List V → Mem → T (V × Option Mem)) (ops : Array Oper) (anc : List (List Nat)) (base : List O) (k : Nat) (l : List Oper) (tm : List V) (segs : List (List O)) : T (List V × List (List O)) :=
  List.rec (motive := fun _ => Nat → List V → List (List O) → T (List V × List (List O))) (fun _ tm segs => .ret (tm, segs)) (fun o _ ih k tm segs => runHead1 P E call ops anc base o k (ih (k + 1)) tm segs) l k tm segs

theorem runHead_cons (P : Program) (E : Env) (call : FuncId → List V → Mem → T (V × Option Mem)) (ops : Array Oper) (anc : List (List Nat)) (base : List O) (k : Nat) (o : Oper) (rest : List Oper) (tm : List V) (segs : List (List O)) :
    runHead P E call ops anc base k (o :: rest) tm segs = runHead1 P E call ops anc base o k (runHead P E call ops anc base (k + 1) rest) tm segs := rfl

def apartAt (ops : Array Oper) (j k : Nat) : Bool :=
  match objL ops.toList j, objL ops.toList k with
  | some x, some y => x.apart ops y
  | _, _ => false

def listedN (size n : Nat) : Array Bool := (List.replicate n true ++ List.replicate (size - n) false).toArray

/-- n operations may come in whatever order, the others come behind them, in their order. -/
def headB (ops : Array Oper) (n : Nat) : Bool :=
  Region.noSelect ops && (Nat.ble n ops.size && ((Nat.beq n ops.size || (Region.sinkB .any ops n && Region.chainB .any ops n)) &&
  ((List.range ops.size).all (fun k => (direct ops.toList k).all fun i => Nat.blt i k) &&
  ((List.range n).all (fun k => (List.range k).all fun j => (direct ops.toList k).any (Nat.beq j) || apartAt ops j k) &&
  Region.seqB .any ops (ops.size - n) n (listedN ops.size n)))))

def findN (ops : Array Oper) : Nat → Nat → Option Nat
  | 0, _ => none
  | f + 1, n => bif headB ops n then some n else findN ops f (n + 1)

/-- Where the tail may begin. -/
def chainN (ops : Array Oper) : Nat → Nat
  | 0 => 0
  | t + 1 => bif (direct ops.toList t).any (fun i => Nat.beq (i + 1) t) then chainN ops t else t

def planOf (ops : Array Oper) : Option (Nat × List (List Nat)) :=
  match findN ops (ops.size + 1) (chainN ops ops.size) with
  | some n => some (n, ancs ops.toList n)
  | none => none

def runDraw (P : Program) (E : Env) (call : FuncId → List V → Mem → T (V × Option Mem)) (n : Nat) (anc : List (List Nat)) (ops : Array Oper) (st : St) : T St :=
  (runHead P E call ops anc st.mem.objs 0 (ops.toList.take n) st.tm []).bind fun r =>
      runOps P E call ops.toList (ops.toList.drop n) { tm := r.1, mem := { objs := st.mem.objs ++ r.2.flatten, low := st.mem.low } }

/-! ### Code -/

/-- A plan in a list of plans. -/
def planIn : List (Nat × Nat × List (List Nat)) → Nat → Option (Nat × List (List Nat))
  | [], _ => none
  | (i, r) :: l, id => bif Nat.beq i id then some r else planIn l id

def planBy : List (Nat × List (Nat × Nat × List (List Nat))) → Nat → Nat → Option (Nat × List (List Nat))
  | [], _, _ => none
  | (g, r) :: l, f, id => bif Nat.beq g f then planIn r id else planBy l f id

/-- The first region of a piece of code: a loop's name. -/
def firstRegion : Code → Nat
  | .region id _ _ => id
  | .seq a _ => firstRegion a
  | .block _ c => firstRegion c
  | .scope c => firstRegion c
  | _ => 0

/-- The loops of a piece of code. -/
def loops : Code → List Code
  | .seq a b => loops a ++ loops b
  | .cond _ a b => loops a ++ loops b
  | .block _ c => loops c
  | .loop b => b :: loops b
  | .scope c => loops c
  | _ => []

/-- The regions of a piece of code that draw their order. -/
def draws : Code → List (Nat × Array Oper)
  | .region id ops true => [(id, ops)]
  | .seq a b => draws a ++ draws b
  | .cond _ a b => draws a ++ draws b
  | .block _ c => draws c
  | .loop b => draws b
  | .scope c => draws c
  | _ => []

def litB (tm : List V) (c : Operand) (b : Bool) : List V :=
  match c with
  | .tmp t => setL tm t (.bool b)
  | _ => tm

def exec1 (P : Program) (E : Env) (ex : FuncId → Code → St → T (Ex × St)) (f : FuncId) (c : Code) (st : St) : T (Ex × St) :=
  match c with
  | .skip => .ret (.normal, st)
  | .region id ops draw =>
    bif draw then
      match E.plan f id with
      | some (k, anc) => (runDraw P E (callBody P E ex) k anc ops st).bind fun st => .ret (.normal, st)
      | none => match planOf ops with
        | some (k, anc) => (runDraw P E (callBody P E ex) k anc ops st).bind fun st => .ret (.normal, st)
        | none => .fail
    else (runOps P E (callBody P E ex) ops.toList ops.toList st).bind fun st => .ret (.normal, st)
  | .seq a b => (ex f a st).bind fun r => match r.1 with
    | .normal => ex f b r.2
    | e => .ret (e, r.2)
  | .cond c a b => match ev st.tm c with
    | .bool true => ex f a st
    | .bool false => ex f b st
    | .sbool x => .ite x (ex f a { st with tm := litB st.tm c true }) (ex f b { st with tm := litB st.tm c false })
    | _ => .fail
  | .block id body => (ex f body st).bind fun r => match r.1 with
    | .exit i => bif Nat.beq i id then .ret (.normal, r.2) else .ret (.exit i, r.2)
    | e => .ret (e, r.2)
  | .loop body => match E.sum f (firstRegion body) with
    | some g => g st
    | none => (ex f body st).bind fun r => match r.1 with
      | .normal => ex f (.loop body) r.2
      | e => .ret (e, r.2)
  | .exit id => .ret (.exit id, st)
  | .ret => .ret (.ret, st)
  | .label _ => .ret (.normal, st)
  | _ => .fail

def exec (P : Program) (E : Env) (n : Nat) : FuncId → Code → St → T (Ex × St) :=
  Nat.rec (motive := fun _ => FuncId → Code → St → T (Ex × St)) (fun _ _ _ => .fail) (fun _ ih f c st => exec1 P E ih f c st) n

theorem exec_succ (P : Program) (E : Env) (n : Nat) (f : FuncId) (c : Code) (st : St) : exec P E (n + 1) f c st = exec1 P E (exec P E n) f c st := rfl

/-- A call. -/
def call (P : Program) (E : Env) (n : Nat) : FuncId → List V → Mem → T (V × Option Mem) := callBody P E (exec P E n)

end
end Go.X
