/- The symbolic evaluator: what it computes. -/
import Derived.Test.YtomeoihdhkmamaaDoorZxA
set_option linter.unusedVariables false
set_option linter.unusedSimpArgs false
namespace Go.X
noncomputable section

structure Mem where
  objs : List O
  low : Nat

structure St where
  tm : List V
  mem : Mem

def setL {α : Type} (l : List α) (n : Nat) (a : α) : List α :=
  List.rec (motive := fun _ => Nat → List α) (fun _ => []) (fun b l ih n => Nat.rec (motive := fun _ => List α) (a :: l) (fun m _ => b :: ih m) n) l n

theorem setL_nil {α : Type} (n : Nat) (a : α) : setL [] n a = [] := rfl
theorem setL_zero {α : Type} (b : α) (l : List α) (a : α) : setL (b :: l) 0 a = a :: l := rfl
theorem setL_succ {α : Type} (b : α) (l : List α) (n : Nat) (a : α) : setL (b :: l) (n + 1) a = b :: setL l n a := rfl

def getL (l : List V) (n : Nat) : V :=
  List.rec (motive := fun _ => Nat → V) (fun _ => .unk) (fun v _ ih n => Nat.rec (motive := fun _ => V) v (fun m _ => ih m) n) l n

theorem getL_nil (n : Nat) : getL [] n = .unk := rfl
theorem getL_zero (v : V) (l : List V) : getL (v :: l) 0 = v := rfl
theorem getL_succ (v : V) (l : List V) (n : Nat) : getL (v :: l) (n + 1) = getL l n := rfl

def St.put (st : St) (d : Option Tmp) (v : V) : St :=
  match d with
  | some d => { st with tm := setL st.tm d v }
  | none => st

/-! ### Cells -/

def V.cells : V → List V
  | .agg cs => cs
  | v => [v]

def wd : V → Nat
  | .unks n => n
  | .arr n s _ => n * s
  | _ => 1

def wds (l : List V) : Nat := List.rec (motive := fun _ => Nat) 0 (fun v _ ih => wd v + ih) l

theorem wds_nil : wds [] = 0 := rfl
theorem wds_cons (v : V) (vs : List V) : wds (v :: vs) = wd v + wds vs := rfl

def cut (vs : List V) (o : Nat) : Option (List V × List V) :=
  List.rec (motive := fun _ => Nat → Option (List V × List V)) (fun o => Nat.rec (motive := fun _ => Option (List V × List V)) (some ([], [])) (fun _ _ => none) o)
    (fun v vs ih o => Nat.rec (motive := fun _ => Option (List V × List V)) (some ([], v :: vs)) (fun o _ =>
      bif Nat.ble (wd v) (o + 1) then
        match ih (o + 1 - wd v) with
        | some (l, r) => some (v :: l, r)
        | none => none
      else none) o) vs o

theorem cut_zero : ∀ vs : List V, cut vs 0 = some ([], vs)
  | [] => rfl
  | _ :: _ => rfl
theorem cut_nil (o : Nat) : cut [] (o + 1) = none := rfl
theorem cut_cons (v : V) (vs : List V) (o : Nat) : cut (v :: vs) (o + 1) = bif Nat.ble (wd v) (o + 1) then
      match cut vs (o + 1 - wd v) with
      | some (l, r) => some (v :: l, r)
      | none => none
    else none := rfl

/-- sz cells from o on. -/
def mid (vs : List V) (o sz : Nat) : Option (List V) :=
  match cut vs o with
  | some (_, r) => match cut r sz with
    | some (m, _) => some m
    | none => none
  | none => none

/-- sz cells from o on, in other words. -/
def put (vs : List V) (o sz : Nat) (new : List V) : Option (List V) :=
  match cut vs o with
  | some (l, r) => match cut r sz with
    | some (_, r2) => some (l ++ (new ++ r2))
    | none => none
  | none => none

def V.sel (c : Bool) : V → V → V
  | .bool x, .bool y => .sbool (bif c then x else y)
  | .bool x, .sbool y => .sbool (bif c then x else y)
  | .sbool x, .bool y => .sbool (bif c then x else y)
  | .sbool x, .sbool y => .sbool (bif c then x else y)
  | .int k x, .int l y => bif decide (k = l) then .sint k (bif c then x else y) else .unk
  | .int k x, .sint l y => bif decide (k = l) then .sint k (bif c then x else y) else .unk
  | .sint k x, .int l y => bif decide (k = l) then .sint k (bif c then x else y) else .unk
  | .sint k x, .sint l y => bif decide (k = l) then .sint k (bif c then x else y) else .unk
  | .str x _, .str y _ => .str (bif c then x else y) true
  | .nil, .nil => .nil
  | .nil, .ptr a => .sptr c a
  | .ptr a, .nil => .sptr (!c) a
  | .nil, .sptr n a => .sptr (bif c then true else n) a
  | .sptr n a, .nil => .sptr (bif c then n else true) a
  | .ptr a, .ptr b => bif Nat.beq a.id b.id && (Nat.beq a.o b.o && Nat.beq a.s b.s) then .ptr { a with j := bif c then a.j else b.j, i := bif c then a.i else b.i } else .unk
  | .ptr a, .sptr n b => bif Nat.beq a.id b.id && (Nat.beq a.o b.o && Nat.beq a.s b.s) then .sptr (bif c then false else n) { a with j := bif c then a.j else b.j, i := bif c then a.i else b.i } else .unk
  | .sptr n a, .ptr b => bif Nat.beq a.id b.id && (Nat.beq a.o b.o && Nat.beq a.s b.s) then .sptr (bif c then n else false) { a with j := bif c then a.j else b.j, i := bif c then a.i else b.i } else .unk
  | .sptr n a, .sptr m b => bif Nat.beq a.id b.id && (Nat.beq a.o b.o && Nat.beq a.s b.s) then .sptr (bif c then n else m) { a with j := bif c then a.j else b.j, i := bif c then a.i else b.i } else .unk
  | .nilFunc, .nilFunc => .nilFunc
  | .nilSlice, .nilSlice => .nilSlice
  | .nilMap, .nilMap => .nilMap
  | .nilIface, .nilIface => .nilIface
  | _, _ => .unk

/-- Where both are cells that are told one by one. -/
def selL (c : Bool) : List V → List V → Option (List V)
  | [], [] => some []
  | v :: vs, u :: us =>
    match v, u with
    | .arr .., _ | _, .arr .. | .unks _, _ | _, .unks _ => none
    | v, u => match selL c vs us with
      | some l => some (V.sel c v u :: l)
      | none => none
  | _, _ => none

/-- Element i is another one. -/
def upd (s : Nat) (f : Nat → List V) (i : Nat) (e : List V) : Nat → List V := fun k =>
  match selL (decide (k = i)) e (f k) with
  | some l => l
  | none => [.unks s]

/-- In the run that a literal offset lies in. -/
def ldIn : List V → Nat → Nat → Option (List V)
  | [], _, _ => none
  | v :: vs, o, sz =>
    match v with
    | .arr n s f => bif Nat.ble (n * s) o then ldIn vs (o - n * s) sz else mid (f (o / s)) (o % s) sz
    | v => bif Nat.ble (wd v) o then ldIn vs (o - wd v) sz else none

def ldC (vs : List V) (o sz : Nat) : Option (List V) :=
  match mid vs o sz with
  | some m => some m
  | none => ldIn vs o sz

def stIn : List V → Nat → Nat → List V → Option (List V)
  | [], _, _, _ => none
  | v :: vs, o, sz, new =>
    match v with
    | .arr n s f =>
      bif Nat.ble (n * s) o then (stIn vs (o - n * s) sz new).map (v :: ·)
      else match put (f (o / s)) (o % s) sz new with
        | some e => some (.arr n s (upd s f (o / s) e) :: vs)
        | none => none
    | v => bif Nat.ble (wd v) o then (stIn vs (o - wd v) sz new).map (v :: ·) else none

def stC (vs : List V) (o sz : Nat) (new : List V) : Option (List V) :=
  match put vs o sz new with
  | some m => some m
  | none => stIn vs o sz new

/-- The run with a stride, at an offset: how many elements, which, the offset in each. -/
def findArr : List V → Nat → Nat → Option (Nat × (Nat → List V) × Nat)
  | [], _, _ => none
  | v :: vs, o, s =>
    match v with
    | .arr n s' f => bif Nat.beq s' s && Nat.blt o s then some (n, f, o) else bif Nat.ble (n * s') o then findArr vs (o - n * s') s else none
    | v => bif Nat.ble (wd v) o then findArr vs (o - wd v) s else none

def setArr (g : Nat → List V) : List V → Nat → Nat → Option (List V)
  | [], _, _ => none
  | v :: vs, o, s =>
    match v with
    | .arr n s' f => bif Nat.beq s' s && Nat.blt o s then some (.arr n s' g :: vs) else bif Nat.ble (n * s') o then (setArr g vs (o - n * s') s).map (v :: ·) else none
    | v => bif Nat.ble (wd v) o then (setArr g vs (o - wd v) s).map (v :: ·) else none

/-- One of some, by a number that is no literal. -/
def chainT {α : Type} (g : Nat → T α) (i : Int) : Nat → Nat → T α
  | _, 0 => .fail
  | k, d + 1 => .ite (decide (i = k)) (g k) (chainT g i (k + 1) d)

/-- The cells at a place. -/
def ldA (vs : List V) (a : A) (sz : Nat) : T (List V) :=
  match a.s with
  | 0 => opt (ldC vs a.o sz)
  | s + 1 => match findArr vs a.o (s + 1) with
    | some (n, f, r) => .need (a.i < n) (opt (mid (f a.i) r sz))
    | none => chainT (fun m => opt (ldC vs (a.o + m * (s + 1)) sz)) a.i 0 ((wds vs - a.o) / (s + 1))

def stA (vs : List V) (a : A) (sz : Nat) (new : List V) : T (List V) :=
  match a.s with
  | 0 => opt (stC vs a.o sz new)
  | s + 1 => match findArr vs a.o (s + 1) with
    | some (n, f, r) => match put (f a.i) r sz new with
      | some e => .need (a.i < n) (opt (setArr (upd (s + 1) f a.i e) vs a.o (s + 1)))
      | none => .fail
    | none => .fail

def isAggT (P : Program) (t : TypeId) : Option Bool :=
  match P.underlying t with
  | some (.struct _) => some true
  | some (.array _ _) => some true
  | some _ => some false
  | none => none

def sizeT (P : Program) (t : TypeId) : Option Nat := (P.info? t).map (·.size)

/-- Cells as the value of a type. -/
def asV (b : Bool) (cs : List V) : T V :=
  bif b then .ret (.agg cs) else
    match cs with
    | [.arr ..] => .fail
    | [.unks _] => .ret .unk
    | [v] => .ret v
    | _ => .fail

def objL {α : Type} (l : List α) (n : Nat) : Option α :=
  List.rec (motive := fun _ => Nat → Option α) (fun _ => none) (fun a _ ih n => Nat.rec (motive := fun _ => Option α) (some a) (fun m _ => ih m) n) l n

theorem objL_nil {α : Type} (n : Nat) : objL ([] : List α) n = none := rfl
theorem objL_zero {α : Type} (a : α) (l : List α) : objL (a :: l) 0 = some a := rfl
theorem objL_succ {α : Type} (a : α) (l : List α) (n : Nat) : objL (a :: l) (n + 1) = objL l n := rfl

def ldV (P : Program) (m : Mem) (t : TypeId) (a : A) : T V :=
  match isAggT P t, sizeT P t with
  | some b, some sz =>
    let sz := bif b then sz else 1
    match objL m.objs a.id with
    | some (.cells _ _ _ vs) => bif Nat.beq a.j 0 then (ldA vs a sz).bind (asV b) else .fail
    | some (.fam _ n f) => .need (a.j < n) ((ldA (f a.j) a sz).bind (asV b))
    | _ => .fail
  | _, _ => .fail

/-- May it be laid into one cell? -/
def V.one : V → Bool
  | .unk | .unks _ | .agg _ | .tuple _ | .arr .. | .held _ => false
  | _ => true

/-- The cells of a value that may be laid. -/
def V.lay : V → Option (List V)
  | .agg cs => some cs
  | v => bif v.one then some [v] else none

def stV (P : Program) (m : Mem) (t : TypeId) (a : A) (v : V) : T Mem :=
  match sizeT P t, v.lay with
  | some sz, some new =>
    bif Nat.beq (wds new) sz then match objL m.objs a.id with
    | some (.cells true e sp vs) => bif Nat.beq a.j 0 then (stA vs a sz new).bind fun vs' => .ret { objs := setL m.objs a.id (.cells true e sp vs'), low := min m.low a.id } else .fail
    | _ => .fail
    else .fail
  | _, _ => .fail

def Mem.push (m : Mem) (o : O) : Mem := { m with objs := m.objs ++ [o] }

def ptrTo (id : Nat) : A := ⟨id, 0, 0, 0, 0⟩

/-! ### Constants -/

def ofVal1 : Value → V
  | .bool b => .bool b
  | .int k n => .int k n
  | .string s => .str s false
  | .pointer none => .nil
  | .slice none 0 0 => .nilSlice
  | .map none => .nilMap
  | .nilFunc => .nilFunc
  | .nilIface => .nilIface
  | .func fn ⟨[]⟩ ⟨[]⟩ => .func fn [] []
  | _ => .unk

def ofCells (l : List Value) : List V := List.rec (motive := fun _ => List V) [] (fun v _ ih => ofVal1 v :: ih) l

def ofVal : Value → V
  | .agg cs => bif cs.toList.all (·.oneCell') then .agg (ofCells cs.toList) else .unk
  | .iface t v => .iface t (ofVal1 v)
  | v => ofVal1 v

def zeroT (P : Program) (t : TypeId) : Option V := match (P.info? t) with
  | some i => i.zero.map ofVal
  | none => none

def ev (tm : List V) : Operand → V
  | .tmp t => getL tm t
  | .const v => ofVal v
  | .func f => .func (.func f) [] []
  | .global _ => .unk

def evL (tm : List V) (l : List Operand) : List V := List.rec (motive := fun _ => List V) [] (fun x _ ih => ev tm x :: ih) l

/-! ### Operations that leave memory alone -/

def isInt : V → Option (IntKind × Int × Bool)
  | .int k n => some (k, n, false)
  | .sint k n => some (k, n, true)
  | _ => none

def isBool : V → Option (Bool × Bool)
  | .bool b => some (b, false)
  | .sbool b => some (b, true)
  | _ => none

def mkInt (sy : Bool) (k : IntKind) (n : Int) : V := bif sy then .sint k n else .int k n
def mkBool (sy : Bool) (b : Bool) : V := bif sy then .sbool b else .bool b

def bitsI (op : BinOp) (k : IntKind) (x y : Int) : Int :=
  match op with
  | .and => k.wrap (BitVec.ofInt k.bits x &&& BitVec.ofInt k.bits y).toNat
  | .or => k.wrap (BitVec.ofInt k.bits x ||| BitVec.ofInt k.bits y).toNat
  | .xor => k.wrap (BitVec.ofInt k.bits x ^^^ BitVec.ofInt k.bits y).toNat
  | _ => k.wrap (BitVec.ofInt k.bits x &&& ~~~BitVec.ofInt k.bits y).toNat

/-- A demand: looked at where all is literal. -/
def ask {α : Type} (sy : Bool) (p : Prop) [Decidable p] (t : T α) : T α := bif sy then .need p t else bif decide p then t else .fail

def intOp (sy : Bool) (op : BinOp) (k : IntKind) (x : Int) (k' : IntKind) (y : Int) : T V :=
  match op with
  | .shl => ask sy (0 ≤ y) (.ret (mkInt sy k (k.wrap (x * 2 ^ min y.toNat k.bits))))
  | .shr => ask sy (0 ≤ y) (.ret (mkInt sy k (x.fdiv (2 ^ min y.toNat k.bits))))
  | op => bif decide (k = k') then
    match op with
    | .add => .ret (mkInt sy k (k.wrap (x + y)))
    | .sub => .ret (mkInt sy k (k.wrap (x - y)))
    | .mul => .ret (mkInt sy k (k.wrap (x * y)))
    | .quo => ask sy (y ≠ 0) (.ret (mkInt sy k (k.wrap (x.tdiv y))))
    | .rem => ask sy (y ≠ 0) (.ret (mkInt sy k (x.tmod y)))
    | .and => .ret (mkInt sy k (bitsI .and k x y))
    | .or => .ret (mkInt sy k (bitsI .or k x y))
    | .xor => .ret (mkInt sy k (bitsI .xor k x y))
    | .andNot => .ret (mkInt sy k (bitsI .andNot k x y))
    | .eql => .ret (mkBool sy (x == y))
    | .neq => .ret (mkBool sy (x != y))
    | .lss => .ret (mkBool sy (decide (x < y)))
    | .leq => .ret (mkBool sy (decide (x ≤ y)))
    | .gtr => .ret (mkBool sy (decide (x > y)))
    | .geq => .ret (mkBool sy (decide (x ≥ y)))
    | _ => .fail
    else .fail

def field? (P : Program) (t : TypeId) (f : Nat) : Option Field :=
  match P.underlying t with
  | some (.struct fs) => objL fs.toList f
  | _ => none

def idxA (a : A) (i : Nat) (sz : Nat) : Option A :=
  match a.s with
  | 0 => some { a with i := i, s := sz }
  | s + 1 => bif Nat.beq (s + 1) sz then some { a with i := a.i + i } else none

/-- Two cells, are they the same? -/
def eqB : V → V → Option Bool
  | .bool x, .bool y => some (x == y)
  | .bool x, .sbool y => some (x == y)
  | .sbool x, .bool y => some (x == y)
  | .sbool x, .sbool y => some (x == y)
  | _, _ => none
def eqI : V → V → Option Bool
  | .int k x, .int l y => bif decide (k = l) then some (x == y) else none
  | .int k x, .sint l y => bif decide (k = l) then some (x == y) else none
  | .sint k x, .int l y => bif decide (k = l) then some (x == y) else none
  | .sint k x, .sint l y => bif decide (k = l) then some (x == y) else none
  | _, _ => none
def eqS : V → V → Option Bool
  | .str x _, .str y _ => some (x.toList == y.toList)
  | _, _ => none

/-! ### Equality -/

def andO : Option Prop → Option Prop → Option Prop
  | none, q => q
  | some p, none => some p
  | some p, some q => some (p ∧ q)

def holdsO : Option Prop → Prop
  | none => True
  | some p => p

def T.needO {α : Type} (o : Option Prop) (t : T α) : T α :=
  match o with
  | none => t
  | some p => .need p t

def eqFs (P : Program) (g : TypeId → List V → List V → Option (Option Prop × Bool)) (xs ys : List V) : List Field → Option (Option Prop × Bool)
  | [] => some (none, true)
  | f :: fs =>
    match sizeT P f.type with
    | some sz => match mid xs f.offset sz, mid ys f.offset sz with
      | some a, some b => match g f.type a b, eqFs P g xs ys fs with
        | some r, some r' => some (andO r.1 r'.1, r.2 && r'.2)
        | _, _ => none
      | _, _ => none
    | none => none

def intCell : List V → Option (IntKind × Int)
  | [v] => match isInt v with
    | some (k, n, _) => some (k, n)
    | none => none
  | _ => none
def okI (a b : List V) : Bool :=
  match intCell a, intCell b with
  | some (k, _), some (l, _) => decide (k = l)
  | _, _ => false
def valI (a : List V) : Int :=
  match intCell a with
  | some (_, n) => n
  | none => 0

/-- Are the values of a type the same? 'eqs': the struct types that may be asked. -/
def eqTy (P : Program) (eqs : List TypeId) : Nat → TypeId → List V → List V → Option (Option Prop × Bool)
  | 0, _, _, _ => none
  | d + 1, t, xs, ys =>
    match P.underlying t with
    | some (.struct fs) => bif eqs.any (Nat.beq t) then eqFs P (eqTy P eqs d) xs ys fs.toList else none
    | some .bool => match xs, ys with
      | [x], [y] => (eqB x y).map fun b => (none, b)
      | _, _ => none
    | some (.int _) => match xs, ys with
      | [x], [y] => (eqI x y).map fun b => (none, b)
      | _, _ => none
    | some .string => match xs, ys with
      | [x], [y] => (eqS x y).map fun b => (none, b)
      | _, _ => none
    | some (.array n e) => match d, P.underlying e, sizeT P e, xs, ys with
      | _ + 1, some (.int _), some 1, [.arr n1 1 f], [.arr n2 1 g] => bif Nat.beq n1 n && Nat.beq n2 n then
          some (some (∀ k, k < n → okI (f k) (g k) = true), (List.range n).all fun k => valI (f k) == valI (g k)) else none
      | _, _, _, _, _ => none
    | _ => none

def isPtrT (P : Program) (t : TypeId) : Bool := match P.underlying t with | some (.pointer _) => true | _ => false
def isPtrI (P : Program) (t : TypeId) : Bool := match P.underlying t with | some (.pointer e) => (P.info? e).isSome | _ => false
def isFuncT (P : Program) (t : TypeId) : Bool := match P.underlying t with | some (.func _ _ _) => true | _ => false
def isBoolT (P : Program) (t : TypeId) : Bool := match P.underlying t with | some .bool => true | _ => false
def isSliceT (P : Program) (t : TypeId) : Bool := match P.underlying t with | some (.slice _) => true | _ => false

/-- Is it so, is it no literal? -/
def eqV (P : Program) (eqs : List TypeId) (t : TypeId) (x y : V) : Option (Bool × Bool) :=
  match x, y with
  | .bool a, .bool b => bif isBoolT P t then some (a == b, false) else none
  | .bool a, .sbool b => bif isBoolT P t then some (a == b, true) else none
  | .sbool a, .bool b => bif isBoolT P t then some (a == b, true) else none
  | .sbool a, .sbool b => bif isBoolT P t then some (a == b, true) else none
  | .str a s, .str b s' => some (a.toList == b.toList, s || s')
  | .nil, .nil => bif isPtrT P t then some (true, false) else none
  | .nil, .ptr _ => bif isPtrT P t then some (false, false) else none
  | .ptr a, .ptr b => bif isPtrI P t && (Nat.beq a.id b.id && (Nat.beq a.j b.j && (Nat.beq a.o b.o && (Nat.beq a.s 0 && Nat.beq b.s 0)))) then some (true, false) else none
  | .ptr _, .nil => bif isPtrT P t then some (false, false) else none
  | .nil, .sptr n _ => bif isPtrT P t then some (n, true) else none
  | .sptr n _, .nil => bif isPtrT P t then some (n, true) else none
  | .nilFunc, .nilFunc => bif isFuncT P t then some (true, false) else none
  | .nilFunc, .func .. => bif isFuncT P t then some (false, false) else none
  | .func .., .nilFunc => bif isFuncT P t then some (false, false) else none
  | .nilSlice, .nilSlice => bif isSliceT P t then some (true, false) else none
  | .slice _ _ _ false, .nilSlice => bif isSliceT P t then some (false, false) else none
  | _, _ => none

def strOp (op : BinOp) (x y : ByteArray) (sy : Bool) : T V :=
  match op with
  | .add => ask sy (((x.size + y.size : Nat) : Int) ≤ 9223372036854775807) (.ret (.str (x ++ y) sy))
  | _ => .fail

/-- Two structs. -/
def eqAgg (P : Program) (eqs : List TypeId) (t : TypeId) (xs ys : List V) : T Bool :=
  bif eqs.any (Nat.beq t) then (opt (eqTy P eqs 20 t xs ys)).bind fun r => T.needO r.1 (.ret r.2) else .fail

def binV (P : Program) (eqs : List TypeId) (op : BinOp) (t : TypeId) (x y : V) : T V :=
  match isInt x, isInt y with
  | some (k, a, s), some (k', b, s') => intOp (s || s') op k a k' b
  | _, _ =>
    match op with
    | .eql => match x, y with
      | .agg xs, .agg ys => (eqAgg P eqs t xs ys).bind fun r => .ret (.sbool r)
      | _, _ => (opt (eqV P eqs t x y)).bind fun r => .ret (mkBool r.2 r.1)
    | .neq => match x, y with
      | .agg xs, .agg ys => (eqAgg P eqs t xs ys).bind fun r => .ret (.sbool (!r))
      | _, _ => (opt (eqV P eqs t x y)).bind fun r => .ret (mkBool r.2 (!r.1))
    | op => match x, y with
      | .str a s, .str b s' => strOp op a b (s || s')
      | _, _ => .fail

def unV (op : UnOp) (x : V) : T V :=
  match op, x with
  | .not, .bool b => .ret (.bool (!b))
  | .not, .sbool b => .ret (.sbool (!b))
  | .neg, .int k n => .ret (.int k (k.wrap (0 - n)))
  | .neg, .sint k n => .ret (.sint k (k.wrap (0 - n)))
  | .xor, .int k n => .ret (.int k (bitsI .xor k (if k.signed then -1 else k.max) n))
  | .xor, .sint k n => .ret (.sint k (bitsI .xor k (if k.signed then -1 else k.max) n))
  | _, _ => .fail

def convV (P : Program) (src dst : TypeId) (x : V) : T V :=
  match P.underlying src, P.underlying dst, x with
  | some _, some (.int k), .int _ n => .ret (.int k (k.wrap n))
  | some _, some (.int k), .sint _ n => .ret (.sint k (k.wrap n))
  | some _, some .string, .str s sy => .ret (.str s sy)
  | _, _, _ => .fail

/-! ### Places -/

def fieldAddrV (P : Program) (t : TypeId) (x : V) (f : Nat) : T V :=
  match field? P t f, x with
  | some fd, .ptr a => match sizeT P fd.type with
    | some (_ + 1) => .ret (.ptr { a with o := a.o + fd.offset })
    | _ => .fail
  | _, _ => .fail

def indexAddrV (P : Program) (t : TypeId) (x ix : V) : T V :=
  match isInt ix with
  | some (_, i, sy) =>
    match P.underlying t, x with
    | some (.array n e), .ptr a => match sizeT P e with
      | some sz => bif sy then .need (0 ≤ i ∧ i < n) ((opt (match a.s with | 0 => some { a with i := i.toNat, s := sz } | _ + 1 => none)).bind fun a => .ret (.ptr a))
        else ask false (0 ≤ i ∧ i < n) (.ret (.ptr { a with o := a.o + i.toNat * sz }))
      | none => .fail
    | some (.slice e), .slice a n _ sy' => match sizeT P e with
      | some sz => bif sy || sy' then .need (0 ≤ i ∧ i < n) ((opt (idxA a i.toNat sz)).bind fun a => .ret (.ptr a))
        else ask false (0 ≤ i ∧ i < n) (.ret (.ptr { a with o := a.o + i.toNat * sz }))
      | none => .fail
    | _, _ => .fail
  | none => .fail

def fieldV (P : Program) (t : TypeId) (x : V) (f : Nat) : T V :=
  match field? P t f, x with
  | some fd, .agg cs => match sizeT P fd.type, isAggT P fd.type with
    | some sz, some b => (opt (ldC cs fd.offset (bif b then sz else 1))).bind (asV b)
    | _, _ => .fail
  | _, _ => .fail

/-- An element of an array's value, a byte of a string. -/
def indexV (P : Program) (t : TypeId) (x ix : V) : T V :=
  match isInt ix with
  | some (_, i, sy) =>
    match P.underlying t, x with
    | some (.array n e), .agg cs => match sizeT P e, isAggT P e with
      | some sz, some b => bif sy then .need (0 ≤ i ∧ i < n) (chainT (fun m => (opt (ldC cs (m * sz) (bif b then sz else 1))).bind (asV b)) i 0 n) else ask false (0 ≤ i ∧ i < n) ((opt (ldC cs (i.toNat * sz) (bif b then sz else 1))).bind (asV b))
      | _, _ => .fail
    | some .string, .str s sy' => ask (sy || sy') (0 ≤ i ∧ i < s.size) (.ret (mkInt (sy || sy') .u8 ((s.data.toList.getD i.toNat 0).toNat)))
    | _, _ => .fail
  | none => .fail

def buildCells (P : Program) (place : Nat → Option (Nat × Nat)) : List V → List (Nat × V) → Option (List V)
  | cs, [] => some cs
  | cs, (i, v) :: rest =>
    match place i, v.lay with
    | some (o, sz), some new => bif Nat.beq (wds new) sz then
      match stC cs o sz new with
      | some cs' => buildCells P place cs' rest
      | none => none
      else none
    | _, _ => none

def placeF (P : Program) (fs : List Field) (i : Nat) : Option (Nat × Nat) :=
  match objL fs i with
  | some f => some (f.offset, (sizeT P f.type).getD 0)
  | none => none

def buildV (P : Program) (t : TypeId) (parts : List (Nat × V)) : T V :=
  match zeroT P t with
  | some (.agg z) =>
    match P.underlying t with
    | some (.struct fs) => bif fs.toList.all (fun f => (sizeT P f.type).isSome) then
      (opt (buildCells P (placeF P fs.toList) z parts)).bind fun cs => .ret (.agg cs)
      else .fail
    | some (.array _ e) => match sizeT P e with
      | some sz => (opt (buildCells P (fun i => some (i * sz, sz)) z parts)).bind fun cs => .ret (.agg cs)
      | none => .fail
    | _ => .fail
  | _ => .fail

def Cap.less : Cap → Nat → Cap
  | .known n, k => .known (n - k)
  | .rest e, _ => .rest e

/-- Fits the element's size? -/
def Cap.fits : Cap → Nat → Bool
  | .known _, _ => true
  | .rest e, sz => Nat.beq e sz

def bnd (d : Nat) : Option V → Option (Int × Bool)
  | none => some (d, false)
  | some v => match isInt v with
    | some (_, i, sy) => some (i, sy)
    | none => none

def sliceV (P : Program) (t : TypeId) (x : V) (lo hi : Option V) : T V :=
  match P.underlying t, x with
  | some (.slice e), .slice a n c sy =>
    match sizeT P e, bnd 0 lo, bnd n hi with
    | some sz, some (l, s1), some (h, s2) =>
      ask (sy || (s1 || s2)) (0 ≤ l ∧ l ≤ h ∧ h ≤ n) (
        match lo with
        | none => .ret (.slice a (h - l).toNat c (sy || (s1 || s2)))
        | some _ =>
          bif !(c.fits sz) then .fail else
          bif sy || (s1 || s2) then (opt (idxA a l.toNat sz)).bind fun a => .ret (.slice a (h - l).toNat (c.less l.toNat) true)
          else .ret (.slice { a with o := a.o + l.toNat * sz } (h - l).toNat (c.less l.toNat) false))
    | _, _, _ => .fail
  | some (.slice e), .nilSlice =>
    match sizeT P e, bnd 0 lo, bnd 0 hi with
    | some sz, some (l, s1), some (h, s2) => ask (s1 || s2) (l = 0 ∧ h = 0) (.ret .nilSlice)
    | _, _, _ => .fail
  | some .string, .str s sy =>
    match bnd 0 lo, bnd s.size hi with
    | some (l, s1), some (h, s2) => ask (sy || (s1 || s2)) (0 ≤ l ∧ l ≤ h ∧ h ≤ s.size) (.ret (.str (s.extract l.toNat h.toNat) (sy || (s1 || s2))))
    | _, _ => .fail
  | some (.array n e), .ptr a =>
    match sizeT P e, bnd 0 lo, bnd n hi with
    | some sz, some (l, s1), some (h, s2) =>
      match lo with
      | none => ask s2 (0 ≤ h ∧ h ≤ n) (.ret (.slice a h.toNat (.known n) s2))
      | some _ => .fail
    | _, _, _ => .fail
  | _, _ => .fail

def lenV (P : Program) (t : TypeId) (x : V) : T V :=
  match P.underlying t, x with
  | some (.slice _), .slice _ n _ sy => .ret (mkInt sy .i64 n)
  | some (.slice _), .nilSlice => .ret (.int .i64 0)
  | some .string, .str s sy => .ret (mkInt sy .i64 s.size)
  | some (.array n _), _ => .ret (.int .i64 n)
  | _, _ => .fail

def nilCheckV : V → T V
  | .ptr a => .ret (.ptr a)
  | .sptr n a => .need (n = false) (.ret (.ptr a))
  | .func (.func f) a b => .ret (.func (.func f) a b)
  | _ => .fail

def pickV (c a b : V) : T V :=
  match c with
  | .bool x => .ret (bif x then a else b)
  | .sbool x => .ret (V.sel x a b)
  | _ => .fail

def isIfaceT (P : Program) (t : TypeId) : Option Bool :=
  match P.underlying t with
  | some (.interface _) => some true
  | some _ => some false
  | none => none

def evP (tm : List V) (l : List (Nat × Operand)) : List (Nat × V) := List.rec (motive := fun _ => List (Nat × V)) [] (fun x _ ih => (x.1, ev tm x.2) :: ih) l

/-- Operations that leave memory alone. -/
def pureOp (P : Program) (eqs : List TypeId) (m : Mem) (tm : List V) : Op → Option (T V)
  | .move x => some (.ret (ev tm x))
  | .assign x => some (.ret (ev tm x))
  | .pick c a b => some (pickV (ev tm c) (ev tm a) (ev tm b))
  | .build t parts => some (buildV P t (evP tm parts.toList))
  | .load t a => some (match ev tm a with | .ptr a => ldV P m t a | _ => .fail)
  | .nilCheck x => some (nilCheckV (ev tm x))
  | .binOp op t x y _ => some (binV P eqs op t (ev tm x) (ev tm y))
  | .unOp op _ x => some (unV op (ev tm x))
  | .convert s d x => match ev tm x with
    | .str _ _ => match P.underlying d with
      | some .string => some (convV P s d (ev tm x))
      | _ => none
    | .ptr _ => none
    | _ => some (convV P s d (ev tm x))
  | .makeInterface t x => some (match isIfaceT P t with | some false => .ret (.iface t (ev tm x)) | _ => .fail)
  | .makeFunc fn first captured => some (.ret (.func fn (evL tm first.toList) (evL tm captured.toList)))
  | .slice t x lo hi none => some (sliceV P t (ev tm x) (lo.map (ev tm)) (hi.map (ev tm)))
  | .fieldAddr t x f => some (fieldAddrV P t (ev tm x) f)
  | .field t x f => some (fieldV P t (ev tm x) f)
  | .indexAddr t x ix => some (indexAddrV P t (ev tm x) (ev tm ix))
  | .index t x ix => some (indexV P t (ev tm x) (ev tm ix))
  | .extract x i => some (match ev tm x with | .tuple vs => opt (objL vs i) | _ => .fail)
  | .call { callee := .builtin .len, args := ⟨[x]⟩, argTypes := ⟨[t]⟩ } => match ev tm x with
    | .map _ => none
    | v => some (lenV P t v)
  | _ => none

end
end Go.X
