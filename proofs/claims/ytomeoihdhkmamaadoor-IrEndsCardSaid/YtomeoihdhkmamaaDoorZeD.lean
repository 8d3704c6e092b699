/- IrEnds: its outer loop. -/
import Derived.Test.YtomeoihdhkmamaaDoorZyX
section
set_option linter.unusedVariables false
set_option linter.unusedSimpArgs false
namespace Go.X
theorem SumS.mono {P : Program} {body : Code} {fg : List Nat} {ι : Type} {S : ι → List V} {M : ι → List O} {Z Z2 : ι → T (Ex × St)} (h : SumS P body fg S M Z) (hz : ∀ x r, Leads (Z2 x) r → Leads (Z x) r) : SumS P body fg S M Z2 :=
  fun x h1 e st' ρ a w Q hl hr htr hQ => h x h1 e st' ρ a w Q (hz x _ hl) hr htr hQ

/-- A loop, round by round, each under an environment of its own. -/
theorem SumS.of_rounds2 {P : Program} {f : FuncId} {fn : Func} {c0 body : Code} (hf : P.funcs[f]? = some fn) (hb : fn.body = some c0) (hw : Within body c0) {fg : List Nat} {ι : Type} {S : ι → List V} {M0 : ι → List O} {Z : ι → T (Ex × St)}
    (M : ι → List O) (lo n0 : Nat) (Inv : ι → Prop) (next : ι → Option ι) (μ : ι → Nat) (fin : ι → T (Ex × St)) (hlo : Nat.ble lo n0 = true)
    (hentry : ∀ x r, Leads (Z x) r → Inv x ∧ (M0 x).length = n0 ∧ (∃ ph, M x = M0 x ++ ph ∧ phantoms ph) ∧ Leads (fin (endOf next (μ x) x)) r)
    (hgo : ∀ x y h, Inv x → next x = some y → Inv y ∧ μ y < μ x ∧ ∃ E k, EnvOk P E ∧ ∃ st1, Leads (exec P E k f body ⟨fill fg h 0 (S x), ⟨M x, lo⟩⟩) (.normal, st1) ∧ seenL n0 fg h st1 ⟨S y, ⟨M y, lo⟩⟩)
    (hend : ∀ x h, Inv x → next x = none → ∀ e st, Leads (fin x) (e, st) → e ≠ .normal ∧ ∃ E k, EnvOk P E ∧ ∃ st1, Leads (exec P E k f body ⟨fill fg h 0 (S x), ⟨M x, lo⟩⟩) (e, st1) ∧ seenL n0 fg h st1 st) :
    SumS P body fg S M0 Z := by
  have hlo := ble_le hlo
  have hs : ∀ x y, Inv x → next x = some y → Inv y ∧ μ y < μ x := fun x y h1 h2 => by
    obtain ⟨a, b, _⟩ := hgo x y (fun _ => undef) h1 h2
    exact ⟨a, b⟩
  intro x0 h e st' ρ a w Q hl hr htr hQ
  obtain ⟨hi, hn, ⟨ph, hM, hph⟩, hl⟩ := hentry x0 _ hl
  refine wp_loop_rounds (μ x0 + 1) ?_
  have key : ∀ (d : Nat) (x : ι) (ρ1 : Ren) (a1 : Act) (w1 : World), μ x ≤ d → Inv x → Leads (fin (endOf next (μ x) x)) (e, st') → Tr ρ ⟨M0 x0, (M0 x0).length⟩ w ρ1 ⟨M x, lo⟩ w1 → TR ρ1 (fill fg h 0 (S x)) a1.tmps → Idles P a a1 → Code.rounds P body Q (d + 1) a1 w1 := by
    intro d
    induction d with
    | zero =>
      intro x ρ1 a1 w1 hd hi hl ht htr hid
      have hx : next x = none := by
        cases hx : next x with
        | none => rfl
        | some y => have := (hs x y hi hx).2; omega
      rw [rounds_succ]
      rw [endOf_none hx] at hl
      obtain ⟨hne, E, k, hE, st1, h1, l, g1, g2, g3, g4⟩ := hend x h hi hx e st' hl
      refine exec_ok hE k hf hb body hw _ e st1 ρ1 a1 w1 _ h1 ht.rel htr fun ρ2 a2 w2 t2 htr2 hid2 => ?_
      obtain ⟨ρ3, t3, hk3⟩ := Tr.view hr (ht.trans t2) (show vOk (M0 x0).length l st'.mem.objs st1.mem.objs = true by rw [hn]; exact g1) g2 g3
      have hq := hQ ρ3 a2 w2 t3 (TR.seen hk3 g4 htr2) (hid.trans hid2)
      cases e with
      | normal => exact (hne rfl).elim
      | exit id => exact hq
      | ret => exact hq
    | succ d ih =>
      intro x ρ1 a1 w1 hd hi hl ht htr hid
      rw [rounds_succ]
      cases hx : next x with
      | none =>
        rw [endOf_none hx] at hl
        obtain ⟨hne, E, k, hE, st1, h1, l, g1, g2, g3, g4⟩ := hend x h hi hx e st' hl
        refine exec_ok hE k hf hb body hw _ e st1 ρ1 a1 w1 _ h1 ht.rel htr fun ρ2 a2 w2 t2 htr2 hid2 => ?_
        obtain ⟨ρ3, t3, hk3⟩ := Tr.view hr (ht.trans t2) (show vOk (M0 x0).length l st'.mem.objs st1.mem.objs = true by rw [hn]; exact g1) g2 g3
        have hq := hQ ρ3 a2 w2 t3 (TR.seen hk3 g4 htr2) (hid.trans hid2)
        cases e with
        | normal => exact (hne rfl).elim
        | exit id => exact hq
        | ret => exact hq
      | some y =>
        obtain ⟨hi2, hμ, E, k, hE, st1, h1, l, g1, g2, g3, g4⟩ := hgo x y h hi hx
        refine exec_ok hE k hf hb body hw _ .normal st1 ρ1 a1 w1 _ h1 ht.rel htr fun ρ2 a2 w2 t2 htr2 hid2 => ?_
        obtain ⟨ρ3, t3, hk3⟩ := Tr.view hr (ht.trans t2) (show vOk (M0 x0).length l (M y) st1.mem.objs = true by rw [hn]; exact g1) g2 g3
        exact ih y ρ3 a2 w2 (by omega) hi2 (by rw [← endOf_step hs hi hx]; exact hl) t3 (TR.seen hk3 g4 htr2) (hid.trans hid2)
  refine key (μ x0) x0 ρ a w (Nat.le_refl _) hi hl ?_ htr (.refl a)
  rw [hM]
  exact Tr.phantoms hph ((Tr.refl hr).lower (by rw [hn]; exact hlo))

end Go.X

namespace Go.Proofs.YtomeoihdhkmamaaDoor
open Go.X
set_option maxRecDepth 100000

/-! ### Take -/

structure Tk where
  m : Mode
  y : Rn
  g : Gt

/-- What an answer taken makes of a run, told with the run's own parts. -/
def takeS (x : Tk) : Rn := { x.y with vals := (takeRn x.m x.y x.g).vals, left := (takeRn x.m x.y x.g).left, faulted := (takeRn x.m x.y x.g).faulted }
theorem takeS_eq (m : Mode) (y : Rn) (g : Gt) : takeRn m y g = takeS ⟨m, y, g⟩ := by
  unfold takeS takeRn
  cases m with
  | off => rfl
  | passed => rfl
  | loaded => cases hf : g.fault != 0 <;> rfl
  | stored => cases hf : g.fault != 0 <;> rfl
  | tried =>
    cases hf : g.fault != 0
    · cases ho : !g.ok <;> rfl
    · rfl

def tkA (x : Tk) : List V := [pt 2, .agg x.g.cells]
def tkM (x : Tk) : List O := x.y.objs x.m
structure TkInv (x : Tk) : Prop where
  ok : RnOk x.y
  on : x.m ≠ .off
  left : x.y.left = false
  at1 : 1 ≤ x.y.at_
def tkZ (x : Tk) : T (V × Option Mem) := .need (TkInv x) (.ret (.int .i64 0, some ⟨(takeS x).objs .off, 1⟩))
noncomputable def tkCall (m : Mode) (y : Rn) (g : Gt) : T (V × Option Mem) := call Tryd.prog E10 200 11 (tkA ⟨m, y, g⟩) ⟨tkM ⟨m, y, g⟩, 3⟩
def tkKi (y : Rn) : Int := IntKind.i64.wrap (y.at_ - 1)
theorem tk_sk1 (y : Rn) (g : Gt) : (tkCall .passed y g).sk = .ret := by kernel_rfl
theorem tk_sk2 (y : Rn) (g : Gt) : (tkCall .loaded y g).sk = .ite (g.fault != 0) .ret (.need (0 ≤ tkKi y ∧ tkKi y < (y.n : Int)) (.need ((tkKi y).toNat < y.n) .ret)) := by kernel_rfl
theorem tk_sk3 (y : Rn) (g : Gt) : (tkCall .stored y g).sk = .ite (g.fault != 0) .ret .ret := by kernel_rfl
theorem tk_sk4 (y : Rn) (g : Gt) : (tkCall .tried y g).sk = .ite (g.fault != 0) .ret (.ite (!g.ok) (.need (0 ≤ tkKi y ∧ tkKi y < (y.n : Int)) (.need ((tkKi y).toNat < y.n) .ret)) .ret) := by kernel_rfl

theorem take_s : CallS Tryd.prog 11 tkA tkM tkZ := by
  refine CallS.of_call E10_ok 200 ?_
  rintro ⟨m, y, g⟩ r hl
  obtain ⟨hi, hl⟩ := hl.need_inv
  have hl := hl.ret_inv
  subst hl
  rw [← takeS_eq]
  have hok : RnOk y := hi.ok
  have hat : 1 ≤ y.at_ := hi.at1
  have hleft : y.left = false := hi.left
  have hlt := hok.t2 hleft
  have hn1 := hok.n1
  have hki : tkKi y = y.at_ - 1 := IntWalk.i64_in _ (by omega)
  have k1 : (0 : Int) ≤ tkKi y ∧ tkKi y < (y.n : Int) := by rw [hki]; omega
  have k2 : (tkKi y).toNat < y.n := by omega
  have e2 : ∀ v, (g.fault != 0) = v → takeRn .loaded y g = bif v then y.stop else y.setV g.v := by rintro v rfl; rfl
  have e3 : ∀ v, (g.fault != 0) = v → takeRn .stored y g = bif v then y.stop else y := by rintro v rfl; rfl
  have e4 : ∀ v u, (g.fault != 0) = v → (!g.ok) = u → takeRn .tried y g = bif v then y.stop else bif u then y.setV 1 else y := by rintro v u rfl rfl; rfl
  cases m with
  | off => exact (hi.on rfl).elim
  | passed => exact call_of (tk_sk1 y g) (KC.mk [0, 1, 2] (by kernel_rfl) fun q => by cases q)
  | loaded =>
    refine call_of (tk_sk2 y g) ⟨fun q => ?_, fun q => ⟨k1, k2, ?_⟩⟩
    · rw [e2 _ q]; exact KC.mk [0, 1, 2] (by kernel_rfl) fun q => by cases q
    · rw [e2 _ q]; exact KC.mk [0, 1, 2] (by kernel_rfl) fun q => by cases q
  | stored =>
    refine call_of (tk_sk3 y g) ⟨fun q => ?_, fun q => ?_⟩
    · rw [e3 _ q]; exact KC.mk [0, 1, 2] (by kernel_rfl) fun q => by cases q
    · rw [e3 _ q]; exact KC.mk [0, 1, 2] (by kernel_rfl) fun q => by cases q
  | tried =>
    refine call_of (tk_sk4 y g) ⟨fun q => ?_, fun q => ⟨fun p => ⟨k1, k2, ?_⟩, fun p => ?_⟩⟩
    · rw [e4 _ _ q rfl]; exact KC.mk [0, 1, 2] (by kernel_rfl) fun q => by cases q
    · rw [e4 _ _ q p]; exact KC.mk [0, 1, 2] (by kernel_rfl) fun q => by cases q
    · rw [e4 _ _ q p]; exact KC.mk [0, 1, 2] (by kernel_rfl) fun q => by cases q

theorem take_sound : Sound tkA tkM tkZ (·.2) := by
  intro x
  refine ⟨⟨⟨.inl ⟨_, rfl, rfl⟩, ⟨trivial, trivial, trivial, trivial⟩, trivial⟩, rn_refs x.m x.y⟩, ?_⟩
  intro r m hl hm
  obtain ⟨hn, hl⟩ := hl.need_inv
  have hl := hl.ret_inv
  subst hl
  cases hm
  exact ⟨fun _ => trivial, fun _ => trivial, fun _ => trivial, trivial⟩

noncomputable def tkI (args : List V) (objs : List O) : Option (List Nat × Tk) :=
  match args with
  | [p, .agg [v, ok, f]] => match rnAt objs p with
    | some (l, m, y) => some (l, ⟨m, y, ⟨iv v, bv ok, iv f⟩⟩)
    | none => none
  | _ => none

noncomputable def E13 : Env := E10.addExt 11 (framedC tkI tkA tkM tkZ)
theorem E13_ok : EnvOk Tryd.prog E13 := E10_ok.addExt (take_s.ok take_sound tkI)

/-! ### Next, told case by case -/

noncomputable def nxZm (m : Mode) (p : Mode × Rn) : T (Ex × St) := .need (RnOk p.2) (.need ((nxEndS p).1 = m) (.ret (.exit 0, ⟨nxS, ⟨(nxEndS p).2.objs m, 1⟩⟩)))
theorem nx_sum_m (m : Mode) : SumS Tryd.prog nxBody [2, 3] (fun _ => nxS) nxM (nxZm m) := nx_sum.mono fun p r h => by
  obtain ⟨h1, h⟩ := h.need_inv
  obtain ⟨h2, h⟩ := h.need_inv
  subst h2
  exact .need h1 (byMode_of h)
theorem nx_sound_m (m : Mode) : Sound (fun _ => nxS) nxM (nxZm m) (fun r => some r.2.mem) := by
  intro p
  refine ⟨(nx_sound p).1, ?_⟩
  intro r m hl hm
  obtain ⟨hn, hl⟩ := hl.need_inv
  obtain ⟨_, hl⟩ := hl.need_inv
  have hl := hl.ret_inv
  subst hl
  cases hm
  exact ⟨fun _ => trivial, fun _ => trivial, fun _ => trivial, trivial⟩
noncomputable def Em (m : Mode) : Env := E13.addSum 10 1 (framedL [2, 3] nxI (fun _ => nxS) nxM (nxZm m))
theorem Em_ok (m : Mode) : EnvOk Tryd.prog (Em m) := E13_ok.addSum Tryd.func10 rfl (bodyIs.mk (id := 1) (by kernel_rfl)) ((nx_sum_m m).ok (nx_sound_m m) nxI)

/-! ### IrTwice: its loop, begun -/

noncomputable def twS (x : Kp) : List V := slots 132 [(2, slc 1 x.a.m x.a.c), (3, pt 2), (8, pt 6), (10, pt 8), (12, .sint .i64 x.i)]
def twM (x : Kp) : List O := [opsO x.b.N x.b.ops, gtsO x.a.N x.a.got, .cells false 25 true (x.b.cells 0), opsO x.r.n x.r.ops, opsO x.r.n x.r.ops, valsO x.r.n x.r.vals, runO x.r .off 3 5 6, valsO x.r.n x.r.vals, runO x.r .off 4 7 8]
noncomputable def twBody : Code := loopAt (Tryd.prog.funcs[6]?.bind (·.body)) 9
noncomputable def twRound (m : Mode) (x : Kp) (h : Nat → Value) : T (Ex × St) := exec Tryd.prog (Em m) 200 6 twBody ⟨fill [4, 6, 7] h 0 (twS x), ⟨twM x, 5⟩⟩
end Go.Proofs.YtomeoihdhkmamaaDoor
end

section
set_option linter.unusedVariables false
set_option linter.unusedSimpArgs false
namespace Go.Proofs.YtomeoihdhkmamaaDoor
open Go.X
set_option maxRecDepth 100000

/-- The next operation of a kind is looked for. -/
structure Fi where
  b : Blk
  w : Wnt
  at_ : Int
def kindsO : O := .cells true 3 false [.int .i64 0, .int .i64 9, .int .i64 10, .int .i64 11, .int .i64 12, .int .i64 0, .int .i64 13]
def kindsV (id : Nat) : V := .slice ⟨id, 0, 0, 0, 0⟩ 7 (.known 7) false
noncomputable def fiS (x : Fi) : List V := slots 111 [(3, pt 1), (10, kindsV 2), (11, .sint .i64 x.at_), (13, pt 3)]
def fiM (x : Fi) : List O := [opsO x.b.N x.b.ops, .cells false 25 true (x.b.cells 0), kindsO, .cells true 38 false x.w.cells]
noncomputable def fiBody : Code := loopAt (Tryd.prog.funcs[3]?.bind (·.body)) 17
noncomputable def fiRound (x : Fi) (h : Nat → Value) : T (Ex × St) := exec Tryd.prog E13 200 3 fiBody ⟨fill [2, 4, 6, 7, 8, 12] h 0 (fiS x), ⟨fiM x, 4⟩⟩

def kkOf (kd : Int) : Int :=
  match kd with
  | 1 => 9
  | 2 => 10
  | 3 => 11
  | 4 => 12
  | 6 => 13
  | _ => 0

def fiHit (o c : Int) : Sk := .ite (o != c) .ret .ret
def fiSk (x : Fi) (o : Int) : Sk := .ite (decide (x.at_ < (x.b.n : Int))) (.need (0 ≤ x.at_ ∧ x.at_ < (x.b.n : Int)) (.need (x.at_.toNat < x.b.N) (.need ((0 : Int) ≤ x.w.kind ∧ x.w.kind < ((7 : Nat) : Int))
  (.ite (decide ((x.w.kind.toNat : Int) = ((0 : Nat) : Int))) (fiHit o 0) (.ite (decide ((x.w.kind.toNat : Int) = ((1 : Nat) : Int))) (fiHit o 9) (.ite (decide ((x.w.kind.toNat : Int) = ((2 : Nat) : Int))) (fiHit o 10) (.ite (decide ((x.w.kind.toNat : Int) = ((3 : Nat) : Int))) (fiHit o 11)
  (.ite (decide ((x.w.kind.toNat : Int) = ((4 : Nat) : Int))) (fiHit o 12) (.ite (decide ((x.w.kind.toNat : Int) = ((5 : Nat) : Int))) (fiHit o 0) (.ite (decide ((x.w.kind.toNat : Int) = ((6 : Nat) : Int))) (fiHit o 13) .fail)))))))))) .ret
theorem fi_sk (x : Fi) (h : Nat → Value) : (fiRound x h).sk = fiSk x (x.b.ops x.at_.toNat).k := by kernel_rfl

structure FiInv (x : Fi) : Prop where
  nN : x.b.n ≤ x.b.N
  n1 : x.b.n ≤ 512
  a0 : 0 ≤ x.at_
  a1 : x.at_ ≤ x.b.n
  k0 : 0 ≤ x.w.kind
  k1 : x.w.kind < 7

def fiTo (x : Fi) : Fi := { x with at_ := IntKind.i64.wrap (x.at_ + 1) }
def fiNext (x : Fi) : Option Fi := bif decide (x.at_ < x.b.n) && (x.b.ops x.at_.toNat).k != kkOf x.w.kind then some (fiTo x) else none
def fiMu (x : Fi) : Nat := (x.b.n - x.at_).toNat
def fiEnd (x : Fi) : Int := (endOf fiNext (fiMu x) x).at_
noncomputable def fiOut (x : Fi) (t : Int) : Ex × St := (.exit 2, ⟨slots 111 [(3, pt 1), (10, kindsV 2), (11, .sint .i64 t)], ⟨fiM x, 4⟩⟩)
noncomputable def fiZ (x : Fi) : T (Ex × St) := .need (FiInv x) (.ret (fiOut x (fiEnd x)))

theorem fiNext_some {x y : Fi} (h : fiNext x = some y) : x.at_ < x.b.n ∧ ((x.b.ops x.at_.toNat).k != kkOf x.w.kind) = true ∧ y = fiTo x := by
  unfold fiNext at h
  obtain ⟨h1, h2⟩ := bif_some h
  rw [Bool.and_eq_true] at h1
  exact ⟨of_decide_eq_true h1.1, h1.2, h2.symm⟩

theorem fi_wrap {x : Fi} (hi : FiInv x) (h : x.at_ < x.b.n) : IntKind.i64.wrap (x.at_ + 1) = x.at_ + 1 := IntWalk.i64_in _ (by have := hi.n1; have := hi.a0; omega)

theorem fi_dec (x y : Fi) (hi : FiInv x) (hn : fiNext x = some y) : FiInv y ∧ fiMu y < fiMu x := by
  obtain ⟨h1, _, rfl⟩ := fiNext_some hn
  have hw := fi_wrap hi h1
  have h0 := hi.a0
  refine ⟨⟨hi.nN, hi.n1, ?_, ?_, hi.k0, hi.k1⟩, ?_⟩
  · show 0 ≤ IntKind.i64.wrap (x.at_ + 1); rw [hw]; omega
  · show IntKind.i64.wrap (x.at_ + 1) ≤ (x.b.n : Int); rw [hw]; omega
  · show ((x.b.n : Int) - IntKind.i64.wrap (x.at_ + 1)).toNat < ((x.b.n : Int) - x.at_).toNat; rw [hw]; omega

theorem fi_holds {K : Option (Ex × St) → Prop} {x : Fi} {o : Int} (hi : FiInv x) (hlt : x.at_ < x.b.n) (h : Nat → Value)
    (h0 : kkOf x.w.kind = 0 → (fiHit o 0).Holds K (fiRound x h).L.L.L.L.L) (h1 : kkOf x.w.kind = 9 → (fiHit o 9).Holds K (fiRound x h).L.L.L.L.R.L) (h2 : kkOf x.w.kind = 10 → (fiHit o 10).Holds K (fiRound x h).L.L.L.L.R.R.L)
    (h3 : kkOf x.w.kind = 11 → (fiHit o 11).Holds K (fiRound x h).L.L.L.L.R.R.R.L) (h4 : kkOf x.w.kind = 12 → (fiHit o 12).Holds K (fiRound x h).L.L.L.L.R.R.R.R.L) (h5 : kkOf x.w.kind = 0 → (fiHit o 0).Holds K (fiRound x h).L.L.L.L.R.R.R.R.R.L)
    (h6 : kkOf x.w.kind = 13 → (fiHit o 13).Holds K (fiRound x h).L.L.L.L.R.R.R.R.R.R.L) :
    (fiSk x o).Holds K (fiRound x h) := by
  have ha := hi.a0; have hN := hi.nN; have k0 := hi.k0; have k1 := hi.k1
  have d1 : decide (x.at_ < (x.b.n : Int)) = true := decide_eq_true hlt
  have hj : x.w.kind = 0 ∨ x.w.kind = 1 ∨ x.w.kind = 2 ∨ x.w.kind = 3 ∨ x.w.kind = 4 ∨ x.w.kind = 5 ∨ x.w.kind = 6 := by omega
  unfold fiSk
  refine ⟨fun _ => ⟨⟨ha, hlt⟩, by omega, ⟨k0, by omega⟩, ?_⟩, fun q => (by rw [d1] at q; cases q)⟩
  refine ⟨fun q => h0 ?_, fun q0 => ⟨fun q => h1 ?_, fun q1 => ⟨fun q => h2 ?_, fun q2 => ⟨fun q => h3 ?_, fun q3 => ⟨fun q => h4 ?_, fun q4 => ⟨fun q => h5 ?_, fun q5 => ⟨fun q => h6 ?_, fun q6 => ?_⟩⟩⟩⟩⟩⟩⟩
  all_goals try (have q := of_decide_eq_true q)
  · rw [show x.w.kind = 0 by omega]; rfl
  · rw [show x.w.kind = 1 by omega]; rfl
  · rw [show x.w.kind = 2 by omega]; rfl
  · rw [show x.w.kind = 3 by omega]; rfl
  · rw [show x.w.kind = 4 by omega]; rfl
  · rw [show x.w.kind = 5 by omega]; rfl
  · rw [show x.w.kind = 6 by omega]; rfl
  · exfalso
    simp at q0 q1 q2 q3 q4 q5 q6
    omega

theorem hit_go {K : Option (Ex × St) → Prop} {t : T (Ex × St)} {o c d : Int} (h : (o != d) = true) (e : d = c) (k : K t.L.out) : (fiHit o c).Holds K t := by
  subst e
  exact ⟨fun _ => k, fun q => by rw [h] at q; cases q⟩
theorem hit_end {K : Option (Ex × St) → Prop} {t : T (Ex × St)} {o c d : Int} (h : (o != d) = false) (e : d = c) (k : K t.R.out) : (fiHit o c).Holds K t := by
  subst e
  exact ⟨fun q => (by rw [h] at q; cases q), fun _ => k⟩

theorem fi_go (x : Fi) (h : Nat → Value) (hi : FiInv x) (hlt : x.at_ < x.b.n) (h2 : ((x.b.ops x.at_.toNat).k != kkOf x.w.kind) = true) : ∃ st1, Leads (fiRound x h) (.normal, st1) ∧ seenL 4 [2, 4, 6, 7, 8, 12] h st1 ⟨fiS (fiTo x), ⟨fiM (fiTo x), 4⟩⟩ :=
  round_of (fi_sk x h) (fi_holds hi hlt h (fun e => hit_go h2 e (KL.mk [0, 1, 2, 3] (by kernel_rfl))) (fun e => hit_go h2 e (KL.mk [0, 1, 2, 3] (by kernel_rfl))) (fun e => hit_go h2 e (KL.mk [0, 1, 2, 3] (by kernel_rfl))) (fun e => hit_go h2 e (KL.mk [0, 1, 2, 3] (by kernel_rfl)))
    (fun e => hit_go h2 e (KL.mk [0, 1, 2, 3] (by kernel_rfl))) (fun e => hit_go h2 e (KL.mk [0, 1, 2, 3] (by kernel_rfl))) (fun e => hit_go h2 e (KL.mk [0, 1, 2, 3] (by kernel_rfl))))
theorem fi_stop (x : Fi) (h : Nat → Value) (hi : FiInv x) (hlt : x.at_ < x.b.n) (h2 : ((x.b.ops x.at_.toNat).k != kkOf x.w.kind) = false) : ∃ st1, Leads (fiRound x h) (.exit 2, st1) ∧ seenL 4 [2, 4, 6, 7, 8, 12] h st1 (fiOut x x.at_).2 :=
  round_of (fi_sk x h) (fi_holds hi hlt h (fun e => hit_end h2 e (KL.mk [0, 1, 2, 3] (by kernel_rfl))) (fun e => hit_end h2 e (KL.mk [0, 1, 2, 3] (by kernel_rfl))) (fun e => hit_end h2 e (KL.mk [0, 1, 2, 3] (by kernel_rfl))) (fun e => hit_end h2 e (KL.mk [0, 1, 2, 3] (by kernel_rfl)))
    (fun e => hit_end h2 e (KL.mk [0, 1, 2, 3] (by kernel_rfl))) (fun e => hit_end h2 e (KL.mk [0, 1, 2, 3] (by kernel_rfl))) (fun e => hit_end h2 e (KL.mk [0, 1, 2, 3] (by kernel_rfl))))
theorem fi_over (x : Fi) (h : Nat → Value) (hlt : ¬ x.at_ < x.b.n) : ∃ st1, Leads (fiRound x h) (.exit 2, st1) ∧ seenL 4 [2, 4, 6, 7, 8, 12] h st1 (fiOut x x.at_).2 :=
  round_of (fi_sk x h) ⟨fun q => (hlt (of_decide_eq_true q)).elim, fun _ => KL.mk [0, 1, 2, 3] (by kernel_rfl)⟩

theorem fi_sum : SumS Tryd.prog fiBody [2, 4, 6, 7, 8, 12] fiS fiM fiZ := by
  refine SumS.of_rounds E13_ok 200 Tryd.func3 rfl (within_of_mem (bodyIs.mk (id := 17) (by kernel_rfl)).mem) fiM 4 4 FiInv fiNext fiMu (fun x => .ret (fiOut x x.at_)) (by rfl) ?_ ?_ ?_
  · intro x r hl
    obtain ⟨hi, hl⟩ := hl.need_inv
    refine ⟨hi, rfl, ⟨[], (List.append_nil _).symm, trivial⟩, ?_⟩
    have hs : (endOf fiNext (fiMu x) x).b = x.b ∧ (endOf fiNext (fiMu x) x).w = x.w := by
      refine endOf_ind (next := fiNext) (fun y => y.b = x.b ∧ y.w = x.w) ?_ _ x ⟨rfl, rfl⟩
      rintro y z ⟨h1, h2⟩ hn
      obtain ⟨_, _, rfl⟩ := fiNext_some hn
      exact ⟨h1, h2⟩
    have e : fiOut (endOf fiNext (fiMu x) x) (endOf fiNext (fiMu x) x).at_ = fiOut x (fiEnd x) := by
      unfold fiOut fiM
      rw [hs.1, hs.2]
      rfl
    rw [← e] at hl
    exact hl
  · intro x y h hi hn
    obtain ⟨g1, g2⟩ := fi_dec x y hi hn
    obtain ⟨h1, h2, rfl⟩ := fiNext_some hn
    exact ⟨g1, g2, fi_go x h hi h1 h2⟩
  · intro x h hi hn e st hl
    have hl := hl.ret_inv
    unfold fiOut at hl
    simp only [Prod.mk.injEq] at hl
    obtain ⟨rfl, rfl⟩ := hl
    refine ⟨fun q => (by cases q), ?_⟩
    by_cases hlt : x.at_ < x.b.n
    · have h2 : ((x.b.ops x.at_.toNat).k != kkOf x.w.kind) = false := by
        cases hq : (x.b.ops x.at_.toNat).k != kkOf x.w.kind with
        | false => rfl
        | true => unfold fiNext at hn; rw [decide_eq_true hlt, hq] at hn; cases hn
      exact fi_stop x h hi hlt h2
    · exact fi_over x h hlt

theorem fi_sound : Sound fiS fiM fiZ (fun r => some r.2.mem) := by
  intro x
  refine ⟨⟨?_, ops_refs .., blk_refs _ (.inl ⟨_, rfl, rfl⟩), ?_, ?_, trivial⟩, ?_⟩
  · show refsL _ (slots 111 _)
    repeat' first | exact trivial | exact .inl ⟨_, rfl, rfl⟩ | refine And.intro ?_ ?_
  · exact ⟨trivial, trivial, trivial, trivial, trivial, trivial, trivial, trivial⟩
  · exact ⟨trivial, trivial, trivial, trivial, trivial, trivial, trivial, trivial, trivial, trivial, trivial⟩
  · intro r m hl hm
    obtain ⟨hn, hl⟩ := hl.need_inv
    have hl := hl.ret_inv
    subst hl
    cases hm
    exact ⟨fun _ => trivial, fun _ => trivial, fun _ => trivial, fun _ => trivial, trivial⟩

noncomputable def fiI (st : St) : Option (List Nat × Fi) :=
  match blkAt st.mem.objs (getL st.tm 3), getL st.tm 10, getL st.tm 13 with
  | some (pi, oi, b), .slice k _ _ _, .ptr p => match objL st.mem.objs p.id with
    | some (.cells _ _ _ cs) => some ([oi, pi, k.id, p.id], ⟨b, ⟨iv (getL cs 0), iv (getL cs 1), iv (getL cs 2), iv (getL cs 3), bv (getL cs 4), iv (getL cs 5), bv (getL cs 6), iv (getL cs 7), iv (getL cs 8), iv (getL cs 9)⟩, iv (getL st.tm 11)⟩)
    | _ => none
  | _, _, _ => none
noncomputable def E15 : Env := E13.addSum 3 17 (framedL [2, 4, 6, 7, 8, 12] fiI fiS fiM fiZ)
theorem E15_ok : EnvOk Tryd.prog E15 := E13_ok.addSum Tryd.func3 rfl (bodyIs.mk (id := 17) (by kernel_rfl)) (fi_sum.ok fi_sound fiI)
noncomputable def Ef (m : Mode) : Env := E15.addSum 10 1 (framedL [2, 3] nxI (fun _ => nxS) nxM (nxZm m))
theorem Ef_ok (m : Mode) : EnvOk Tryd.prog (Ef m) := E15_ok.addSum Tryd.func10 rfl (bodyIs.mk (id := 1) (by kernel_rfl)) ((nx_sum_m m).ok (nx_sound_m m) nxI)

/-! ### The outer loop, begun -/

structure En where
  b : Blk
  a : Ans
  r : Rn
  i : Int
  at_ : Int
noncomputable def enS (x : En) : List V := slots 111 [(2, slc 1 x.a.m x.a.c), (3, pt 2), (7, .bool true), (8, pt 6), (10, kindsV 3), (11, .sint .i64 x.at_), (12, .sint .i64 x.i)]
def enM (x : En) : List O := [opsO x.b.N x.b.ops, gtsO x.a.N x.a.got, .cells false 25 true (x.b.cells 0), kindsO, opsO x.r.n x.r.ops, valsO x.r.n x.r.vals, runO x.r .off 4 5 6]
noncomputable def enBody : Code := loopAt (Tryd.prog.funcs[3]?.bind (·.body)) 10
noncomputable def enRound (m : Mode) (x : En) (h : Nat → Value) : T (Ex × St) := exec Tryd.prog (Ef m) 200 3 enBody ⟨fill [4] h 0 (enS x), ⟨enM x, 5⟩⟩
end Go.Proofs.YtomeoihdhkmamaaDoor
end

section
set_option linter.unusedVariables false
set_option linter.unusedSimpArgs false
namespace Go.Proofs.YtomeoihdhkmamaaDoor
open Go.X
set_option maxRecDepth 100000

def enP (x : En) : Mode × Rn := nxEndS (.off, x.r)
def enF (x : En) : Fi := ⟨x.b, (enP x).2.w, x.at_⟩
/-- The answer of a round. -/
def enNo (x : En) : Gt := ⟨IntKind.u64.wrap (IntKind.i64.wrap (8 * x.i)), false, 0⟩

def enTail (m : Mode) (x : En) : Sk := .fit (.need (FiInv (enF x)) (.ite (fiEnd (enF x) == (x.b.n : Int)) .ret (.ite (decide (x.i < (x.a.m : Int)))
  (.need (0 ≤ x.i ∧ x.i < (x.a.m : Int)) (.need (x.i.toNat < x.a.N) (.fit (.need (TkInv ⟨m, (enP x).2, x.a.got x.i.toNat⟩) .ret)))) (.fit (.need (TkInv ⟨m, (enP x).2, enNo x⟩) .ret)))))
def enWant (m : Mode) (x : En) : Sk :=
  match m with
  | .off => .ret
  | m => .ite (decide ((enP x).2.w.kind < 1)) .ret (.ite (decide ((enP x).2.w.kind > 6)) .ret (.ite ((enP x).2.w.kind == 5) .ret (.need ((8 : Int) ≠ 0) (.ite (Int.tmod (enP x).2.w.addr 8 != 0) .ret (enTail m x)))))
def enSk (m : Mode) (x : En) : Sk := .ite (decide (x.i ≤ (x.b.n : Int))) (.fit (.need (RnOk x.r) (.need ((enP x).1 = m) (enWant m x)))) .ret
theorem en_sk0 (x : En) (h : Nat → Value) : (enRound .off x h).sk = enSk .off x := by kernel_rfl
theorem en_sk1 (x : En) (h : Nat → Value) : (enRound .passed x h).sk = enSk .passed x := by kernel_rfl
theorem en_sk2 (x : En) (h : Nat → Value) : (enRound .loaded x h).sk = enSk .loaded x := by kernel_rfl
theorem en_sk3 (x : En) (h : Nat → Value) : (enRound .stored x h).sk = enSk .stored x := by kernel_rfl
theorem en_sk4 (x : En) (h : Nat → Value) : (enRound .tried x h).sk = enSk .tried x := by kernel_rfl

def enGot (x : En) : Gt := bif decide (x.i < x.a.m) then x.a.got x.i.toNat else enNo x
def enTo (x : En) (r : Rn) : En := { x with r := r, i := IntKind.i64.wrap (x.i + 1), at_ := IntKind.i64.wrap (fiEnd (enF x) + 1) }

structure EnStep (m : Mode) (x : En) : Prop where
  le : x.i ≤ x.b.n
  i0 : 0 ≤ x.i
  mN : x.a.m ≤ x.a.N
  ok : RnOk x.r
  mode : (enP x).1 = m
  on : m ≠ .off
  k1 : 1 ≤ (enP x).2.w.kind
  k6 : (enP x).2.w.kind ≤ 6
  k5 : (enP x).2.w.kind ≠ 5
  al : Int.tmod (enP x).2.w.addr 8 = 0
  fi : FiInv (enF x)
  hit : fiEnd (enF x) ≠ x.b.n
  tk : ∀ g, TkInv ⟨m, (enP x).2, g⟩

theorem en_holds {m : Mode} {x : En} {K : Option (Ex × St) → Prop} {t : T (Ex × St)} (hs : EnStep m x) (f1 : t.L.fitL = t.L.fitR) (f2 : t.L.L.L.L.R.R.R.L.R.fitL = t.L.L.L.L.R.R.R.L.R.fitR)
    (f3 : t.L.L.L.L.R.R.R.L.R.L.L.R.L.L.L.fitL = t.L.L.L.L.R.R.R.L.R.L.L.R.L.L.L.fitR) (f4 : t.L.L.L.L.R.R.R.L.R.L.L.R.R.fitL = t.L.L.L.L.R.R.R.L.R.L.L.R.R.fitR)
    (ky : decide (x.i < (x.a.m : Int)) = true → K t.L.L.L.L.R.R.R.L.R.L.L.R.L.L.L.L.L.out) (kn : decide (x.i < (x.a.m : Int)) = false → K t.L.L.L.L.R.R.R.L.R.L.L.R.R.L.L.out) : (enSk m x).Holds K t := by
  have d0 : decide (x.i ≤ (x.b.n : Int)) = true := decide_eq_true hs.le
  have d1 : decide ((enP x).2.w.kind < 1) = false := decide_eq_false (by have := hs.k1; omega)
  have d2 : decide ((enP x).2.w.kind > 6) = false := decide_eq_false (by have := hs.k6; omega)
  have d3 : ((enP x).2.w.kind == 5) = false := beq_eq_false_iff_ne.2 hs.k5
  have d4 : (Int.tmod (enP x).2.w.addr 8 != 0) = false := by rw [hs.al]; rfl
  have d5 : (fiEnd (enF x) == (x.b.n : Int)) = false := beq_eq_false_iff_ne.2 hs.hit
  have nr : ∀ {c : Bool} {P : Prop}, c = false → c = true → P := fun h1 h2 => by rw [h1] at h2; cases h2
  have nr2 : ∀ {c : Bool} {P : Prop}, c = true → c = false → P := fun h1 h2 => by rw [h1] at h2; cases h2
  have hmN := hs.mN
  have core : (enTail m x).Holds K t.L.L.L.L.R.R.R.L.R := by
    unfold enTail
    exact ⟨f2, hs.fi, fun q => nr d5 q, fun _ => ⟨fun q => ⟨⟨hs.i0, of_decide_eq_true q⟩, by have := of_decide_eq_true q; have := hs.i0; omega, f3, hs.tk _, ky q⟩, fun q => ⟨f4, hs.tk _, kn q⟩⟩⟩
  have want : (enWant m x).Holds K t.L.L.L.L := by
    have hm := hs.on
    cases m with
    | off => exact (hm rfl).elim
    | passed => exact ⟨fun q => nr d1 q, fun _ => ⟨fun q => nr d2 q, fun _ => ⟨fun q => nr d3 q, fun _ => ⟨by decide, fun q => nr d4 q, fun _ => core⟩⟩⟩⟩
    | loaded => exact ⟨fun q => nr d1 q, fun _ => ⟨fun q => nr d2 q, fun _ => ⟨fun q => nr d3 q, fun _ => ⟨by decide, fun q => nr d4 q, fun _ => core⟩⟩⟩⟩
    | stored => exact ⟨fun q => nr d1 q, fun _ => ⟨fun q => nr d2 q, fun _ => ⟨fun q => nr d3 q, fun _ => ⟨by decide, fun q => nr d4 q, fun _ => core⟩⟩⟩⟩
    | tried => exact ⟨fun q => nr d1 q, fun _ => ⟨fun q => nr d2 q, fun _ => ⟨fun q => nr d3 q, fun _ => ⟨by decide, fun q => nr d4 q, fun _ => core⟩⟩⟩⟩
  unfold enSk
  exact ⟨fun _ => ⟨f1, hs.ok, hs.mode, want⟩, fun q => nr2 d0 q⟩

theorem en_go (m : Mode) (x : En) (h : Nat → Value) (hs : EnStep m x) :
    ∃ st1, Leads (enRound m x h) (.normal, st1) ∧ seenL 7 [4] h st1 ⟨enS (enTo x (takeRn m (enP x).2 (enGot x))), ⟨enM (enTo x (takeRn m (enP x).2 (enGot x))), 5⟩⟩ := by
  have e1 : ∀ v, decide (x.i < (x.a.m : Int)) = v → enGot x = bif v then x.a.got x.i.toNat else enNo x := fun v hv => by unfold enGot; rw [hv]
  rw [takeS_eq]
  have hm := hs.on
  cases m with
  | off => exact (hm rfl).elim
  | passed => exact round_of (en_sk1 x h) (en_holds hs (by kernel_rfl) (by kernel_rfl) (by kernel_rfl) (by kernel_rfl) (fun q => (by rw [e1 _ q]; exact KL.mk [0, 1, 2, 3, 4, 5, 6] (by kernel_rfl))) (fun q => (by rw [e1 _ q]; exact KL.mk [0, 1, 2, 3, 4, 5, 6] (by kernel_rfl))))
  | loaded => exact round_of (en_sk2 x h) (en_holds hs (by kernel_rfl) (by kernel_rfl) (by kernel_rfl) (by kernel_rfl) (fun q => (by rw [e1 _ q]; exact KL.mk [0, 1, 2, 3, 4, 5, 6] (by kernel_rfl))) (fun q => (by rw [e1 _ q]; exact KL.mk [0, 1, 2, 3, 4, 5, 6] (by kernel_rfl))))
  | stored => exact round_of (en_sk3 x h) (en_holds hs (by kernel_rfl) (by kernel_rfl) (by kernel_rfl) (by kernel_rfl) (fun q => (by rw [e1 _ q]; exact KL.mk [0, 1, 2, 3, 4, 5, 6] (by kernel_rfl))) (fun q => (by rw [e1 _ q]; exact KL.mk [0, 1, 2, 3, 4, 5, 6] (by kernel_rfl))))
  | tried => exact round_of (en_sk4 x h) (en_holds hs (by kernel_rfl) (by kernel_rfl) (by kernel_rfl) (by kernel_rfl) (fun q => (by rw [e1 _ q]; exact KL.mk [0, 1, 2, 3, 4, 5, 6] (by kernel_rfl))) (fun q => (by rw [e1 _ q]; exact KL.mk [0, 1, 2, 3, 4, 5, 6] (by kernel_rfl))))
end Go.Proofs.YtomeoihdhkmamaaDoor
end

section
set_option linter.unusedVariables false
set_option linter.unusedSimpArgs false
namespace Go.Proofs.YtomeoihdhkmamaaDoor
open Go.X
set_option maxRecDepth 100000

theorem and7 {a : Int} (h : (bitsI .and .u64 a 7 != 0) = false) : Int.tmod a 8 = 0 := by
  have h1 : IntKind.u64.wrap ((BitVec.ofInt 64 a &&& BitVec.ofInt 64 7).toNat : Int) = 0 := by
    rw [bne_eq_false_iff_eq] at h
    exact h
  have h2 : (BitVec.ofInt 64 a &&& BitVec.ofInt 64 7).toNat = (BitVec.ofInt 64 a).toNat % 8 := by
    rw [BitVec.toNat_and, show (BitVec.ofInt 64 7).toNat = 2 ^ 3 - 1 by decide, Nat.and_two_pow_sub_one_eq_mod]
  rw [h2, IntWalk.u64_in _ (by omega), BitVec.toNat_ofInt] at h1
  have h3 : a % 8 = 0 := by omega
  exact Int.tmod_eq_zero_of_dvd (Int.dvd_of_emod_eq_zero h3)

/-- What is wanted by an operation of a kind. -/
theorem stepK_want {k : Int} {x : Rn} (hk : 1 ≤ k ∧ k ≤ 18) (h : (stepK k x).1 ≠ .off) :
    1 ≤ (stepK k x).2.w.kind ∧ (stepK k x).2.w.kind ≤ 6 ∧ (stepK k x).2.w.kind ≠ 5 ∧ Int.tmod (stepK k x).2.w.addr 8 = 0 ∧ kkOf (stepK k x).2.w.kind = k := by
  have hkk : k = 1 ∨ k = 2 ∨ k = 3 ∨ k = 4 ∨ k = 5 ∨ k = 6 ∨ k = 7 ∨ k = 8 ∨ k = 9 ∨ k = 10 ∨ k = 11 ∨ k = 12 ∨ k = 13 ∨ k = 14 ∨ k = 15 ∨ k = 16 ∨ k = 17 ∨ k = 18 := by omega
  have acc : ∀ {k : Int} {kd : Int} {p : Rn}, ((bitsI .and .u64 x.a 7 != 0) = true → (stepK k x).1 = .off) → ((bitsI .and .u64 x.a 7 != 0) = false → (stepK k x).2.w.kind = kd ∧ (stepK k x).2.w.addr = x.a) → (stepK k x).1 ≠ .off → kkOf kd = k → 1 ≤ kd ∧ kd ≤ 6 ∧ kd ≠ 5 →
      1 ≤ (stepK k x).2.w.kind ∧ (stepK k x).2.w.kind ≤ 6 ∧ (stepK k x).2.w.kind ≠ 5 ∧ Int.tmod (stepK k x).2.w.addr 8 = 0 ∧ kkOf (stepK k x).2.w.kind = k := by
    intro k kd p h1 h2 h3 h4 h5
    cases hb : bitsI .and .u64 x.a 7 != 0 with
    | true => exact (h3 (h1 hb)).elim
    | false =>
      obtain ⟨e1, e2⟩ := h2 hb
      rw [e1, e2]
      exact ⟨h5.1, h5.2.1, h5.2.2, and7 hb, h4⟩
  rcases hkk with rfl | rfl | rfl | rfl | rfl | rfl | rfl | rfl | rfl | rfl | rfl | rfl | rfl | rfl | rfl | rfl | rfl | rfl
  case _ => exact (h rfl).elim
  case _ => exact (h rfl).elim
  case _ => exact (h rfl).elim
  case _ => exact (h rfl).elim
  case _ => exact (h rfl).elim
  case _ => exact (h (by show (x.getF (x.c.flag x.o.r) |> fun r => (Mode.off, r)).1 = Mode.off; rfl)).elim
  case _ => exact (h rfl).elim
  case _ => exact (h rfl).elim
  case _ => exact acc (kd := 1) (p := x) (fun q => by show (x.access 9 _).1 = _; rw [q]; rfl) (fun q => by show (x.access 9 _).2.w.kind = _ ∧ (x.access 9 _).2.w.addr = _; rw [q]; exact ⟨rfl, rfl⟩) h rfl (by decide)
  case _ => exact acc (kd := 2) (p := x) (fun q => by show (x.access 10 _).1 = _; rw [q]; rfl) (fun q => by show (x.access 10 _).2.w.kind = _ ∧ (x.access 10 _).2.w.addr = _; rw [q]; exact ⟨rfl, rfl⟩) h rfl (by decide)
  case _ => exact acc (kd := 3) (p := x) (fun q => by show (x.access 11 _).1 = _; rw [q]; rfl) (fun q => by show (x.access 11 _).2.w.kind = _ ∧ (x.access 11 _).2.w.addr = _; rw [q]; exact ⟨rfl, rfl⟩) h rfl (by decide)
  case _ => exact acc (kd := 4) (p := x) (fun q => by show (x.access 12 _).1 = _; rw [q]; rfl) (fun q => by show (x.access 12 _).2.w.kind = _ ∧ (x.access 12 _).2.w.addr = _; rw [q]; exact ⟨rfl, rfl⟩) h rfl (by decide)
  case _ => exact ⟨(by decide : (1 : Int) ≤ 6), (by decide : (6 : Int) ≤ 6), (by decide : (6 : Int) ≠ 5), (rfl : Int.tmod (0 : Int) 8 = 0), rfl⟩
  case _ => exact (h rfl).elim
  case _ => exact (h rfl).elim
  case _ => exact (h rfl).elim
  case _ => exact (h rfl).elim
  case _ => exact (h rfl).elim

/-- What a run that has wanted something tells. -/
structure Wanted (r : Rn) (p : Mode × Rn) : Prop where
  ok : RnOk p.2
  n : p.2.n = r.n
  ops : p.2.ops = r.ops
  el : p.2.el = r.el
  le : r.at_ ≤ p.2.at_
  want : p.1 ≠ .off → r.at_ + 1 ≤ p.2.at_ ∧ 1 ≤ p.2.w.kind ∧ p.2.w.kind ≤ 6 ∧ p.2.w.kind ≠ 5 ∧ Int.tmod p.2.w.addr 8 = 0 ∧ kkOf p.2.w.kind = (r.ops (p.2.at_ - 1).toNat).k

theorem nx_want {r : Rn} (h : RnOk r) : Wanted r (nxEndS (.off, r)) := by
  rw [nxEndS_eq]
  refine endOf_ind (next := nxNext) (fun p => Wanted r p) ?_ _ (.off, r) ⟨h, rfl, rfl, rfl, Int.le_refl _, fun q => (q rfl).elim⟩
  intro p q hp hn
  obtain ⟨h1, h2, rfl⟩ := nxNext_some hn
  obtain ⟨g1, g2, g3⟩ := stepRn_ok hp.ok h2
  obtain ⟨s1, s2, s3, _⟩ := stepK_same p.2.o.k p.2
  have hle := hp.le
  refine ⟨g1, g3.trans hp.n, s2.trans hp.ops, s3.trans hp.el, by rw [g2]; omega, fun hm => ?_⟩
  have hat := hp.ok.t2 h2
  have ht0 := hp.ok.t0
  have hop := hp.ok.op p.2.at_.toNat (by omega)
  have hw := stepK_want (k := p.2.o.k) (x := p.2) ⟨hop.k0, hop.k1⟩ hm
  refine ⟨by rw [g2]; omega, hw.1, hw.2.1, hw.2.2.1, hw.2.2.2.1, ?_⟩
  rw [g2, show p.2.at_ + 1 - 1 = p.2.at_ by omega, ← hp.ops]
  exact hw.2.2.2.2

/-- Where the next operation of a kind lies. -/
theorem fi_found {x : Fi} (hi : FiInv x) {t : Int} (h1 : x.at_ ≤ t) (h2 : t < x.b.n) (h3 : (x.b.ops t.toNat).k = kkOf x.w.kind) : x.at_ ≤ fiEnd x ∧ fiEnd x ≤ t := by
  have := endOf_ind (next := fiNext) (fun y => FiInv y ∧ y.b = x.b ∧ y.w = x.w ∧ x.at_ ≤ y.at_ ∧ y.at_ ≤ t) (by
    rintro y z ⟨g1, g2, g3, g4, g5⟩ hn
    have hd := fi_dec y z g1 hn
    obtain ⟨e1, e2, rfl⟩ := fiNext_some hn
    have hw := fi_wrap g1 e1
    refine ⟨hd.1, g2, g3, ?_, ?_⟩
    · show x.at_ ≤ IntKind.i64.wrap (y.at_ + 1); rw [hw]; omega
    · show IntKind.i64.wrap (y.at_ + 1) ≤ t
      rw [hw]
      have : y.at_ ≠ t := by
        intro e
        rw [g2, g3, e, h3] at e2
        simp at e2
      omega) (fiMu x) x ⟨hi, rfl, rfl, Int.le_refl _, h1⟩
  exact ⟨this.2.2.2.1, this.2.2.2.2⟩
end Go.Proofs.YtomeoihdhkmamaaDoor
end

section
set_option linter.unusedVariables false
set_option linter.unusedSimpArgs false
namespace Go.Proofs.YtomeoihdhkmamaaDoor
open Go.X
set_option maxRecDepth 100000

structure EnInv (x : En) : Prop where
  ok : RnOk x.r
  n : x.r.n = x.b.n
  ops : x.r.ops = x.b.ops
  mN : x.a.m ≤ x.a.N
  nN : x.b.n ≤ x.b.N
  i0 : 0 ≤ x.i
  i1 : x.i ≤ x.r.at_
  a0 : 0 ≤ x.at_
  a1 : x.at_ ≤ x.r.at_

def enNext (x : En) : Option En :=
  match (enP x).1 with
  | .off => none
  | m => some (enTo x (takeRn m (enP x).2 (enGot x)))
def enMu (x : En) : Nat := (x.b.n + 1 - x.i).toNat

theorem enNext_some {x y : En} (h : enNext x = some y) : (enP x).1 ≠ .off ∧ y = enTo x (takeRn (enP x).1 (enP x).2 (enGot x)) := by
  unfold enNext at h
  split at h
  · cases h
  · rename_i hne
    cases h
    exact ⟨hne, rfl⟩
theorem enNext_none {x : En} (h : enNext x = none) : (enP x).1 = .off := by
  unfold enNext at h
  split at h
  · assumption
  · cases h

theorem en_step {x : En} (hi : EnInv x) (hm : (enP x).1 ≠ .off) : EnStep (enP x).1 x ∧ EnInv (enTo x (takeRn (enP x).1 (enP x).2 (enGot x))) ∧ enMu (enTo x (takeRn (enP x).1 (enP x).2 (enGot x))) < enMu x := by
  have hw := nx_want hi.ok
  obtain ⟨w1, w2, w3, w4, w5, w6⟩ := hw.want hm
  have hp := nxEnd_ok hi.ok
  have hat := hp.2 hm
  have hn : (enP x).2.n = x.b.n := hw.n.trans hi.n
  have ht1 : (enP x).2.at_ ≤ x.b.n := by have := hw.ok.t1; rw [← hn]; exact this
  have hn1 : x.b.n ≤ 512 := by rw [← hi.n]; exact hi.ok.n1
  have e1 : x.r.at_ + 1 ≤ (enP x).2.at_ := w1
  have k1 : 1 ≤ (enP x).2.w.kind := w2
  have k6 : (enP x).2.w.kind ≤ 6 := w3
  have i0 := hi.i0; have i1 := hi.i1; have a0 := hi.a0; have a1 := hi.a1
  have hf : FiInv (enF x) := ⟨hi.nN, hn1, a0, by show x.at_ ≤ (x.b.n : Int); omega, by show 0 ≤ (enP x).2.w.kind; omega, by show (enP x).2.w.kind < 7; omega⟩
  have hfound := fi_found hf (t := (enP x).2.at_ - 1) (by show x.at_ ≤ (enP x).2.at_ - 1; omega) (by show (enP x).2.at_ - 1 < (x.b.n : Int); omega) (by
    show (x.b.ops ((enP x).2.at_ - 1).toNat).k = kkOf (enP x).2.w.kind
    rw [← hi.ops]
    exact w6.symm)
  obtain ⟨f1, f2⟩ := hfound
  have f1 : x.at_ ≤ fiEnd (enF x) := f1
  obtain ⟨s1, s2, s3, s4, s5, s6⟩ := takeRn_same (enP x).1 (enP x).2 (enGot x)
  have hwi : IntKind.i64.wrap (x.i + 1) = x.i + 1 := IntWalk.i64_in _ (by omega)
  have hwa : IntKind.i64.wrap (fiEnd (enF x) + 1) = fiEnd (enF x) + 1 := IntWalk.i64_in _ (by omega)
  refine ⟨⟨by omega, i0, hi.mN, hi.ok, rfl, hm, k1, k6, w4, w5, hf, by omega, fun g => ⟨hp.1, hm, hat.1, hat.2⟩⟩, ⟨takeRn_ok _ hp.1, s1.trans hn, s2.trans (hw.ops.trans hi.ops), hi.mN, hi.nN, ?_, ?_, ?_, ?_⟩, ?_⟩
  · show 0 ≤ IntKind.i64.wrap (x.i + 1); rw [hwi]; omega
  · show IntKind.i64.wrap (x.i + 1) ≤ (takeRn _ _ _).at_; rw [hwi, s4]; omega
  · show 0 ≤ IntKind.i64.wrap (fiEnd (enF x) + 1); rw [hwa]; omega
  · show IntKind.i64.wrap (fiEnd (enF x) + 1) ≤ (takeRn _ _ _).at_; rw [hwa, s4]; omega
  · show ((x.b.n : Int) + 1 - IntKind.i64.wrap (x.i + 1)).toNat < ((x.b.n : Int) + 1 - x.i).toNat; rw [hwi]; omega

noncomputable def enOut (x : En) (r : Rn) : Ex × St := (.ret, ⟨slots 111 [(6, .bool true)], ⟨[opsO x.b.N x.b.ops, gtsO x.a.N x.a.got, .cells false 25 true (x.b.cells 0), kindsO, opsO x.r.n x.r.ops, valsO x.r.n r.vals, runO { r with n := x.r.n } .off 4 5 6], 5⟩⟩)
def enEnd (x : En) : Rn := (enP (endOf enNext (enMu x) x)).2
noncomputable def enZ (x : En) : T (Ex × St) := .need (EnInv x) (.ret (enOut x (enEnd x)))

theorem enEnd_same (x : En) : (endOf enNext (enMu x) x).b = x.b ∧ (endOf enNext (enMu x) x).a = x.a ∧ (endOf enNext (enMu x) x).r.n = x.r.n ∧ (endOf enNext (enMu x) x).r.ops = x.r.ops := by
  refine endOf_ind (next := enNext) (fun y => y.b = x.b ∧ y.a = x.a ∧ y.r.n = x.r.n ∧ y.r.ops = x.r.ops) ?_ _ x ⟨rfl, rfl, rfl, rfl⟩
  rintro y z ⟨h1, h2, h3, h4⟩ hn
  obtain ⟨_, rfl⟩ := enNext_some hn
  obtain ⟨s1, s2, _⟩ := takeRn_same (enP y).1 (enP y).2 (enGot y)
  exact ⟨h1, h2, s1.trans h3, s2.trans h4⟩

theorem en_sum : SumS Tryd.prog enBody [4] enS enM enZ := by
  refine SumS.of_rounds2 Tryd.func3 rfl (within_of_mem (bodyIs.mk (id := 10) (by kernel_rfl)).mem) enM 5 7 EnInv enNext enMu (fun x => .ret (enOut x (enP x).2)) (by rfl) ?_ ?_ ?_
  · intro x r hl
    obtain ⟨hi, hl⟩ := hl.need_inv
    refine ⟨hi, rfl, ⟨[], (List.append_nil _).symm, trivial⟩, ?_⟩
    obtain ⟨h1, h2, h3, h4⟩ := enEnd_same x
    have e : enOut (endOf enNext (enMu x) x) (enEnd x) = enOut x (enEnd x) := by
      unfold enOut
      rw [h1, h2, h3, h4]
    rw [← e] at hl
    exact hl
  · intro x y h hi hn
    obtain ⟨h1, rfl⟩ := enNext_some hn
    obtain ⟨g1, g2, g3⟩ := en_step hi h1
    exact ⟨g2, g3, Ef (enP x).1, 200, Ef_ok _, en_go (enP x).1 x h g1⟩
  · intro x h hi hn e st hl
    have hl := hl.ret_inv
    unfold enOut at hl
    simp only [Prod.mk.injEq] at hl
    obtain ⟨rfl, rfl⟩ := hl
    have hm := enNext_none hn
    have hle : x.i ≤ x.b.n := by have := hi.i1; have := hi.ok.t1; have := hi.n; omega
    refine ⟨fun q => (by cases q), Ef .off, 200, Ef_ok _, round_of (en_sk0 x h) ?_⟩
    exact ⟨fun _ => ⟨by kernel_rfl, hi.ok, hm, KL.mk [0, 1, 2, 3, 4, 5, 6] (by kernel_rfl)⟩, fun q => (by rw [decide_eq_true hle] at q; cases q)⟩

theorem en_sound : Sound enS enM enZ (fun r => some r.2.mem) := by
  intro x
  refine ⟨⟨?_, ops_refs .., gts_refs .., blk_refs _ (.inl ⟨_, rfl, rfl⟩), ?_, ops_refs .., vals_refs .., run_refs _ _ _ _ _ (.inl ⟨_, rfl, rfl⟩) (.inl ⟨_, rfl, rfl⟩) (.inl ⟨_, rfl, rfl⟩), trivial⟩, ?_⟩
  · show refsL _ (slots 111 _)
    repeat' first | exact trivial | exact .inl ⟨_, rfl, rfl⟩ | refine And.intro ?_ ?_
  · exact ⟨trivial, trivial, trivial, trivial, trivial, trivial, trivial, trivial⟩
  · intro r m hl hm
    obtain ⟨hn, hl⟩ := hl.need_inv
    have hl := hl.ret_inv
    subst hl
    cases hm
    exact ⟨fun _ => trivial, fun _ => trivial, fun _ => trivial, fun _ => trivial, fun _ => trivial, fun _ => trivial, fun _ => trivial, trivial⟩

noncomputable def enI (st : St) : Option (List Nat × En) :=
  match ansAt st.mem.objs (getL st.tm 2), blkAt st.mem.objs (getL st.tm 3), rnAt st.mem.objs (getL st.tm 8), getL st.tm 10 with
  | some (ai, a), some (pi, oi, b), some ([o, v, me], _, r), .slice k _ _ _ => some ([oi, ai, pi, k.id, o, v, me], ⟨b, a, r, iv (getL st.tm 12), iv (getL st.tm 11)⟩)
  | _, _, _, _ => none

noncomputable def E16 : Env := E13.addSum 3 10 (framedL [4] enI enS enM enZ)
theorem E16_ok : EnvOk Tryd.prog E16 := E13_ok.addSum Tryd.func3 rfl (bodyIs.mk (id := 10) (by kernel_rfl)) (en_sum.ok en_sound enI)
noncomputable def endsCall (x : KeepX) : T (V × Option Mem) := call Tryd.prog E16 200 3 (keepA x) ⟨keepM x, 2⟩
end Go.Proofs.YtomeoihdhkmamaaDoor
end
