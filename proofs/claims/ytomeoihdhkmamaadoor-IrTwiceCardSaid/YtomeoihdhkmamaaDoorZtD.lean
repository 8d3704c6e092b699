/- IrTwice: what a call of it comes to. -/
import Derived.Test.YtomeoihdhkmamaaDoorZyX
section
set_option linter.unusedVariables false
set_option linter.unusedSimpArgs false
namespace Go.X
theorem SumS.mono {P : Program} {body : Code} {fg : List Nat} {ι : Type} {S : ι → List V} {M : ι → List O} {Z Z2 : ι → T (Ex × St)} (h : SumS P body fg S M Z) (hz : ∀ x r, Leads (Z2 x) r → Leads (Z x) r) : SumS P body fg S M Z2 :=
  fun x h1 e st' ρ a w Q hl hr htr hQ => h x h1 e st' ρ a w Q (hz x _ hl) hr htr hQ

/-- A loop, round by round, each under an environment of its own. -/
theorem SumS.of_rounds2 {P : Program} {f : FuncId} {fn : Func} {c0 body : Code} (hf : P.funcs[f]? = some fn) (hb : fn.body = some c0) (hw : Within body c0) {fg : List Nat} {ι : Type} {S : ι → List V} {M0 : ι → List O} {Z : ι → T (Ex × St)}
    (M : ι → List O) (lo n0 : Nat) (Inv : ι → Prop) (next : ι → Option ι) (μ : ι → Nat) (fin : ι → T (Ex × St)) (hlo : Nat.ble lo n0 = true)
    (hentry : ∀ x r, Leads (Z x) r → Inv x ∧ (M0 x).length = n0 ∧ (∃ ph, M x = M0 x ++ ph ∧ phantoms ph) ∧ Leads (fin (endOf next (μ x) x)) r)
    (hgo : ∀ x y h, Inv x → next x = some y → Inv y ∧ μ y < μ x ∧ ∃ E k, EnvOk P E ∧ ∃ st1, Leads (exec P E k f body ⟨fill fg h 0 (S x), ⟨M x, lo⟩⟩) (.normal, st1) ∧ seenL n0 fg h st1 ⟨S y, ⟨M y, lo⟩⟩)
    (hend : ∀ x h, Inv x → next x = none → ∀ e st, Leads (fin x) (e, st) → e ≠ .normal ∧ ∃ E k, EnvOk P E ∧ ∃ st1, Leads (exec P E k f body ⟨fill fg h 0 (S x), ⟨M x, lo⟩⟩) (e, st1) ∧ seenL n0 fg h st1 st) :
    SumS P body fg S M0 Z := by
  have hlo := ble_le hlo
  have hs : ∀ x y, Inv x → next x = some y → Inv y ∧ μ y < μ x := fun x y h1 h2 => by
    obtain ⟨a, b, _⟩ := hgo x y (fun _ => undef) h1 h2
    exact ⟨a, b⟩
  intro x0 h e st' ρ a w Q hl hr htr hQ
  obtain ⟨hi, hn, ⟨ph, hM, hph⟩, hl⟩ := hentry x0 _ hl
  refine wp_loop_rounds (μ x0 + 1) ?_
  have key : ∀ (d : Nat) (x : ι) (ρ1 : Ren) (a1 : Act) (w1 : World), μ x ≤ d → Inv x → Leads (fin (endOf next (μ x) x)) (e, st') → Tr ρ ⟨M0 x0, (M0 x0).length⟩ w ρ1 ⟨M x, lo⟩ w1 → TR ρ1 (fill fg h 0 (S x)) a1.tmps → Idles P a a1 → Code.rounds P body Q (d + 1) a1 w1 := by
    intro d
    induction d with
    | zero =>
      intro x ρ1 a1 w1 hd hi hl ht htr hid
      have hx : next x = none := by
        cases hx : next x with
        | none => rfl
        | some y => have := (hs x y hi hx).2; omega
      rw [rounds_succ]
      rw [endOf_none hx] at hl
      obtain ⟨hne, E, k, hE, st1, h1, l, g1, g2, g3, g4⟩ := hend x h hi hx e st' hl
      refine exec_ok hE k hf hb body hw _ e st1 ρ1 a1 w1 _ h1 ht.rel htr fun ρ2 a2 w2 t2 htr2 hid2 => ?_
      obtain ⟨ρ3, t3, hk3⟩ := Tr.view hr (ht.trans t2) (show vOk (M0 x0).length l st'.mem.objs st1.mem.objs = true by rw [hn]; exact g1) g2 g3
      have hq := hQ ρ3 a2 w2 t3 (TR.seen hk3 g4 htr2) (hid.trans hid2)
      cases e with
      | normal => exact (hne rfl).elim
      | exit id => exact hq
      | ret => exact hq
    | succ d ih =>
      intro x ρ1 a1 w1 hd hi hl ht htr hid
      rw [rounds_succ]
      cases hx : next x with
      | none =>
        rw [endOf_none hx] at hl
        obtain ⟨hne, E, k, hE, st1, h1, l, g1, g2, g3, g4⟩ := hend x h hi hx e st' hl
        refine exec_ok hE k hf hb body hw _ e st1 ρ1 a1 w1 _ h1 ht.rel htr fun ρ2 a2 w2 t2 htr2 hid2 => ?_
        obtain ⟨ρ3, t3, hk3⟩ := Tr.view hr (ht.trans t2) (show vOk (M0 x0).length l st'.mem.objs st1.mem.objs = true by rw [hn]; exact g1) g2 g3
        have hq := hQ ρ3 a2 w2 t3 (TR.seen hk3 g4 htr2) (hid.trans hid2)
        cases e with
        | normal => exact (hne rfl).elim
        | exit id => exact hq
        | ret => exact hq
      | some y =>
        obtain ⟨hi2, hμ, E, k, hE, st1, h1, l, g1, g2, g3, g4⟩ := hgo x y h hi hx
        refine exec_ok hE k hf hb body hw _ .normal st1 ρ1 a1 w1 _ h1 ht.rel htr fun ρ2 a2 w2 t2 htr2 hid2 => ?_
        obtain ⟨ρ3, t3, hk3⟩ := Tr.view hr (ht.trans t2) (show vOk (M0 x0).length l (M y) st1.mem.objs = true by rw [hn]; exact g1) g2 g3
        exact ih y ρ3 a2 w2 (by omega) hi2 (by rw [← endOf_step hs hi hx]; exact hl) t3 (TR.seen hk3 g4 htr2) (hid.trans hid2)
  refine key (μ x0) x0 ρ a w (Nat.le_refl _) hi hl ?_ htr (.refl a)
  rw [hM]
  exact Tr.phantoms hph ((Tr.refl hr).lower (by rw [hn]; exact hlo))

end Go.X

namespace Go.Proofs.YtomeoihdhkmamaaDoor
open Go.X
set_option maxRecDepth 100000

/-! ### Take -/

structure Tk where
  m : Mode
  y : Rn
  g : Gt

/-- What an answer taken makes of a run, told with the run's own parts. -/
def takeS (x : Tk) : Rn := { x.y with vals := (takeRn x.m x.y x.g).vals, left := (takeRn x.m x.y x.g).left, faulted := (takeRn x.m x.y x.g).faulted }
theorem takeS_eq (m : Mode) (y : Rn) (g : Gt) : takeRn m y g = takeS ⟨m, y, g⟩ := by
  unfold takeS takeRn
  cases m with
  | off => rfl
  | passed => rfl
  | loaded => cases hf : g.fault != 0 <;> rfl
  | stored => cases hf : g.fault != 0 <;> rfl
  | tried =>
    cases hf : g.fault != 0
    · cases ho : !g.ok <;> rfl
    · rfl

def tkA (x : Tk) : List V := [pt 2, .agg x.g.cells]
def tkM (x : Tk) : List O := x.y.objs x.m
structure TkInv (x : Tk) : Prop where
  ok : RnOk x.y
  on : x.m ≠ .off
  left : x.y.left = false
  at1 : 1 ≤ x.y.at_
def tkZ (x : Tk) : T (V × Option Mem) := .need (TkInv x) (.ret (.int .i64 0, some ⟨(takeS x).objs .off, 1⟩))
noncomputable def tkCall (m : Mode) (y : Rn) (g : Gt) : T (V × Option Mem) := call Tryd.prog E10 200 11 (tkA ⟨m, y, g⟩) ⟨tkM ⟨m, y, g⟩, 3⟩
def tkKi (y : Rn) : Int := IntKind.i64.wrap (y.at_ - 1)
theorem tk_sk1 (y : Rn) (g : Gt) : (tkCall .passed y g).sk = .ret := by kernel_rfl
theorem tk_sk2 (y : Rn) (g : Gt) : (tkCall .loaded y g).sk = .ite (g.fault != 0) .ret (.need (0 ≤ tkKi y ∧ tkKi y < (y.n : Int)) (.need ((tkKi y).toNat < y.n) .ret)) := by kernel_rfl
theorem tk_sk3 (y : Rn) (g : Gt) : (tkCall .stored y g).sk = .ite (g.fault != 0) .ret .ret := by kernel_rfl
theorem tk_sk4 (y : Rn) (g : Gt) : (tkCall .tried y g).sk = .ite (g.fault != 0) .ret (.ite (!g.ok) (.need (0 ≤ tkKi y ∧ tkKi y < (y.n : Int)) (.need ((tkKi y).toNat < y.n) .ret)) .ret) := by kernel_rfl

theorem take_s : CallS Tryd.prog 11 tkA tkM tkZ := by
  refine CallS.of_call E10_ok 200 ?_
  rintro ⟨m, y, g⟩ r hl
  obtain ⟨hi, hl⟩ := hl.need_inv
  have hl := hl.ret_inv
  subst hl
  rw [← takeS_eq]
  have hok : RnOk y := hi.ok
  have hat : 1 ≤ y.at_ := hi.at1
  have hleft : y.left = false := hi.left
  have hlt := hok.t2 hleft
  have hn1 := hok.n1
  have hki : tkKi y = y.at_ - 1 := IntWalk.i64_in _ (by omega)
  have k1 : (0 : Int) ≤ tkKi y ∧ tkKi y < (y.n : Int) := by rw [hki]; omega
  have k2 : (tkKi y).toNat < y.n := by omega
  have e2 : ∀ v, (g.fault != 0) = v → takeRn .loaded y g = bif v then y.stop else y.setV g.v := by rintro v rfl; rfl
  have e3 : ∀ v, (g.fault != 0) = v → takeRn .stored y g = bif v then y.stop else y := by rintro v rfl; rfl
  have e4 : ∀ v u, (g.fault != 0) = v → (!g.ok) = u → takeRn .tried y g = bif v then y.stop else bif u then y.setV 1 else y := by rintro v u rfl rfl; rfl
  cases m with
  | off => exact (hi.on rfl).elim
  | passed => exact call_of (tk_sk1 y g) (KC.mk [0, 1, 2] (by kernel_rfl) fun q => by cases q)
  | loaded =>
    refine call_of (tk_sk2 y g) ⟨fun q => ?_, fun q => ⟨k1, k2, ?_⟩⟩
    · rw [e2 _ q]; exact KC.mk [0, 1, 2] (by kernel_rfl) fun q => by cases q
    · rw [e2 _ q]; exact KC.mk [0, 1, 2] (by kernel_rfl) fun q => by cases q
  | stored =>
    refine call_of (tk_sk3 y g) ⟨fun q => ?_, fun q => ?_⟩
    · rw [e3 _ q]; exact KC.mk [0, 1, 2] (by kernel_rfl) fun q => by cases q
    · rw [e3 _ q]; exact KC.mk [0, 1, 2] (by kernel_rfl) fun q => by cases q
  | tried =>
    refine call_of (tk_sk4 y g) ⟨fun q => ?_, fun q => ⟨fun p => ⟨k1, k2, ?_⟩, fun p => ?_⟩⟩
    · rw [e4 _ _ q rfl]; exact KC.mk [0, 1, 2] (by kernel_rfl) fun q => by cases q
    · rw [e4 _ _ q p]; exact KC.mk [0, 1, 2] (by kernel_rfl) fun q => by cases q
    · rw [e4 _ _ q p]; exact KC.mk [0, 1, 2] (by kernel_rfl) fun q => by cases q

theorem take_sound : Sound tkA tkM tkZ (·.2) := by
  intro x
  refine ⟨⟨⟨.inl ⟨_, rfl, rfl⟩, ⟨trivial, trivial, trivial, trivial⟩, trivial⟩, rn_refs x.m x.y⟩, ?_⟩
  intro r m hl hm
  obtain ⟨hn, hl⟩ := hl.need_inv
  have hl := hl.ret_inv
  subst hl
  cases hm
  exact ⟨fun _ => trivial, fun _ => trivial, fun _ => trivial, trivial⟩

noncomputable def tkI (args : List V) (objs : List O) : Option (List Nat × Tk) :=
  match args with
  | [p, .agg [v, ok, f]] => match rnAt objs p with
    | some (l, m, y) => some (l, ⟨m, y, ⟨iv v, bv ok, iv f⟩⟩)
    | none => none
  | _ => none

noncomputable def E13 : Env := E10.addExt 11 (framedC tkI tkA tkM tkZ)
theorem E13_ok : EnvOk Tryd.prog E13 := E10_ok.addExt (take_s.ok take_sound tkI)

/-! ### Next, told case by case -/

noncomputable def nxZm (m : Mode) (p : Mode × Rn) : T (Ex × St) := .need (RnOk p.2) (.need ((nxEndS p).1 = m) (.ret (.exit 0, ⟨nxS, ⟨(nxEndS p).2.objs m, 1⟩⟩)))
theorem nx_sum_m (m : Mode) : SumS Tryd.prog nxBody [2, 3] (fun _ => nxS) nxM (nxZm m) := nx_sum.mono fun p r h => by
  obtain ⟨h1, h⟩ := h.need_inv
  obtain ⟨h2, h⟩ := h.need_inv
  subst h2
  exact .need h1 (byMode_of h)
theorem nx_sound_m (m : Mode) : Sound (fun _ => nxS) nxM (nxZm m) (fun r => some r.2.mem) := by
  intro p
  refine ⟨(nx_sound p).1, ?_⟩
  intro r m hl hm
  obtain ⟨hn, hl⟩ := hl.need_inv
  obtain ⟨_, hl⟩ := hl.need_inv
  have hl := hl.ret_inv
  subst hl
  cases hm
  exact ⟨fun _ => trivial, fun _ => trivial, fun _ => trivial, trivial⟩
noncomputable def Em (m : Mode) : Env := E13.addSum 10 1 (framedL [2, 3] nxI (fun _ => nxS) nxM (nxZm m))
theorem Em_ok (m : Mode) : EnvOk Tryd.prog (Em m) := E13_ok.addSum Tryd.func10 rfl (bodyIs.mk (id := 1) (by kernel_rfl)) ((nx_sum_m m).ok (nx_sound_m m) nxI)

/-! ### IrTwice: its loop, begun -/

noncomputable def twS (x : Kp) : List V := slots 132 [(2, slc 1 x.a.m x.a.c), (3, pt 2), (8, pt 6), (10, pt 8), (12, .sint .i64 x.i)]
def twM (x : Kp) : List O := [opsO x.b.N x.b.ops, gtsO x.a.N x.a.got, .cells false 25 true (x.b.cells 0), opsO x.r.n x.r.ops, opsO x.r.n x.r.ops, valsO x.r.n x.r.vals, runO x.r .off 3 5 6, valsO x.r.n x.r.vals, runO x.r .off 4 7 8]
noncomputable def twBody : Code := loopAt (Tryd.prog.funcs[6]?.bind (·.body)) 9
noncomputable def twRound (m : Mode) (x : Kp) (h : Nat → Value) : T (Ex × St) := exec Tryd.prog (Em m) 200 6 twBody ⟨fill [4, 6, 7] h 0 (twS x), ⟨twM x, 5⟩⟩
end Go.Proofs.YtomeoihdhkmamaaDoor
end

section
set_option linter.unusedVariables false
set_option linter.unusedSimpArgs false
namespace Go.Proofs.YtomeoihdhkmamaaDoor
open Go.X
set_option maxRecDepth 100000

def wntEqB (v w : Wnt) : Bool := v.kind == w.kind && (v.addr == w.addr && (v.value == w.value && (v.acq == w.acq && (v.rel == w.rel && (v.fence == w.fence && (v.dsb == w.dsb && (v.sys == w.sys && (v.cls == w.cls && (v.iss == w.iss && true)))))))))
def corDem (d c : Cor) : Prop := (∀ k, k < 31 → okI (u64s d.X k) (u64s c.X k) = true) ∧ ∀ k, k < 2 → okI (u64s d.SP k) (u64s c.SP k) = true

def tkSk (m : Mode) (y : Rn) (g : Gt) : Sk := .fit (.need (TkInv ⟨m, y, g⟩) (.fit (.need (TkInv ⟨m, y, g⟩) .ret)))
def tailSk (m : Mode) (x : Kp) (y : Rn) (g : Gt) : Sk :=
  match m with
  | .off => .ret
  | m => .ite (decide (x.i < (x.a.m : Int))) (.need (0 ≤ x.i ∧ x.i < (x.a.m : Int)) (.need (x.i.toNat < x.a.N) (tkSk m y g))) (tkSk m y ⟨0, false, 0⟩)
def neW (m : Mode) (w : Wnt) : Bool :=
  match m with
  | .off => false
  | _ => !wntEqB w w
def twSk (m : Mode) (x : Kp) (p : Mode × Rn) (g : Gt) : Sk :=
  .ite (decide (x.i ≤ (x.b.n : Int))) (.fit (.need (RnOk x.r) (.need (p.1 = m) (.fit (.need (RnOk x.r) (.need (p.1 = m)
    (.ite (neW m p.2.w) .ret (.need (nee3 9 (.agg p.2.c.cells)) (.need (nee3 9 (.agg p.2.c.cells)) (.need (corDem p.2.c p.2.c) (.ite (!corEqB p.2.c p.2.c) .ret (tailSk m x p.2 g)))))))))))) .ret
theorem tw_sk0 (x : Kp) (h : Nat → Value) : (twRound .off x h).sk = twSk .off x (kpP x) (x.a.got x.i.toNat) := by kernel_rfl
theorem tw_sk2 (x : Kp) (h : Nat → Value) : (twRound .loaded x h).sk = twSk .loaded x (kpP x) (x.a.got x.i.toNat) := by kernel_rfl
theorem tw_sk1 (x : Kp) (h : Nat → Value) : (twRound .passed x h).sk = twSk .passed x (kpP x) (x.a.got x.i.toNat) := by kernel_rfl
theorem tw_sk3 (x : Kp) (h : Nat → Value) : (twRound .stored x h).sk = twSk .stored x (kpP x) (x.a.got x.i.toNat) := by kernel_rfl
theorem tw_sk4 (x : Kp) (h : Nat → Value) : (twRound .tried x h).sk = twSk .tried x (kpP x) (x.a.got x.i.toNat) := by kernel_rfl

theorem wntEqB_self (w : Wnt) : wntEqB w w = true := by
  unfold wntEqB
  simp only [beq_self_eq_true, Bool.and_true]
theorem corEqB_self (c : Cor) : corEqB c c = true := by
  unfold corEqB
  simp only [beq_self_eq_true, Bool.and_true, List.all_eq_true, implies_true]
  rfl
theorem corDem_self (c : Cor) : corDem c c := ⟨fun _ _ => rfl, fun _ _ => rfl⟩
theorem corNee (c : Cor) : nee3 9 (.agg c.cells) := ⟨fun _ _ => rfl, fun _ _ => rfl, trivial, trivial, trivial, trivial, trivial, trivial, trivial, trivial, trivial, trivial, trivial, trivial, trivial, trivial, trivial, trivial, trivial⟩

def twTo (x : Kp) (r : Rn) : Kp := { x with r := r, i := IntKind.i64.wrap (x.i + 1) }

theorem tw_go (m : Mode) (x : Kp) (h : Nat → Value) (hi : KpInv x) (hle : x.i ≤ x.b.n) (hm : m ≠ .off) (hq : (kpP x).1 = m) :
    ∃ st1, Leads (twRound m x h) (.normal, st1) ∧ seenL 9 [4, 6, 7] h st1 ⟨twS (twTo x (takeRn m (kpP x).2 (gotAt x.a x.i))), ⟨twM (twTo x (takeRn m (kpP x).2 (gotAt x.a x.i))), 5⟩⟩ := by
  have hp := nxEnd_ok hi.r
  have hat := hp.2 (by unfold kpP at hq; rw [hq]; exact hm)
  have hok := hp.1
  have h0 := hi.i0
  have hmN := hi.m
  have d1 : decide (x.i ≤ (x.b.n : Int)) = true := decide_eq_true hle
  have e1 : ∀ v, decide (x.i < (x.a.m : Int)) = v → gotAt x.a x.i = bif v then x.a.got x.i.toNat else ⟨0, false, 0⟩ := fun v hv => by unfold gotAt; rw [hv]
  have htk : ∀ g, TkInv ⟨m, (kpP x).2, g⟩ := fun g => ⟨hok, hm, hat.1, hat.2⟩
  have hw := wntEqB_self (kpP x).2.w
  have hc := corEqB_self (kpP x).2.c
  have hn := corNee (kpP x).2.c
  have hd := corDem_self (kpP x).2.c
  rw [takeS_eq]
  cases m with
  | off => exact (hm rfl).elim
  | passed =>
    refine round_of (tw_sk1 x h) ?_
    unfold twSk
    simp only [Sk.Holds, d1, neW, hw, hc, hq, tailSk, tkSk, Bool.not_true, Bool.false_eq_true, Bool.true_eq_false, true_implies, false_implies, and_true, true_and]
    refine ⟨by kernel_rfl, hi.r, by kernel_rfl, hi.r, hn, hn, hd, fun q => ⟨⟨h0, of_decide_eq_true q⟩, by have := of_decide_eq_true q; omega, by kernel_rfl, htk _, by kernel_rfl, htk _, ?_⟩, fun q => ⟨by kernel_rfl, htk _, by kernel_rfl, htk _, ?_⟩⟩
    · rw [e1 _ q]; exact KL.mk [0, 1, 2, 3, 4, 5, 6, 7, 8] (by kernel_rfl)
    · rw [e1 _ q]; exact KL.mk [0, 1, 2, 3, 4, 5, 6, 7, 8] (by kernel_rfl)
  | loaded =>
    refine round_of (tw_sk2 x h) ?_
    unfold twSk
    simp only [Sk.Holds, d1, neW, hw, hc, hq, tailSk, tkSk, Bool.not_true, Bool.false_eq_true, Bool.true_eq_false, true_implies, false_implies, and_true, true_and]
    refine ⟨by kernel_rfl, hi.r, by kernel_rfl, hi.r, hn, hn, hd, fun q => ⟨⟨h0, of_decide_eq_true q⟩, by have := of_decide_eq_true q; omega, by kernel_rfl, htk _, by kernel_rfl, htk _, ?_⟩, fun q => ⟨by kernel_rfl, htk _, by kernel_rfl, htk _, ?_⟩⟩
    · rw [e1 _ q]; exact KL.mk [0, 1, 2, 3, 4, 5, 6, 7, 8] (by kernel_rfl)
    · rw [e1 _ q]; exact KL.mk [0, 1, 2, 3, 4, 5, 6, 7, 8] (by kernel_rfl)
  | stored =>
    refine round_of (tw_sk3 x h) ?_
    unfold twSk
    simp only [Sk.Holds, d1, neW, hw, hc, hq, tailSk, tkSk, Bool.not_true, Bool.false_eq_true, Bool.true_eq_false, true_implies, false_implies, and_true, true_and]
    refine ⟨by kernel_rfl, hi.r, by kernel_rfl, hi.r, hn, hn, hd, fun q => ⟨⟨h0, of_decide_eq_true q⟩, by have := of_decide_eq_true q; omega, by kernel_rfl, htk _, by kernel_rfl, htk _, ?_⟩, fun q => ⟨by kernel_rfl, htk _, by kernel_rfl, htk _, ?_⟩⟩
    · rw [e1 _ q]; exact KL.mk [0, 1, 2, 3, 4, 5, 6, 7, 8] (by kernel_rfl)
    · rw [e1 _ q]; exact KL.mk [0, 1, 2, 3, 4, 5, 6, 7, 8] (by kernel_rfl)
  | tried =>
    refine round_of (tw_sk4 x h) ?_
    unfold twSk
    simp only [Sk.Holds, d1, neW, hw, hc, hq, tailSk, tkSk, Bool.not_true, Bool.false_eq_true, Bool.true_eq_false, true_implies, false_implies, and_true, true_and]
    refine ⟨by kernel_rfl, hi.r, by kernel_rfl, hi.r, hn, hn, hd, fun q => ⟨⟨h0, of_decide_eq_true q⟩, by have := of_decide_eq_true q; omega, by kernel_rfl, htk _, by kernel_rfl, htk _, ?_⟩, fun q => ⟨by kernel_rfl, htk _, by kernel_rfl, htk _, ?_⟩⟩
    · rw [e1 _ q]; exact KL.mk [0, 1, 2, 3, 4, 5, 6, 7, 8] (by kernel_rfl)
    · rw [e1 _ q]; exact KL.mk [0, 1, 2, 3, 4, 5, 6, 7, 8] (by kernel_rfl)
end Go.Proofs.YtomeoihdhkmamaaDoor
end

section
set_option linter.unusedVariables false
set_option linter.unusedSimpArgs false
namespace Go.Proofs.YtomeoihdhkmamaaDoor
open Go.X
set_option maxRecDepth 100000

noncomputable def twOut (x : Kp) (r : Rn) : Ex × St := (.exit 0, ⟨slots 132 [(8, pt 6), (10, pt 8)], ⟨[opsO x.b.N x.b.ops, gtsO x.a.N x.a.got, .cells false 25 true (x.b.cells 0), opsO x.r.n x.r.ops, opsO x.r.n x.r.ops, valsO x.r.n r.vals, runO { r with n := x.r.n } .off 3 5 6, valsO x.r.n r.vals, runO { r with n := x.r.n } .off 4 7 8], 5⟩⟩)
noncomputable def twFin (x : Kp) : T (Ex × St) := .ret (twOut x (kpLast x))
noncomputable def twZ (x : Kp) : T (Ex × St) := .need (KpInv x) (.ret (twOut x (kpEnd x)))

theorem tw_sum : SumS Tryd.prog twBody [4, 6, 7] twS twM twZ := by
  refine SumS.of_rounds2 Tryd.func6 rfl (within_of_mem (bodyIs.mk (id := 9) (by kernel_rfl)).mem) twM 5 9 KpInv kpNext kpMu twFin (by rfl) ?_ ?_ ?_
  · intro x r hl
    obtain ⟨hi, hl⟩ := hl.need_inv
    refine ⟨hi, rfl, ⟨[], (List.append_nil _).symm, trivial⟩, ?_⟩
    obtain ⟨h1, h2, h3, h4⟩ := kpEnd_same x
    have e : twOut (endOf kpNext (kpMu x) x) (kpEnd x) = twOut x (kpEnd x) := by
      unfold twOut
      rw [h1, h2, h3, h4]
    rw [← e] at hl
    exact hl
  · intro x y h hi hn
    obtain ⟨g1, g2, g3⟩ := kp_dec x y hi hn
    refine ⟨g1, g2, ?_⟩
    obtain ⟨h1, h2, rfl⟩ := kpNext_some hn
    exact ⟨Em (kpP x).1, 200, Em_ok _, tw_go (kpP x).1 x h hi h1 h2 rfl⟩
  · intro x h hi hn e st hl
    have hl := hl.ret_inv
    unfold twOut at hl
    simp only [Prod.mk.injEq] at hl
    obtain ⟨rfl, rfl⟩ := hl
    refine ⟨fun q => (by cases q), Em .off, 200, Em_ok _, round_of (tw_sk0 x h) ?_⟩
    unfold twSk
    cases hc : decide (x.i ≤ (x.b.n : Int)) with
    | true =>
      have hm := kpNext_none hn hc
      rw [show kpLast x = (kpP x).2 by unfold kpLast; rw [hc]; rfl]
      have hce := corEqB_self (kpP x).2.c
      simp only [Sk.Holds, hm, neW, hce, tailSk, Bool.not_true, Bool.false_eq_true, Bool.true_eq_false, true_implies, false_implies, and_true, true_and]
      exact ⟨by kernel_rfl, hi.r, by kernel_rfl, hi.r, corNee _, corNee _, corDem_self _, KL.mk [0, 1, 2, 3, 4, 5, 6, 7, 8] (by kernel_rfl)⟩
    | false =>
      rw [show kpLast x = x.r by unfold kpLast; rw [hc]; rfl]
      simp only [Sk.Holds, Bool.false_eq_true, true_implies, false_implies, true_and]
      exact KL.mk [0, 1, 2, 3, 4, 5, 6, 7, 8] (by kernel_rfl)

theorem tw_sound : Sound twS twM twZ (fun r => some r.2.mem) := by
  intro x
  refine ⟨⟨?_, ops_refs .., gts_refs .., blk_refs _ (.inl ⟨_, rfl, rfl⟩), ops_refs .., ops_refs .., vals_refs .., run_refs _ _ _ _ _ (.inl ⟨_, rfl, rfl⟩) (.inl ⟨_, rfl, rfl⟩) (.inl ⟨_, rfl, rfl⟩), vals_refs .., run_refs _ _ _ _ _ (.inl ⟨_, rfl, rfl⟩) (.inl ⟨_, rfl, rfl⟩) (.inl ⟨_, rfl, rfl⟩), trivial⟩, ?_⟩
  · show refsL _ (slots 132 _)
    repeat' first | exact trivial | exact .inl ⟨_, rfl, rfl⟩ | refine And.intro ?_ ?_
  · intro r m hl hm
    obtain ⟨hn, hl⟩ := hl.need_inv
    have hl := hl.ret_inv
    subst hl
    cases hm
    exact ⟨fun _ => trivial, fun _ => trivial, fun _ => trivial, fun _ => trivial, fun _ => trivial, fun _ => trivial, fun _ => trivial, fun _ => trivial, fun _ => trivial, trivial⟩

/-- Two runs that are told alike. -/
noncomputable def twI (st : St) : Option (List Nat × Kp) :=
  match ansAt st.mem.objs (getL st.tm 2), blkAt st.mem.objs (getL st.tm 3), rnAt st.mem.objs (getL st.tm 8), rnAt st.mem.objs (getL st.tm 10) with
  | some (ai, a), some (pi, oi, b), some ([o, v, me], _, r), some ([o2, v2, me2], _, _) => some ([oi, ai, pi, o, o2, v, me, v2, me2], ⟨b, a, r, iv (getL st.tm 12)⟩)
  | _, _, _, _ => none

noncomputable def E14 : Env := E10.addSum 6 9 (framedL [4, 6, 7] twI twS twM twZ)
theorem E14_ok : EnvOk Tryd.prog E14 := E10_ok.addSum Tryd.func6 rfl (bodyIs.mk (id := 9) (by kernel_rfl)) (tw_sum.ok tw_sound twI)
noncomputable def twiceCall (x : KeepX) : T (V × Option Mem) := call Tryd.prog E14 200 6 (keepA x) ⟨keepM x, 2⟩
end Go.Proofs.YtomeoihdhkmamaaDoor
end

section
set_option linter.unusedVariables false
set_option linter.unusedSimpArgs false
namespace Go.Proofs.YtomeoihdhkmamaaDoor
open Go.X
set_option maxRecDepth 100000

noncomputable def twiceT (x : KeepX) : T (V × Option Mem) := (twiceCall x).L.L.L.L.L.L.L.L.L.L.L.L
theorem tA (x : KeepX) : (twiceT x).cond = some ((kpEnd (kp0 x)).word == (kpEnd (kp0 x)).word) := by kernel_rfl
theorem tB (x : KeepX) : (twiceT x).L.cond = some ((kpEnd (kp0 x)).guest == (kpEnd (kp0 x)).guest) := by kernel_rfl
theorem tC (x : KeepX) : (twiceT x).L.L.cond = some ((kpEnd (kp0 x)).faulted == (kpEnd (kp0 x)).faulted) := by kernel_rfl
theorem tD (x : KeepX) : (twiceT x).L.L.L.cond = some (!(kpEnd (kp0 x)).guest) := by kernel_rfl
theorem t1 (x : KeepX) : (twiceT x).L.L.L.L.out = some (.bool true, none) := by kernel_rfl
theorem t2 (x : KeepX) : (twiceT x).L.L.L.R.out = some (.sbool (!(kpEnd (kp0 x)).faulted), none) := by kernel_rfl
theorem t3 (x : KeepX) : (twiceCall x).L.L.R.L.L.L.L.R.out = some (.bool true, none) := by kernel_rfl
theorem t4 (x : KeepX) : (twiceCall x).L.L.L.R.L.L.L.L.L.R.out = some (.bool true, none) := by kernel_rfl
def twiceD (x : KeepX) : Sk := .ite ((kpEnd (kp0 x)).word == (kpEnd (kp0 x)).word) (.ite ((kpEnd (kp0 x)).guest == (kpEnd (kp0 x)).guest) (.ite ((kpEnd (kp0 x)).faulted == (kpEnd (kp0 x)).faulted) (.ite (!(kpEnd (kp0 x)).guest) .ret .ret) .ret) .ret) .ret
def twiceN (x : KeepX) (s : Sk) : Sk := .need (x.b.n ≤ x.b.N) (.need (x.b.n * ((47 : Nat) + (1 : Nat)) ≤ (140737488355328 : Nat)) (.fit (.need (x.b.n ≤ x.b.n) s)))
theorem twice_sk (x : KeepX) : (twiceCall x).sk = .fit (.need (x.b.n ≤ x.b.N) (.ite (rightB x.b) (.ite (corOk x.b x.c)
    (twiceN x (.ite (rightB x.b) (.ite (corOk x.b x.c) (.fit (.need (KpInv (kp0 x)) (twiceD x))) .fail) .fail))
    (twiceN x (.ite (rightB x.b) (.ite (corOk x.b x.c) .ret .ret) .ret)))
    (twiceN x (.ite (rightB x.b) (.ite (corOk x.b x.c) .ret .ret) .ret)))) := by kernel_rfl

/-! ### The plain law: who has met a guest has not faulted -/

structure GuestOk (r : Rn) : Prop where
  on : r.left = false → r.guest = false ∧ r.faulted = false
  off : r.guest = true → r.faulted = false

theorem GuestOk.step {x : Rn} (h : GuestOk x) (hl : x.left = false) (k : Int) : GuestOk (stepK k x).2 := by
  obtain ⟨hg, hf⟩ := h.on hl
  unfold stepK
  split
  case h_15 =>
    unfold Rn.access
    cases bitsI .and .u64 x.a 7 != 0
    · simp only [cond_false]
      split <;> exact ⟨fun _ => ⟨hg, hf⟩, fun _ => hf⟩
    · exact ⟨fun q => (by cases q), fun q => (by rw [show (bif true then _ else _ : Mode × Rn).2.guest = x.guest from rfl, hg] at q; cases q)⟩
  all_goals try exact ⟨fun _ => ⟨hg, hf⟩, fun _ => hf⟩
  all_goals try exact ⟨fun q => (by cases q), fun _ => hf⟩
  · unfold Rn.getF; cases x.c.flag x.o.r <;> exact ⟨fun _ => ⟨hg, hf⟩, fun _ => hf⟩
  · unfold Rn.exitIf
    cases x.a != 0
    · exact ⟨fun _ => ⟨hg, hf⟩, fun _ => hf⟩
    · exact ⟨fun q => (by cases q), fun _ => hf⟩

theorem GuestOk.take {y : Rn} (h : GuestOk y) {m : Mode} (hl : m ≠ .off → y.left = false) (g : Gt) : GuestOk (takeRn m y g) := by
  have hs : y.left = false → GuestOk y.stop := fun hq => ⟨fun q => (by cases q), fun q => (by rw [show y.stop.guest = y.guest from rfl, (h.on hq).1] at q; cases q)⟩
  have hv : ∀ v, GuestOk (y.setV v) := fun v => ⟨h.on, h.off⟩
  unfold takeRn
  cases m with
  | off => exact h
  | passed => exact h
  | loaded => cases g.fault != 0; exact hv _; exact hs (hl (by simp))
  | stored => cases g.fault != 0; exact h; exact hs (hl (by simp))
  | tried =>
    cases g.fault != 0
    · cases !g.ok; exact h; exact hv _
    · exact hs (hl (by simp))

theorem GuestOk.next {r : Rn} (h : GuestOk r) : GuestOk (nxEndS (.off, r)).2 := by
  rw [nxEndS_eq]
  refine endOf_ind (next := nxNext) (fun p => GuestOk p.2) ?_ _ (.off, r) h
  intro p q hp hn
  obtain ⟨h1, h2, rfl⟩ := nxNext_some hn
  exact hp.step h2 _

theorem GuestOk.run {x : Kp} (h : GuestOk x.r) (hk : RnOk x.r) : GuestOk (kpEnd x) := by
  have : GuestOk (endOf kpNext (kpMu x) x).r := by
    refine (endOf_ind (next := kpNext) (fun y => GuestOk y.r ∧ RnOk y.r) ?_ _ x ⟨h, hk⟩).1
    rintro y z ⟨hy, hk⟩ hn
    obtain ⟨_, h2, rfl⟩ := kpNext_some hn
    have hp := nxEnd_ok hk
    exact ⟨hy.next.take (fun _ => (hp.2 h2).1) _, takeRn_ok _ hp.1⟩
  unfold kpEnd kpLast
  cases decide ((endOf kpNext (kpMu x) x).i ≤ ((endOf kpNext (kpMu x) x).b.n : Int)) with
  | true => exact this.next
  | false => exact this

/-! ### IrTwice, called: true -/

noncomputable def twiceZ (x : KeepX) : T (V × Option Mem) := .need ((x.b.n ≤ x.b.N ∧ x.a.m ≤ x.a.N) ∧ x.b.n * (47 + 1) ≤ 140737488355328) (.ret (.sbool true, none))

theorem twice_leads (x : KeepX) (hN : x.b.n ≤ x.b.N) (hM : x.a.m ≤ x.a.N) (hz : x.b.n * (47 + 1) ≤ 140737488355328) : ∃ r1, Leads (call Tryd.prog E14 200 6 (keepA x) ⟨keepM x, 2⟩) r1 ∧ seenC 2 r1 (.sbool true, none) := by
  refine call_of (twice_sk x) ?_
  have hg : rightB x.b = true → (kpEnd (kp0 x)).guest = true → (kpEnd (kp0 x)).faulted = false := fun hb =>
    (GuestOk.run (x := kp0 x) (⟨fun _ => ⟨rfl, rfl⟩, fun _ => rfl⟩ : GuestOk (startRn x.b x.c)) (startRn_ok hb hN)).off
  have nr : ∀ {c : Bool}, c = true → c = false → False := fun h1 h2 => by rw [h1] at h2; cases h2
  refine ⟨by kernel_rfl, hN, fun hb => ⟨fun hc => ?_, fun hc => ?_⟩, fun hb => ?_⟩
  · refine ⟨hN, hz, by kernel_rfl, Nat.le_refl _, fun _ => ⟨fun _ => ⟨by kernel_rfl, ?_, ?_⟩, fun q => (nr hc q).elim⟩, fun q => (nr hb q).elim⟩
    · exact ⟨startRn_ok hb hN, hM, Int.le_refl 0, by show (0 : Int) ≤ (x.b.n : Int) + 1; omega, (rightB_ok hb hN).1.n1⟩
    · refine ⟨fun _ => ⟨fun _ => ⟨fun _ => ⟨fun _ => KC.bool true (t1 x) rfl, fun q => KC.sbool _ (t2 x) ?_⟩, fun q => ?_⟩, fun q => ?_⟩, fun q => ?_⟩
      · have := hg hb (by simpa using q)
        rw [this]; rfl
      · simp at q
      · simp at q
      · simp at q
  · exact ⟨hN, hz, by kernel_rfl, Nat.le_refl _, fun _ => ⟨fun q => (nr q hc).elim, fun _ => KC.bool true (t4 x) rfl⟩, fun q => (nr hb q).elim⟩
  · exact ⟨hN, hz, by kernel_rfl, Nat.le_refl _, fun q => (nr q hb).elim, fun _ => KC.bool true (t3 x) rfl⟩

theorem twice_s : CallS Tryd.prog 6 keepA keepM twiceZ := by
  refine CallS.of_call E14_ok 200 ?_
  intro x r hl
  obtain ⟨⟨⟨hN, hM⟩, hz⟩, hl⟩ := hl.need_inv
  have hl := hl.ret_inv
  subst hl
  exact twice_leads x hN hM hz
end Go.Proofs.YtomeoihdhkmamaaDoor
end
