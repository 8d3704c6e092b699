/- Right of chapter 16: its loop. -/
import Derived.Test.YtomeoihdhkmamaaDoorZyH
import Derived.IntWalk
set_option linter.unusedVariables false
set_option linter.unusedSimpArgs false
namespace Go.Proofs.YtomeoihdhkmamaaDoor
open Go.X
set_option maxRecDepth 100000

/-- A block. -/
structure Blk where
  (pc words el : Int)
  n : Nat
  c : Cap
  N : Nat
  ops : Nat → Op6

/-- Slots by their numbers. -/
noncomputable def slots (n : Nat) (l : List (Nat × V)) : List V := List.foldr (fun x tm => setL tm x.1 x.2) (replU n) l

def slc (id n : Nat) (c : Cap) : V := .slice ⟨id, 0, 0, 0, 0⟩ n c true
def pt (id : Nat) : V := .ptr ⟨id, 0, 0, 0, 0⟩
def opsO (N : Nat) (ops : Nat → Op6) : O := .cells false 42 true [.arr N 6 (rows ops)]
def Blk.cells (b : Blk) (id : Nat) : List V := [.sint .u64 b.pc, .sint .i64 b.words, .sint .i64 b.el, slc id b.n b.c]

structure RightL where
  b : Blk
  i : Int

noncomputable def rlS (x : RightL) : List V := slots 90 [(1, pt 1), (3, .sint .i64 x.b.n), (60, slc 0 x.b.n x.b.c), (61, .sint .i64 x.b.n), (62, .sint .i64 x.i)]
def rlM (x : RightL) : List O := [opsO x.b.N x.b.ops, .cells false 25 true (x.b.cells 0)]
noncomputable def rlBody : Code := loopAt (Tryd.prog.funcs[26]?.bind (·.body)) 7

theorem rl_sk (x : RightL) (h : Nat → Value) : (exec Tryd.prog E4 200 26 rlBody ⟨fill [] h 0 (rlS x), ⟨rlM x, 2⟩⟩).sk =
  .ite (decide (x.i < x.b.n)) (.need (0 ≤ x.i ∧ x.i < x.b.n) (.need (x.i.toNat < x.b.N) (.fit (.need ((0 : Int) ≤ ((0 : Nat) : Int) ∧ ((0 : Nat) : Int) ≤ x.i ∧ x.i ≤ x.b.n) (.fit (.need ((x.i - ((0 : Nat) : Int)).toNat ≤ x.b.N)
    (.ite (!rightOpB (x.i - ((0 : Nat) : Int)).toNat x.b.ops (x.b.ops x.i.toNat)) .ret
      (.ite (!(endsB (x.b.ops x.i.toNat).k == (x.i == IntKind.i64.wrap (x.b.n - 1)))) .ret .ret)))))))) .ret := by kernel_rfl

/-- Operation i is right where it stands. -/
def okAt (b : Blk) (i : Nat) : Bool := rightOpB i b.ops (b.ops i) && (endsB (b.ops i).k == decide (i + 1 = b.n))

def allFrom (p : Nat → Bool) : Nat → Nat → Bool
  | _, 0 => true
  | i, d + 1 => p i && allFrom p (i + 1) d

def rlNext (x : RightL) : Option RightL := bif decide (x.i < x.b.n) && okAt x.b x.i.toNat then some ⟨x.b, IntKind.i64.wrap (x.i + 1)⟩ else none
noncomputable def rlRet (x : RightL) : Ex × St := (.ret, ⟨slots 90 [(2, .bool false)], ⟨rlM x, 2⟩⟩)
noncomputable def rlExit (x : RightL) : Ex × St := (.exit 0, ⟨slots 90 [], ⟨rlM x, 2⟩⟩)
noncomputable def rlFin (x : RightL) : T (Ex × St) := .ite (decide (x.i < x.b.n)) (.ret (rlRet x)) (.ret (rlExit x))
def rlInv (x : RightL) : Prop := 0 ≤ x.i ∧ x.i ≤ x.b.n ∧ x.b.n ≤ x.b.N ∧ 1 ≤ x.b.n ∧ x.b.n ≤ 512
def rlMu (x : RightL) : Nat := x.b.n - x.i.toNat
noncomputable def rlZ (x : RightL) : T (Ex × St) := .need (rlInv x) (.ite (allFrom (okAt x.b) x.i.toNat (x.b.n - x.i.toNat)) (.ret (rlExit x)) (.ret (rlRet x)))

theorem rl_wrap {x : RightL} (hi : rlInv x) (hlt : x.i < x.b.n) : IntKind.i64.wrap (x.i + 1) = x.i + 1 := by
  obtain ⟨h1, h2, h3, h4, h5⟩ := hi
  exact IntWalk.i64_in _ (by omega)

theorem rl_step (x y : RightL) (hi : rlInv x) (hn : rlNext x = some y) : rlInv y ∧ rlMu y < rlMu x ∧ y = ⟨x.b, x.i + 1⟩ ∧ x.i < x.b.n ∧ okAt x.b x.i.toNat = true := by
  unfold rlNext at hn
  cases hc : decide (x.i < x.b.n) && okAt x.b x.i.toNat with
  | false => rw [hc] at hn; cases hn
  | true =>
    rw [hc] at hn
    simp only [cond_true, Option.some.injEq] at hn
    rw [Bool.and_eq_true, decide_eq_true_eq] at hc
    rw [rl_wrap hi hc.1] at hn
    subst hn
    obtain ⟨h1, h2, h3, h4, h5⟩ := hi
    refine ⟨⟨?_, ?_, h3, h4, h5⟩, ?_, rfl, hc.1, hc.2⟩
    · show 0 ≤ x.i + 1; omega
    · show x.i + 1 ≤ (x.b.n : Int); omega
    · show x.b.n - (x.i + 1).toNat < x.b.n - x.i.toNat; have := hc.1; omega

theorem rl_end : ∀ (d : Nat) (x : RightL), rlInv x → x.b.n - x.i.toNat = d → (endOf rlNext (rlMu x) x).b = x.b ∧ decide ((endOf rlNext (rlMu x) x).i < x.b.n) = !(allFrom (okAt x.b) x.i.toNat d) := by
  intro d
  induction d with
  | zero =>
    intro x hi hd
    obtain ⟨h1, h2, h3, h4, h5⟩ := hi
    have hn : rlNext x = none := by
      unfold rlNext
      have : decide (x.i < x.b.n) = false := by simp; omega
      rw [this]; rfl
    rw [endOf_none hn]
    exact ⟨rfl, by simp [allFrom]; omega⟩
  | succ d ih =>
    intro x hi hd
    have h := hi
    obtain ⟨h1, h2, h3, h4, h5⟩ := h
    have hlt : x.i < x.b.n := by omega
    cases ho : okAt x.b x.i.toNat with
    | false =>
      have hn : rlNext x = none := by
        unfold rlNext
        rw [ho, Bool.and_false]; rfl
      rw [endOf_none hn]
      refine ⟨rfl, ?_⟩
      unfold allFrom
      rw [ho]
      simpa using hlt
    | true =>
      have hn : rlNext x = some ⟨x.b, x.i + 1⟩ := by
        unfold rlNext
        rw [ho, decide_eq_true hlt, rl_wrap hi hlt]; rfl
      have hs := rl_step x _ hi hn
      rw [endOf_step (Inv := rlInv) (μ := rlMu) (fun x y a b => ⟨(rl_step x y a b).1, (rl_step x y a b).2.1⟩) hi hn]
      have := ih ⟨x.b, x.i + 1⟩ hs.1 (by show x.b.n - (x.i + 1).toNat = d; omega)
      refine ⟨this.1, this.2.trans ?_⟩
      show (!allFrom _ (x.i + 1).toNat d) = !(okAt x.b x.i.toNat && allFrom _ (x.i.toNat + 1) d)
      rw [ho, show (x.i + 1).toNat = x.i.toNat + 1 by omega, Bool.true_and]

theorem ends_at {x : RightL} (hi : rlInv x) (hlt : x.i < x.b.n) : (endsB (x.b.ops x.i.toNat).k == (x.i == IntKind.i64.wrap (x.b.n - 1))) = (endsB (x.b.ops x.i.toNat).k == decide (x.i.toNat + 1 = x.b.n)) := by
  obtain ⟨h1, h2, h3, h4, h5⟩ := hi
  rw [show IntKind.i64.wrap ((x.b.n : Int) - 1) = x.b.n - 1 from IntWalk.i64_in _ (by omega)]
  congr 1
  rw [Bool.eq_iff_iff]
  simp only [beq_iff_eq, decide_eq_true_eq]
  omega

theorem rl_sum : SumS Tryd.prog rlBody [] rlS rlM rlZ := by
  refine SumS.of_rounds E4_ok 200 Tryd.func26 rfl (within_of_mem ((bodyIs.mk (id := 7) (by kernel_rfl)).mem)) rlM 2 2 rlInv rlNext rlMu rlFin (by rfl) ?_ ?_ ?_
  · intro x r hl
    obtain ⟨hi, hl⟩ := hl.need_inv
    refine ⟨hi, rfl, ⟨[], rfl, trivial⟩, ?_⟩
    obtain ⟨h1, h2⟩ := rl_end _ x hi rfl
    unfold rlFin
    rw [h1]
    have e1 : rlRet (endOf rlNext (rlMu x) x) = rlRet x := by unfold rlRet rlM; rw [h1]
    have e2 : rlExit (endOf rlNext (rlMu x) x) = rlExit x := by unfold rlExit rlM; rw [h1]
    rw [e1, e2]
    rcases hl.ite_inv with ⟨hc, hl⟩ | ⟨hc, hl⟩
    · exact .no (by rw [h2, hc]; rfl) hl
    · exact .yes (by rw [h2, hc]; rfl) hl
  · intro x y h hi hn
    obtain ⟨g1, g2, g3, g4, g5⟩ := rl_step x y hi hn
    refine ⟨g1, g2, round_of (rl_sk x h) ?_⟩
    have hy : y = ⟨x.b, IntKind.i64.wrap (x.i + 1)⟩ := by rw [rl_wrap hi g4]; exact g3
    subst hy
    have hee := ends_at hi g4
    obtain ⟨h1, h2, h3, h4, h5⟩ := hi
    unfold okAt at g5
    rw [Bool.and_eq_true] at g5
    simp only [Sk.Holds]
    refine ⟨fun _ => ⟨⟨h1, g4⟩, by omega, by kernel_rfl, ⟨by omega, by omega, h2⟩, by kernel_rfl, by omega, fun q => ?_, fun _ => ⟨fun q => ?_, fun _ => KL.mk [0, 1] (by kernel_rfl)⟩⟩, fun q => ?_⟩
    · rw [show (x.i - ((0 : Nat) : Int)).toNat = x.i.toNat by omega, g5.1] at q; cases q
    · rw [hee, g5.2] at q; cases q
    · simp at q; omega
  · intro x h hi hn e st hl
    have hi' := hi
    obtain ⟨h1, h2, h3, h4, h5⟩ := hi'
    rcases hl.ite_inv with ⟨hc, hl⟩ | ⟨hc, hl⟩
    · have hl := hl.ret_inv
      unfold rlRet at hl
      simp only [Prod.mk.injEq] at hl
      obtain ⟨rfl, rfl⟩ := hl
      refine ⟨(fun q => by cases q), round_of (rl_sk x h) ?_⟩
      have hlt := of_decide_eq_true hc
      have hee := ends_at hi hlt
      have hno : okAt x.b x.i.toNat = false := by
        cases hq : okAt x.b x.i.toNat with
        | false => rfl
        | true => unfold rlNext at hn; rw [hc, hq] at hn; cases hn
      simp only [Sk.Holds]
      refine ⟨fun _ => ⟨⟨h1, hlt⟩, by omega, by kernel_rfl, ⟨by omega, by omega, h2⟩, by kernel_rfl, by omega, fun q => KL.mk [0, 1] (by kernel_rfl), fun q => ⟨fun q => KL.mk [0, 1] (by kernel_rfl), fun q2 => ?_⟩⟩, fun q => ?_⟩
      · exfalso
        rw [show (x.i - ((0 : Nat) : Int)).toNat = x.i.toNat by omega] at q
        rw [hee] at q2
        unfold okAt at hno
        simp only [Bool.not_eq_false'] at q q2
        rw [q, q2] at hno
        cases hno
      · rw [hc] at q; cases q
    · have hl := hl.ret_inv
      unfold rlExit at hl
      simp only [Prod.mk.injEq] at hl
      obtain ⟨rfl, rfl⟩ := hl
      refine ⟨(fun q => by cases q), round_of (rl_sk x h) ?_⟩
      simp only [Sk.Holds]
      exact ⟨fun q => (by rw [hc] at q; cases q), fun _ => KL.mk [0, 1] (by kernel_rfl)⟩
end Go.Proofs.YtomeoihdhkmamaaDoor
