/- IrKeeps: what a call of it comes to. -/
import Derived.Test.YtomeoihdhkmamaaDoorZyU
set_option linter.unusedVariables false
set_option linter.unusedSimpArgs false
namespace Go.Proofs.YtomeoihdhkmamaaDoor
open Go.X
set_option maxRecDepth 100000

def kp0 (x : KeepX) : Kp := ⟨x.b, x.a, startRn x.b x.c, 0⟩
def k20 (x : KeepX) : K2 := ⟨x.b, x.c, { (kpEnd (kp0 x)).c with pc := x.c.pc }, 0⟩
theorem keep_sk (x : KeepX) : (keepCall x).sk = .fit (.need (x.b.n ≤ x.b.N) (.ite (rightB x.b) (.ite (corOk x.b x.c) (.fit (.need (KpInv (kp0 x)) (.need (nee3 7 (.agg (kpEnd (kp0 x)).c.cells)) (.fit (.need (K2Inv (k20 x)) (.need ((∀ k, k < 31 → okI (u64s (k2End (k20 x)).X k) (u64s x.c.X k) = true) ∧ ∀ k, k < 2 → okI (u64s (k2End (k20 x)).SP k) (u64s x.c.SP k) = true) .ret)))))) .ret) .ret)) := by kernel_rfl

/-- Are two states the same? -/
def corEqB (d c : Cor) : Bool :=
  ((List.range 31).all fun k => d.X k == c.X k) && (((List.range 2).all fun k => d.SP k == c.SP k) && (d.pc == c.pc && (d.n == c.n && (d.z == c.z && (d.c == c.c && (d.v == c.v && (d.el == c.el && (d.mask == c.mask &&
    (d.spsr == c.spsr && (d.elr == c.elr && (d.esr == c.esr && (d.far == c.far && (d.vbar == c.vbar && (d.tpidr == c.tpidr && (d.id == c.id && (d.wait == c.wait && (d.event == c.event && true)))))))))))))))))

theorem keep_leaf (x : KeepX) : (keepCall x).L.L.L.L.L.L.L.L.L.L.out = some (.sbool (corEqB (k2End (k20 x)) x.c), none) := by kernel_rfl
theorem keep_leaf1 (x : KeepX) : (keepCall x).L.L.R.out = some (.bool true, none) := by kernel_rfl
theorem keep_leaf2 (x : KeepX) : (keepCall x).L.L.L.R.out = some (.bool true, none) := by kernel_rfl

theorem KC.sbool {n : Nat} {o : Option (V × Option Mem)} {B : Bool} (E : Bool) (h : o = some (.sbool E, none)) (hv : B = E) : KC n (.sbool B, none) o := by
  subst h hv
  exact ⟨[], rfl, fun _ => trivial⟩

/-! ### The plain law -/

/-- Is there an operation from lo on of a kind at a place? -/
def Sets (b : Blk) (lo : Nat) (k : Int) (r : Nat) : Prop := ∃ j, lo ≤ j ∧ j < b.n ∧ (b.ops j).k = k ∧ (b.ops j).r.toNat = r

structure KeepC (b : Blk) (lo : Nat) (c d : Cor) : Prop where
  X : ∀ k, d.X k = c.X k ∨ Sets b lo 3 k
  SP : ∀ k, d.SP k = c.SP k ∨ (k = b.el.toNat ∧ ∃ j, lo ≤ j ∧ j < b.n ∧ (b.ops j).k = 5)
  n : d.n = c.n ∨ Sets b lo 7 0
  z : d.z = c.z ∨ Sets b lo 7 1
  c' : d.c = c.c ∨ Sets b lo 7 2
  v : d.v = c.v ∨ Sets b lo 7 3
  rest : d.el = c.el ∧ d.mask = c.mask ∧ d.spsr = c.spsr ∧ d.elr = c.elr ∧ d.esr = c.esr ∧ d.far = c.far ∧ d.vbar = c.vbar ∧ d.tpidr = c.tpidr ∧ d.id = c.id ∧ d.wait = c.wait ∧ d.event = c.event

theorem KeepC.refl (b : Blk) (lo : Nat) (c : Cor) : KeepC b lo c c :=
  ⟨fun _ => .inl rfl, fun _ => .inl rfl, .inl rfl, .inl rfl, .inl rfl, .inl rfl, ⟨rfl, rfl, rfl, rfl, rfl, rfl, rfl, rfl, rfl, rfl, rfl⟩⟩

theorem KeepC.pc {b : Blk} {lo : Nat} {c d : Cor} (h : KeepC b lo c d) (p : Int) : KeepC b lo c { d with pc := p } := ⟨h.X, h.SP, h.n, h.z, h.c', h.v, h.rest⟩

theorem KeepC.step {b : Blk} {c : Cor} {x : Rn} (h : KeepC b 0 c x.c) (hn : x.n = b.n) (ho : x.ops = b.ops) (he : x.el = b.el) (hk : RnOk x) (hl : x.left = false) : KeepC b 0 c (stepRn x).2.c := by
  have hat : x.at_.toNat < b.n := by have := hk.t2 hl; have := hk.t0; omega
  have hop := hk.op x.at_.toNat (by rw [hn]; exact hat)
  have hoo : x.o = b.ops x.at_.toNat := by unfold Rn.o; rw [ho]
  unfold stepRn stepK
  split
  case h_3 h3 =>
    refine ⟨fun k => ?_, h.SP, h.n, h.z, h.c', h.v, h.rest⟩
    show setAt x.c.X x.o.r.toNat x.a k = _ ∨ _
    unfold setAt
    cases hd : decide (k = x.o.r.toNat) with
    | true => exact .inr ⟨x.at_.toNat, Nat.zero_le _, hat, by rw [← hoo]; exact h3, by rw [← hoo]; exact (of_decide_eq_true hd).symm⟩
    | false => exact h.X k
  case h_5 h5 =>
    refine ⟨h.X, fun k => ?_, h.n, h.z, h.c', h.v, h.rest⟩
    show setAt x.c.SP x.el.toNat x.a k = _ ∨ _
    unfold setAt
    cases hd : decide (k = x.el.toNat) with
    | true => exact .inr ⟨by rw [← he]; exact of_decide_eq_true hd, x.at_.toNat, Nat.zero_le _, hat, by rw [← hoo]; exact h5⟩
    | false => exact h.SP k
  case h_6 => unfold Rn.getF; cases x.c.flag x.o.r <;> exact h
  case h_7 h7 =>
    have hr := hop.r6 (.inr (by rw [← ho, ] at hoo; exact h7))
    have hs : ∀ r : Nat, x.o.r = r → Sets b 0 7 r := fun r hr => ⟨x.at_.toNat, Nat.zero_le _, hat, by rw [← hoo]; exact h7, by rw [← hoo, hr]; rfl⟩
    show KeepC b 0 c (x.c.setF x.o.r (x.a != 0))
    have hr4 : x.o.r = 0 ∨ x.o.r = 1 ∨ x.o.r = 2 ∨ x.o.r = 3 := by
      have : x.o.r = (x.ops x.at_.toNat).r := rfl
      omega
    rcases hr4 with hr | hr | hr | hr
    · have := hs 0 hr
      rw [hr]
      exact ⟨h.X, h.SP, .inr this, h.z, h.c', h.v, h.rest⟩
    · have := hs 1 hr
      rw [hr]
      exact ⟨h.X, h.SP, h.n, .inr this, h.c', h.v, h.rest⟩
    · have := hs 2 hr
      rw [hr]
      exact ⟨h.X, h.SP, h.n, h.z, .inr this, h.v, h.rest⟩
    · have := hs 3 hr
      rw [hr]
      exact ⟨h.X, h.SP, h.n, h.z, h.c', .inr this, h.rest⟩
  case h_10 => exact h.pc _
  case h_11 => unfold Rn.exitIf; cases x.a != 0; exact h; exact h.pc _
  case h_12 => exact h.pc _
  case h_13 => exact h.pc _
  case h_15 =>
    unfold Rn.access
    cases bitsI .and .u64 x.a 7 != 0
    · simp only [cond_false]
      split <;> exact h
    · exact h
  all_goals exact h
end Go.Proofs.YtomeoihdhkmamaaDoor
