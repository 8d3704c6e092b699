/- The rounds of a law of chapter 16: Next, and an answer taken. -/
import Derived.Test.YtomeoihdhkmamaaDoorZyR
set_option linter.unusedVariables false
set_option linter.unusedSimpArgs false
namespace Go.Proofs.YtomeoihdhkmamaaDoor
open Go.X
set_option maxRecDepth 100000

/-! ### What the rounds do -/

def Rn.stop (y : Rn) : Rn := { y with left := true, faulted := true }
def Rn.setV (y : Rn) (v : Int) : Rn := { y with vals := setAt y.vals (IntKind.i64.wrap (y.at_ - 1)).toNat v }

/-- An answer taken. -/
def takeRn (m : Mode) (y : Rn) (g : Gt) : Rn :=
  match m with
  | .off => y
  | .passed => y
  | .loaded => bif g.fault != 0 then y.stop else y.setV g.v
  | .stored => bif g.fault != 0 then y.stop else y
  | .tried => bif g.fault != 0 then y.stop else bif !g.ok then y.setV 1 else y

def gotAt (a : Ans) (i : Int) : Gt := bif decide (i < a.m) then a.got i.toNat else ⟨0, false, 0⟩

theorem takeRn_same (m : Mode) (y : Rn) (g : Gt) : (takeRn m y g).n = y.n ∧ (takeRn m y g).ops = y.ops ∧ (takeRn m y g).el = y.el ∧ (takeRn m y g).at_ = y.at_ ∧ (takeRn m y g).c = y.c ∧ ((takeRn m y g).left = false → y.left = false) := by
  unfold takeRn
  cases m with
  | off => exact ⟨rfl, rfl, rfl, rfl, rfl, fun h => h⟩
  | passed => exact ⟨rfl, rfl, rfl, rfl, rfl, fun h => h⟩
  | loaded => cases hf : g.fault != 0 <;> exact ⟨rfl, rfl, rfl, rfl, rfl, fun h => by first | exact h | cases h⟩
  | stored => cases hf : g.fault != 0 <;> exact ⟨rfl, rfl, rfl, rfl, rfl, fun h => by first | exact h | cases h⟩
  | tried =>
    cases hf : g.fault != 0
    · cases ho : !g.ok <;> exact ⟨rfl, rfl, rfl, rfl, rfl, fun h => by first | exact h | cases h⟩
    · exact ⟨rfl, rfl, rfl, rfl, rfl, fun h => by cases h⟩

theorem takeRn_ok {m : Mode} {y : Rn} (g : Gt) (h : RnOk y) : RnOk (takeRn m y g) := by
  obtain ⟨h1, h2, h3, h4, _, h5⟩ := takeRn_same m y g
  exact ⟨by rw [h1]; exact h.n1, fun i hi => by rw [h1] at hi ⊢; rw [h2]; exact h.op i hi, fun i hi => by rw [h1] at hi ⊢; rw [h2]; exact h.ends i hi, by rw [h3]; exact h.e0, by rw [h3]; exact h.e1, by rw [h4]; exact h.t0, by rw [h4, h1]; exact h.t1, fun q => by rw [h4, h1]; exact h.t2 (h5 q)⟩

theorem stepK_mode {k : Int} {x : Rn} (h : (stepK k x).1 ≠ .off) : (stepK k x).2.left = x.left := by
  revert h
  unfold stepK
  split
  case h_15 =>
    unfold Rn.access
    cases bitsI .and .u64 x.a 7 != 0
    · simp only [cond_false]
      split <;> exact fun _ => rfl
    · exact fun h => (h rfl).elim
  all_goals first | exact fun h => (h rfl).elim | exact fun _ => rfl

theorem nxEnd_ok {x : Rn} (h : RnOk x) : RnOk (nxEndS (.off, x)).2 ∧ ((nxEndS (.off, x)).1 ≠ .off → (nxEndS (.off, x)).2.left = false ∧ 1 ≤ (nxEndS (.off, x)).2.at_) := by
  rw [nxEndS_eq]
  refine endOf_ind (next := nxNext) (fun p => RnOk p.2 ∧ (p.1 ≠ .off → p.2.left = false ∧ 1 ≤ p.2.at_)) ?_ _ (.off, x) ⟨h, fun q => (q rfl).elim⟩
  rintro p q ⟨h1, h2⟩ hn
  obtain ⟨g1, g2, rfl⟩ := nxNext_some hn
  obtain ⟨g3, g4, g5⟩ := stepRn_ok h1 g2
  refine ⟨g3, fun hm => ⟨?_, ?_⟩⟩
  · exact (stepK_mode hm).trans g2
  · rw [g4]; have := h1.t0; omega

/-! ### The loop -/

def kpP (x : Kp) : Mode × Rn := nxEndS (.off, x.r)
def kpSk (x : Kp) (p : Mode × Rn) (g : Gt) (ki : Int) : Sk := Sk.ite (decide (x.i ≤ (↑x.b.n : Int))) (Sk.need (RnOk x.r) (Sk.ite (p.1.code.beq (0 : Nat)) Sk.ret (Sk.ite (p.1.code.beq (1 : Nat)) (Sk.ite (decide (x.i < (↑x.a.m : Int))) (Sk.need ((0 : Int) ≤ x.i ∧ x.i < (↑x.a.m : Int)) (Sk.need (x.i.toNat < x.a.N) Sk.ret)) Sk.ret) (Sk.ite (p.1.code.beq (2 : Nat)) (Sk.ite (decide (x.i < (↑x.a.m : Int))) (Sk.need ((0 : Int) ≤ x.i ∧ x.i < (↑x.a.m : Int)) (Sk.need (x.i.toNat < x.a.N) (Sk.ite (g.fault != (0 : Int)) Sk.ret (Sk.need ((0 : Int) ≤ ki ∧ ki < (↑p.2.n : Int)) (Sk.need (ki.toNat < p.2.n) Sk.ret))))) (Sk.need ((0 : Int) ≤ ki ∧ ki < (↑p.2.n : Int)) (Sk.need (ki.toNat < p.2.n) Sk.ret))) (Sk.ite (p.1.code.beq (3 : Nat)) (Sk.ite (decide (x.i < (↑x.a.m : Int))) (Sk.need ((0 : Int) ≤ x.i ∧ x.i < (↑x.a.m : Int)) (Sk.need (x.i.toNat < x.a.N) (Sk.ite (g.fault != (0 : Int)) Sk.ret Sk.ret))) Sk.ret) (Sk.ite (decide (x.i < (↑x.a.m : Int))) (Sk.need ((0 : Int) ≤ x.i ∧ x.i < (↑x.a.m : Int)) (Sk.need (x.i.toNat < x.a.N) (Sk.ite (g.fault != (0 : Int)) Sk.ret (Sk.ite (!g.ok) (Sk.need ((0 : Int) ≤ ki ∧ ki < (↑p.2.n : Int)) (Sk.need (ki.toNat < p.2.n) Sk.ret)) Sk.ret)))) (Sk.need ((0 : Int) ≤ ki ∧ ki < (↑p.2.n : Int)) (Sk.need (ki.toNat < p.2.n) Sk.ret)))))))).fit Sk.ret

theorem kp_sk (x : Kp) (h : Nat → Value) : (kpRound x h).sk = kpSk x (kpP x) (x.a.got x.i.toNat) (IntKind.i64.wrap ((kpP x).2.at_ - 1)) := by kernel_rfl

def kpNext (x : Kp) : Option Kp :=
  bif decide (x.i ≤ x.b.n) then (match (kpP x).1 with
    | .off => none
    | m => some { x with r := takeRn m (kpP x).2 (gotAt x.a x.i), i := IntKind.i64.wrap (x.i + 1) }) else none
def kpLast (x : Kp) : Rn := bif decide (x.i ≤ x.b.n) then (kpP x).2 else x.r

structure KpInv (x : Kp) : Prop where
  r : RnOk x.r
  m : x.a.m ≤ x.a.N
  i0 : 0 ≤ x.i
  i1 : x.i ≤ x.b.n + 1
  n : x.b.n ≤ 512
def kpMu (x : Kp) : Nat := (x.b.n + 1 - x.i).toNat

theorem kpNext_some {x y : Kp} (h : kpNext x = some y) : x.i ≤ x.b.n ∧ (kpP x).1 ≠ .off ∧ y = { x with r := takeRn (kpP x).1 (kpP x).2 (gotAt x.a x.i), i := IntKind.i64.wrap (x.i + 1) } := by
  unfold kpNext at h
  cases hc : decide (x.i ≤ x.b.n) with
  | false => rw [hc] at h; cases h
  | true =>
    rw [hc] at h
    refine ⟨of_decide_eq_true hc, ?_⟩
    simp only [cond_true] at h
    split at h
    · cases h
    · rename_i hne
      cases h
      exact ⟨hne, rfl⟩

theorem kp_dec (x y : Kp) (hi : KpInv x) (hn : kpNext x = some y) : KpInv y ∧ kpMu y < kpMu x ∧ y.i = x.i + 1 := by
  obtain ⟨h1, h2, rfl⟩ := kpNext_some hn
  have h3 := nxEnd_ok hi.r
  have h4 := hi.i0
  have h5 := hi.n
  have hw : IntKind.i64.wrap (x.i + 1) = x.i + 1 := IntWalk.i64_in _ (by omega)
  refine ⟨⟨takeRn_ok _ h3.1, hi.m, ?_, ?_, hi.n⟩, ?_, hw⟩
  · show 0 ≤ IntKind.i64.wrap (x.i + 1); rw [hw]; omega
  · show IntKind.i64.wrap (x.i + 1) ≤ (x.b.n : Int) + 1; rw [hw]; omega
  · show ((x.b.n : Int) + 1 - IntKind.i64.wrap (x.i + 1)).toNat < ((x.b.n : Int) + 1 - x.i).toNat; rw [hw]; omega

noncomputable def kpFin (x : Kp) : T (Ex × St) := .ret (.exit 0, ⟨slots 134 [(3, pt 2), (8, pt 5)], ⟨[opsO x.b.N x.b.ops, gtsO x.a.N x.a.got, .cells false 25 true (x.b.cells 0), opsO x.r.n x.r.ops, valsO (kpLast x).n (kpLast x).vals, runO (kpLast x) .off 3 4 5], 4⟩⟩)

theorem kp_go (x : Kp) (h : Nat → Value) (hi : KpInv x) (hle : x.i ≤ x.b.n) (hm : (kpP x).1 ≠ .off) :
    (kpSk x (kpP x) (x.a.got x.i.toNat) (IntKind.i64.wrap ((kpP x).2.at_ - 1))).Holds (KL 6 [4, 6, 7] h .normal ⟨kpS { x with r := takeRn (kpP x).1 (kpP x).2 (gotAt x.a x.i), i := IntKind.i64.wrap (x.i + 1) }, ⟨kpM { x with r := takeRn (kpP x).1 (kpP x).2 (gotAt x.a x.i), i := IntKind.i64.wrap (x.i + 1) }, 4⟩⟩) (kpRound x h) := by
  have hp := nxEnd_ok hi.r
  have hat := hp.2 hm
  have hok := hp.1
  have hlt := hok.t2 hat.1
  have hn1 := hok.n1
  have h0 := hi.i0
  have hmN := hi.m
  have hki : IntKind.i64.wrap ((kpP x).2.at_ - 1) = (kpP x).2.at_ - 1 := IntWalk.i64_in _ (by have := hat.2; unfold kpP; omega)
  have k1 : (0 : Int) ≤ IntKind.i64.wrap ((kpP x).2.at_ - 1) ∧ IntKind.i64.wrap ((kpP x).2.at_ - 1) < ((kpP x).2.n : Int) := by
    rw [hki]; have := hat.2; unfold kpP; omega
  have k2 : (IntKind.i64.wrap ((kpP x).2.at_ - 1)).toNat < (kpP x).2.n := by omega
  have hcases : (kpP x).1 = .passed ∨ (kpP x).1 = .loaded ∨ (kpP x).1 = .stored ∨ (kpP x).1 = .tried := by
    revert hm
    cases (kpP x).1 <;> simp
  unfold kpSk
  have d1 : decide (x.i ≤ (x.b.n : Int)) = true := decide_eq_true hle
  have e1 : ∀ v, decide (x.i < (x.a.m : Int)) = v → gotAt x.a x.i = bif v then x.a.got x.i.toNat else ⟨0, false, 0⟩ := fun v hv => by unfold gotAt; rw [hv]
  rcases hcases with hq | hq | hq | hq
  all_goals
    rw [hq]
    simp only [Sk.Holds, d1, Mode.code, show Nat.beq 1 0 = false from rfl, show Nat.beq 2 0 = false from rfl, show Nat.beq 3 0 = false from rfl, show Nat.beq 4 0 = false from rfl, show Nat.beq 1 1 = true from rfl, show Nat.beq 2 1 = false from rfl, show Nat.beq 3 1 = false from rfl, show Nat.beq 4 1 = false from rfl,
      show Nat.beq 2 2 = true from rfl, show Nat.beq 3 2 = false from rfl, show Nat.beq 4 2 = false from rfl, show Nat.beq 3 3 = true from rfl, show Nat.beq 4 3 = false from rfl, Bool.false_eq_true, Bool.true_eq_false, true_implies, false_implies, and_true, true_and]
    refine ⟨by kernel_rfl, hi.r, ?_⟩
  · refine ⟨fun q => ⟨⟨h0, of_decide_eq_true q⟩, by have := of_decide_eq_true q; omega, ?_⟩, fun q => ?_⟩
    · rw [e1 _ q]; exact KL.mk [0, 1, 2, 3, 4, 5] (by kernel_rfl)
    · rw [e1 _ q]; exact KL.mk [0, 1, 2, 3, 4, 5] (by kernel_rfl)
  · refine ⟨fun q => ⟨⟨h0, of_decide_eq_true q⟩, by have := of_decide_eq_true q; omega, fun q2 => ?_, fun q2 => ⟨k1, k2, ?_⟩⟩, fun q => ⟨k1, k2, ?_⟩⟩
    · rw [e1 _ q, show takeRn .loaded (kpP x).2 (bif true then x.a.got x.i.toNat else ⟨0, false, 0⟩) = bif (x.a.got x.i.toNat).fault != 0 then (kpP x).2.stop else (kpP x).2.setV (x.a.got x.i.toNat).v from rfl, q2]
      exact KL.mk [0, 1, 2, 3, 4, 5] (by kernel_rfl)
    · rw [e1 _ q, show takeRn .loaded (kpP x).2 (bif true then x.a.got x.i.toNat else ⟨0, false, 0⟩) = bif (x.a.got x.i.toNat).fault != 0 then (kpP x).2.stop else (kpP x).2.setV (x.a.got x.i.toNat).v from rfl, q2]
      exact KL.mk [0, 1, 2, 3, 4, 5] (by kernel_rfl)
    · rw [e1 _ q]; exact KL.mk [0, 1, 2, 3, 4, 5] (by kernel_rfl)
  · refine ⟨fun q => ⟨⟨h0, of_decide_eq_true q⟩, by have := of_decide_eq_true q; omega, fun q2 => ?_, fun q2 => ?_⟩, fun q => ?_⟩
    · rw [e1 _ q, show takeRn .stored (kpP x).2 (bif true then x.a.got x.i.toNat else ⟨0, false, 0⟩) = bif (x.a.got x.i.toNat).fault != 0 then (kpP x).2.stop else (kpP x).2 from rfl, q2]
      exact KL.mk [0, 1, 2, 3, 4, 5] (by kernel_rfl)
    · rw [e1 _ q, show takeRn .stored (kpP x).2 (bif true then x.a.got x.i.toNat else ⟨0, false, 0⟩) = bif (x.a.got x.i.toNat).fault != 0 then (kpP x).2.stop else (kpP x).2 from rfl, q2]
      exact KL.mk [0, 1, 2, 3, 4, 5] (by kernel_rfl)
    · rw [e1 _ q]; exact KL.mk [0, 1, 2, 3, 4, 5] (by kernel_rfl)
  · refine ⟨fun q => ⟨⟨h0, of_decide_eq_true q⟩, by have := of_decide_eq_true q; omega, fun q2 => ?_, fun q2 => ⟨fun q3 => ⟨k1, k2, ?_⟩, fun q3 => ?_⟩⟩, fun q => ⟨k1, k2, ?_⟩⟩
    all_goals try rw [e1 _ q, show takeRn .tried (kpP x).2 (bif true then x.a.got x.i.toNat else ⟨0, false, 0⟩) = bif (x.a.got x.i.toNat).fault != 0 then (kpP x).2.stop else bif !(x.a.got x.i.toNat).ok then (kpP x).2.setV 1 else (kpP x).2 from rfl, q2]
    · exact KL.mk [0, 1, 2, 3, 4, 5] (by kernel_rfl)
    · rw [q3]; exact KL.mk [0, 1, 2, 3, 4, 5] (by kernel_rfl)
    · rw [q3]; exact KL.mk [0, 1, 2, 3, 4, 5] (by kernel_rfl)
    · rw [e1 _ q]; exact KL.mk [0, 1, 2, 3, 4, 5] (by kernel_rfl)
end Go.Proofs.YtomeoihdhkmamaaDoor
