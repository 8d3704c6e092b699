/- Next's loop: its law. -/
import Derived.Test.YtomeoihdhkmamaaDoorZyN
set_option linter.unusedVariables false
set_option linter.unusedSimpArgs false
namespace Go.Proofs.YtomeoihdhkmamaaDoor
open Go.X
set_option maxRecDepth 100000

theorem stepK_same (k : Int) (x : Rn) : (stepK k x).2.n = x.n ∧ (stepK k x).2.ops = x.ops ∧ (stepK k x).2.el = x.el ∧ (stepK k x).2.at_ = x.at1 := by
  unfold stepK
  split
  case h_15 =>
    unfold Rn.access
    cases bitsI .and .u64 x.a 7 != 0
    · simp only [cond_false]
      split <;> exact ⟨rfl, rfl, rfl, rfl⟩
    · exact ⟨rfl, rfl, rfl, rfl⟩
  all_goals try exact ⟨rfl, rfl, rfl, rfl⟩
  · unfold Rn.getF; cases x.c.flag x.o.r <;> exact ⟨rfl, rfl, rfl, rfl⟩
  · unfold Rn.exitIf; cases x.a != 0 <;> exact ⟨rfl, rfl, rfl, rfl⟩

theorem stepK_ends {k : Int} (x : Rn) (h : endsB k = true) : (stepK k x).2.left = true := by
  unfold endsB at h
  simp only [Bool.or_eq_true, decide_eq_true_eq] at h
  rcases h with (rfl | rfl) | rfl <;> rfl

theorem stepRn_ok {x : Rn} (h : RnOk x) (hl : x.left = false) : RnOk (stepRn x).2 ∧ (stepRn x).2.at_ = x.at_ + 1 ∧ (stepRn x).2.n = x.n := by
  obtain ⟨h1, h2, h3, h4⟩ := stepK_same x.o.k x
  have hat := h.t2 hl
  have ht0 := h.t0
  have h5 : (stepRn x).2.at_ = x.at_ + 1 := h4.trans h.at1
  have h1 : (stepRn x).2.n = x.n := h1
  have h2 : (stepRn x).2.ops = x.ops := h2
  have h3 : (stepRn x).2.el = x.el := h3
  refine ⟨⟨by rw [h1]; exact h.n1, ?_, ?_, by rw [h3]; exact h.e0, by rw [h3]; exact h.e1, by rw [h5]; omega, by rw [h5, h1]; omega, fun q => ?_⟩, h5, h1⟩
  · intro i hi
    rw [h1] at hi ⊢
    rw [h2]
    exact h.op i hi
  · intro i hi
    rw [h1] at hi ⊢
    rw [h2]
    exact h.ends i hi
  · rw [h5, h1]
    have he := h.ends x.at_.toNat (by omega)
    cases hb : endsB (x.ops x.at_.toNat).k with
    | true =>
      have : (stepRn x).2.left = true := stepK_ends x hb
      rw [q] at this
      cases this
    | false =>
      rw [hb] at he
      have := of_decide_eq_false he.symm
      omega

def Mode.code : Mode → Nat
  | .off => 0 | .passed => 1 | .loaded => 2 | .stored => 3 | .tried => 4

def nxNext (p : Mode × Rn) : Option (Mode × Rn) :=
  match p.1 with
  | .off => bif p.2.left then none else some (stepRn p.2)
  | _ => none
def nxMu (p : Mode × Rn) : Nat := p.2.n - p.2.at_.toNat
def nxInv (p : Mode × Rn) : Prop := RnOk p.2
def nxEnd (p : Mode × Rn) : Mode × Rn := endOf nxNext (nxMu p) p

/-- By what takes the answer. -/
def byMode {α : Type} (m : Mode) (g : Mode → T α) : T α :=
  .ite (Nat.beq m.code 0) (g .off) (.ite (Nat.beq m.code 1) (g .passed) (.ite (Nat.beq m.code 2) (g .loaded) (.ite (Nat.beq m.code 3) (g .stored) (g .tried))))

theorem byMode_inv {α : Type} {m : Mode} {g : Mode → T α} {a : α} (h : Leads (byMode m g) a) : Leads (g m) a := by
  have no : ∀ {c : Bool} {x y : T α}, Leads (.ite c x y) a → c = false → Leads y a := fun h hc => by
    rcases h.ite_inv with ⟨h1, _⟩ | ⟨_, h1⟩
    · rw [hc] at h1; cases h1
    · exact h1
  have yes : ∀ {c : Bool} {x y : T α}, Leads (.ite c x y) a → c = true → Leads x a := fun h hc => by
    rcases h.ite_inv with ⟨_, h1⟩ | ⟨h1, _⟩
    · exact h1
    · rw [hc] at h1; cases h1
  unfold byMode at h
  cases m
  · exact yes h rfl
  · exact yes (no h rfl) rfl
  · exact yes (no (no h rfl) rfl) rfl
  · exact yes (no (no (no h rfl) rfl) rfl) rfl
  · exact no (no (no (no h rfl) rfl) rfl) rfl

theorem byMode_of {α : Type} {m : Mode} {g : Mode → T α} {a : α} (h : Leads (g m) a) : Leads (byMode m g) a := by
  unfold byMode
  cases m
  · exact .yes rfl h
  · exact .no rfl (.yes rfl h)
  · exact .no rfl (.no rfl (.yes rfl h))
  · exact .no rfl (.no rfl (.no rfl (.yes rfl h)))
  · exact .no rfl (.no rfl (.no rfl (.no rfl h)))

noncomputable def nxFin (p : Mode × Rn) : T (Ex × St) := byMode p.1 fun m => .ret (.exit 0, ⟨nxS, ⟨p.2.objs m, 1⟩⟩)
/-- .. with what stays told as it was told. -/
def nxEndS (p : Mode × Rn) : Mode × Rn := ((nxEnd p).1, { (nxEnd p).2 with n := p.2.n, ops := p.2.ops, el := p.2.el })
noncomputable def nxZ (p : Mode × Rn) : T (Ex × St) := .need (RnOk p.2) (nxFin (nxEndS p))
def nxM (p : Mode × Rn) : List O := p.2.objs p.1

theorem nxNext_some {p q : Mode × Rn} (h : nxNext p = some q) : p.1 = .off ∧ p.2.left = false ∧ q = stepRn p.2 := by
  obtain ⟨m, x⟩ := p
  unfold nxNext at h
  cases m with
  | off =>
    simp only at h
    cases hl : x.left with
    | true => rw [hl] at h; cases h
    | false => rw [hl] at h; cases h; exact ⟨rfl, rfl, rfl⟩
  | _ => cases h

theorem nx_dec (p q : Mode × Rn) (hi : nxInv p) (hn : nxNext p = some q) : nxInv q ∧ nxMu q < nxMu p := by
  obtain ⟨h1, h2, rfl⟩ := nxNext_some hn
  obtain ⟨h3, h4, h5⟩ := stepRn_ok hi h2
  refine ⟨h3, ?_⟩
  unfold nxMu
  rw [h4, h5]
  have := hi.t2 h2
  have := hi.t0
  omega

theorem nxEnd_same (p : Mode × Rn) : (nxEnd p).2.n = p.2.n ∧ (nxEnd p).2.ops = p.2.ops ∧ (nxEnd p).2.el = p.2.el := by
  refine endOf_ind (next := nxNext) (fun q => q.2.n = p.2.n ∧ q.2.ops = p.2.ops ∧ q.2.el = p.2.el) ?_ _ p ⟨rfl, rfl, rfl⟩
  rintro q q' ⟨h1, h2, h3⟩ hn
  obtain ⟨_, _, rfl⟩ := nxNext_some hn
  obtain ⟨g1, g2, g3, _⟩ := stepK_same q.2.o.k q.2
  exact ⟨g1.trans h1, g2.trans h2, g3.trans h3⟩

theorem nxEndS_eq (p : Mode × Rn) : nxEndS p = nxEnd p := by
  obtain ⟨h1, h2, h3⟩ := nxEnd_same p
  unfold nxEndS
  rw [← h1, ← h2, ← h3]

noncomputable def nxRoundM (m : Mode) (x : Rn) (h : Nat → Value) : T (Ex × St) := exec Tryd.prog E7 200 10 nxBody ⟨fill [2, 3] h 0 nxS, ⟨x.objs m, 1⟩⟩
theorem nx_sk1 (x : Rn) (h : Nat → Value) : (nxRoundM .passed x h).sk = .ite (!x.left) .ret .ret := by kernel_rfl
theorem nx_sk2 (x : Rn) (h : Nat → Value) : (nxRoundM .loaded x h).sk = .ite (!x.left) .ret .ret := by kernel_rfl
theorem nx_sk3 (x : Rn) (h : Nat → Value) : (nxRoundM .stored x h).sk = .ite (!x.left) .ret .ret := by kernel_rfl
theorem nx_sk4 (x : Rn) (h : Nat → Value) : (nxRoundM .tried x h).sk = .ite (!x.left) .ret .ret := by kernel_rfl

theorem nx_sum : SumS Tryd.prog nxBody [2, 3] (fun _ => nxS) nxM nxZ := by
  refine SumS.of_rounds E7_ok 200 Tryd.func10 rfl (within_of_mem (bodyIs.mk (id := 1) (by kernel_rfl)).mem) nxM 1 3 nxInv nxNext nxMu nxFin (by rfl) ?_ ?_ ?_
  · intro p r hl
    obtain ⟨hi, hl⟩ := hl.need_inv
    rw [nxEndS_eq] at hl
    exact ⟨hi, rfl, ⟨[], (List.append_nil _).symm, trivial⟩, hl⟩
  · intro p q h hi hn
    obtain ⟨g1, g2⟩ := nx_dec p q hi hn
    refine ⟨g1, g2, ?_⟩
    obtain ⟨h1, h2, rfl⟩ := nxNext_some hn
    obtain ⟨m, x⟩ := p
    simp only at h1 h2
    subst h1
    exact round_of (nx_sk x h) (nx_leads x h hi h2)
  · intro p h hi hn e st hl
    have hl := byMode_inv hl
    have hl := hl.ret_inv
    simp only [Prod.mk.injEq] at hl
    obtain ⟨rfl, rfl⟩ := hl
    refine ⟨fun q => (by cases q), ?_⟩
    obtain ⟨m, x⟩ := p
    cases m with
    | off =>
      have hleft : x.left = true := by
        cases hq : x.left with
        | true => rfl
        | false => unfold nxNext at hn; simp only [hq] at hn; cases hn
      refine round_of (nx_sk x h) ?_
      unfold nxSk
      refine ⟨fun q => (by rw [hleft] at q; cases q), fun _ => KL.mk [0, 1, 2] (by kernel_rfl)⟩
    | passed => exact round_of (nx_sk1 x h) ⟨fun _ => KL.mk [0, 1, 2] (by kernel_rfl), fun _ => KL.mk [0, 1, 2] (by kernel_rfl)⟩
    | loaded => exact round_of (nx_sk2 x h) ⟨fun _ => KL.mk [0, 1, 2] (by kernel_rfl), fun _ => KL.mk [0, 1, 2] (by kernel_rfl)⟩
    | stored => exact round_of (nx_sk3 x h) ⟨fun _ => KL.mk [0, 1, 2] (by kernel_rfl), fun _ => KL.mk [0, 1, 2] (by kernel_rfl)⟩
    | tried => exact round_of (nx_sk4 x h) ⟨fun _ => KL.mk [0, 1, 2] (by kernel_rfl), fun _ => KL.mk [0, 1, 2] (by kernel_rfl)⟩
end Go.Proofs.YtomeoihdhkmamaaDoor
