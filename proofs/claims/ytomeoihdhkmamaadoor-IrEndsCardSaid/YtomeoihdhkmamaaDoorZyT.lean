/- IrKeeps: its first loop. -/
import Derived.Test.YtomeoihdhkmamaaDoorZyS
set_option linter.unusedVariables false
set_option linter.unusedSimpArgs false
namespace Go.Proofs.YtomeoihdhkmamaaDoor
open Go.X
set_option maxRecDepth 100000

/-- The run behind the loop. -/
def kpEnd (x : Kp) : Rn := kpLast (endOf kpNext (kpMu x) x)
noncomputable def kpOut (x : Kp) (r : Rn) : Ex × St := (.exit 0, ⟨slots 134 [(3, pt 2), (8, pt 5)], ⟨[opsO x.b.N x.b.ops, gtsO x.a.N x.a.got, .cells false 25 true (x.b.cells 0), opsO x.r.n x.r.ops, valsO x.r.n r.vals, runO { r with n := x.r.n } .off 3 4 5], 4⟩⟩)
noncomputable def kpFin2 (x : Kp) : T (Ex × St) := .ret (kpOut x (kpLast x))
noncomputable def kpZ (x : Kp) : T (Ex × St) := .need (KpInv x) (.ret (kpOut x (kpEnd x)))

theorem kpNext_none {x : Kp} (h : kpNext x = none) (hle : decide (x.i ≤ x.b.n) = true) : (kpP x).1 = .off := by
  unfold kpNext at h
  rw [hle] at h
  simp only [cond_true] at h
  split at h
  · assumption
  · cases h

theorem kp_same (x y : Kp) (h : kpNext x = some y) : y.b = x.b ∧ y.a = x.a ∧ y.r.n = x.r.n ∧ y.r.ops = x.r.ops := by
  obtain ⟨_, _, rfl⟩ := kpNext_some h
  obtain ⟨h1, h2, _⟩ := takeRn_same (kpP x).1 (kpP x).2 (gotAt x.a x.i)
  exact ⟨rfl, rfl, h1, h2⟩

theorem kpEnd_same (x : Kp) : (endOf kpNext (kpMu x) x).b = x.b ∧ (endOf kpNext (kpMu x) x).a = x.a ∧ (endOf kpNext (kpMu x) x).r.n = x.r.n ∧ (endOf kpNext (kpMu x) x).r.ops = x.r.ops := by
  refine endOf_ind (next := kpNext) (fun y => y.b = x.b ∧ y.a = x.a ∧ y.r.n = x.r.n ∧ y.r.ops = x.r.ops) ?_ _ x ⟨rfl, rfl, rfl, rfl⟩
  rintro y z ⟨h1, h2, h3, h4⟩ hn
  obtain ⟨g1, g2, g3, g4⟩ := kp_same y z hn
  exact ⟨g1.trans h1, g2.trans h2, g3.trans h3, g4.trans h4⟩

theorem kp_sum : SumS Tryd.prog kpBody [4, 6, 7] kpS kpM kpZ := by
  refine SumS.of_rounds E10_ok 200 Tryd.func4 rfl (within_of_mem (bodyIs.mk (id := 8) (by kernel_rfl)).mem) kpM 4 6 KpInv kpNext kpMu kpFin2 (by rfl) ?_ ?_ ?_
  · intro x r hl
    obtain ⟨hi, hl⟩ := hl.need_inv
    refine ⟨hi, rfl, ⟨[], (List.append_nil _).symm, trivial⟩, ?_⟩
    obtain ⟨h1, h2, h3, h4⟩ := kpEnd_same x
    have e : kpOut (endOf kpNext (kpMu x) x) (kpEnd x) = kpOut x (kpEnd x) := by
      unfold kpOut
      rw [h1, h2, h3, h4]
    rw [← e] at hl
    exact hl
  · intro x y h hi hn
    obtain ⟨g1, g2, g3⟩ := kp_dec x y hi hn
    refine ⟨g1, g2, ?_⟩
    obtain ⟨h1, h2, rfl⟩ := kpNext_some hn
    exact round_of (kp_sk x h) (kp_go x h hi h1 h2)
  · intro x h hi hn e st hl
    have hl := hl.ret_inv
    unfold kpOut at hl
    simp only [Prod.mk.injEq] at hl
    obtain ⟨rfl, rfl⟩ := hl
    refine ⟨fun q => (by cases q), round_of (kp_sk x h) ?_⟩
    unfold kpSk
    cases hc : decide (x.i ≤ (x.b.n : Int)) with
    | true =>
      have hm := kpNext_none hn hc
      rw [show kpLast x = (kpP x).2 by unfold kpLast; rw [hc]; rfl]
      simp only [Sk.Holds, hm, Mode.code, show Nat.beq 0 0 = true from rfl, Bool.true_eq_false, true_implies, false_implies, and_true]
      exact ⟨by kernel_rfl, hi.r, KL.mk [0, 1, 2, 3, 4, 5] (by kernel_rfl)⟩
    | false =>
      rw [show kpLast x = x.r by unfold kpLast; rw [hc]; rfl]
      simp only [Sk.Holds, Bool.false_eq_true, true_implies, false_implies, true_and]
      exact KL.mk [0, 1, 2, 3, 4, 5] (by kernel_rfl)

theorem blk_refs (b : Blk) {P : A → Prop} (h : P ⟨0, 0, 0, 0, 0⟩) : refsL P (b.cells 0) := ⟨trivial, trivial, trivial, h, trivial⟩
theorem ops_refs (N : Nat) (ops : Nat → Op6) {P : A → Prop} : refsO P (opsO N ops) := ⟨fun k _ => ⟨trivial, trivial, trivial, trivial, trivial, trivial, trivial⟩, trivial⟩
theorem gts_refs (N : Nat) (got : Nat → Gt) {P : A → Prop} : refsO P (gtsO N got) := ⟨fun k _ => ⟨trivial, trivial, trivial, trivial⟩, trivial⟩
theorem vals_refs (N : Nat) (f : Nat → Int) {P : A → Prop} : refsO P (valsO N f) := ⟨fun k _ => ⟨trivial, trivial⟩, trivial⟩
theorem run_refs (r : Rn) (m : Mode) (o v me : Nat) {P : A → Prop} (ho : P ⟨o, 0, 0, 0, 0⟩) (hv : P ⟨v, 0, 0, 0, 0⟩) (hm : P ⟨me, 0, 0, 0, 0⟩) : refsO P (runO r m o v me) := by
  show refsL P (r.cells m o v me)
  refine ⟨ho, trivial, trivial, ?_⟩
  refine ⟨fun k _ => ⟨trivial, trivial⟩, fun k _ => ⟨trivial, trivial⟩, trivial, trivial, trivial, trivial, trivial, trivial, trivial, trivial, trivial, trivial, trivial, trivial, trivial, trivial, trivial, trivial, hv, ?_⟩
  refine ⟨trivial, trivial, trivial, trivial, trivial, trivial, trivial, trivial, trivial, trivial, ?_, trivial, trivial, trivial, trivial, trivial⟩
  cases m
  · exact trivial
  all_goals exact ⟨⟨hm, trivial⟩, trivial⟩

theorem kp_sound : Sound kpS kpM kpZ (fun r => some r.2.mem) := by
  intro x
  refine ⟨⟨?_, ops_refs .., gts_refs .., blk_refs _ (.inl ⟨_, rfl, rfl⟩), ops_refs .., vals_refs .., run_refs _ _ _ _ _ (.inl ⟨_, rfl, rfl⟩) (.inl ⟨_, rfl, rfl⟩) (.inl ⟨_, rfl, rfl⟩), trivial⟩, ?_⟩
  · show refsL _ (slots 134 _)
    repeat' first | exact trivial | exact .inl ⟨_, rfl, rfl⟩ | refine And.intro ?_ ?_
  · intro r m hl hm
    obtain ⟨hn, hl⟩ := hl.need_inv
    have hl := hl.ret_inv
    subst hl
    cases hm
    exact ⟨fun _ => trivial, fun _ => trivial, fun _ => trivial, fun _ => trivial, fun _ => trivial, fun _ => trivial, trivial⟩

def toGt : List V → Gt
  | [v, ok, f] => ⟨iv v, bv ok, iv f⟩
  | _ => ⟨0, false, 0⟩

noncomputable def ansAt (objs : List O) (v : V) : Option (Nat × Ans) :=
  match v with
  | .slice a m c _ => match objL objs a.id with
    | some (.cells _ _ _ [.arr N _ f]) => some (a.id, ⟨m, c, N, fun k => toGt (f k)⟩)
    | _ => none
  | _ => none

noncomputable def blkAt (objs : List O) (v : V) : Option (Nat × Nat × Blk) :=
  match v with
  | .ptr p => match objL objs p.id with
    | some (.cells _ _ _ cs) => match getL cs 3 with
      | .slice a _ _ _ => match objL objs a.id with
        | some (.cells _ _ _ [.arr N _ f]) => match toBlk cs N f with
          | some b => some (p.id, a.id, b)
          | none => none
        | _ => none
      | _ => none
    | _ => none
  | _ => none

noncomputable def kpI (st : St) : Option (List Nat × Kp) :=
  match ansAt st.mem.objs (getL st.tm 2), blkAt st.mem.objs (getL st.tm 3), rnAt st.mem.objs (getL st.tm 8) with
  | some (ai, a), some (pi, oi, b), some ([o, v, me], _, r) => some ([oi, ai, pi, o, v, me], ⟨b, a, r, iv (getL st.tm 10)⟩)
  | _, _, _ => none

noncomputable def E11 : Env := E10.addSum 4 8 (framedL [4, 6, 7] kpI kpS kpM kpZ)
theorem E11_ok : EnvOk Tryd.prog E11 := E10_ok.addSum Tryd.func4 rfl (bodyIs.mk (id := 8) (by kernel_rfl)) (kp_sum.ok kp_sound kpI)

/-! ### The second loop: what may have changed is set back -/

structure K2 where
  b : Blk
  c : Cor
  d : Cor
  i : Int
def corO (c : Cor) : O := .cells false 29 true c.cells
noncomputable def k2S (x : K2) : List V := slots 134 [(3, pt 1), (4, pt 2), (14, pt 3), (15, .sint .i64 x.i)]
def k2M (x : K2) : List O := [opsO x.b.N x.b.ops, .cells false 25 true (x.b.cells 0), corO x.c, .cells true 29 false x.d.cells]
noncomputable def k2Body : Code := loopAt (Tryd.prog.funcs[4]?.bind (·.body)) 19
noncomputable def k2Round (x : K2) (h : Nat → Value) : T (Ex × St) := exec Tryd.prog E11 200 4 k2Body ⟨fill [6, 7] h 0 (k2S x), ⟨k2M x, 3⟩⟩
end Go.Proofs.YtomeoihdhkmamaaDoor
