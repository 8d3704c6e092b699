/- Right of chapter 16: its contract. -/
import Derived.Test.YtomeoihdhkmamaaDoorZyI
set_option linter.unusedVariables false
set_option linter.unusedSimpArgs false
namespace Go.Proofs.YtomeoihdhkmamaaDoor
open Go.X
set_option maxRecDepth 100000

theorem rl_sound : Sound rlS rlM rlZ (fun r => some r.2.mem) := by
  intro x
  refine ⟨⟨?_, ⟨?_, trivial⟩, ⟨trivial, trivial, trivial, .inl ⟨_, rfl, rfl⟩, trivial⟩, trivial⟩, ?_⟩
  · show refsL _ (slots 90 _)
    repeat' first | exact trivial | exact .inl ⟨_, rfl, rfl⟩ | refine And.intro ?_ ?_
  · exact fun k _ => ⟨trivial, trivial, trivial, trivial, trivial, trivial, trivial⟩
  · intro r m hl hm
    obtain ⟨hn, hl⟩ := hl.need_inv
    cases hm
    rcases hl.ite_inv with ⟨hc, hl⟩ | ⟨hc, hl⟩
    · have hl := hl.ret_inv
      subst hl
      exact ⟨fun _ => trivial, fun _ => trivial, trivial⟩
    · have hl := hl.ret_inv
      subst hl
      exact ⟨fun _ => trivial, fun _ => trivial, trivial⟩

noncomputable def toBlk (cs : List V) (N : Nat) (f : Nat → List V) : Option Blk :=
  match cs with
  | [p, w, e, .slice _ n c _] => some ⟨iv p, iv w, iv e, n, c, N, fun k => toOp (f k)⟩
  | _ => none

noncomputable def rlI (st : St) : Option (List Nat × RightL) :=
  match getL st.tm 60, getL st.tm 1 with
  | .slice a _ _ _, .ptr p => match objL st.mem.objs a.id, objL st.mem.objs p.id with
    | some (.cells _ _ _ [.arr N _ f]), some (.cells _ _ _ cs) => match toBlk cs N f with
      | some b => some ([a.id, p.id], ⟨b, iv (getL st.tm 62)⟩)
      | none => none
    | _, _ => none
  | _, _ => none

noncomputable def E5 : Env := E4.addSum 26 7 (framedL [] rlI rlS rlM rlZ)
theorem E5_ok : EnvOk Tryd.prog E5 := E4_ok.addSum Tryd.func26 rfl (bodyIs.mk (id := 7) (by kernel_rfl)) (rl_sum.ok rl_sound rlI)

def rbA (b : Blk) : List V := [.agg (b.cells 0)]
def rbM (b : Blk) : List O := [opsO b.N b.ops]
def rightB (b : Blk) : Bool := bitsI .and .u64 b.pc 3 == 0 && (decide (1 ≤ b.words) && (decide (b.words ≤ 16) && (decide (0 ≤ b.el) && (decide (b.el ≤ 1) && (decide (1 ≤ b.n) && (decide (b.n ≤ 512) && ((b.ops 0).k == 14 && ((b.ops 0).i == b.pc && allFrom (okAt b) 0 b.n))))))))

theorem rb_sk (b : Blk) : (call Tryd.prog E5 200 26 (rbA b) ⟨rbM b, 1⟩).sk =
  .ite (bitsI .and .u64 b.pc 3 != 0) .ret (.ite (decide (b.words < 1)) .ret (.ite (decide (b.words > 16)) .ret (.ite (decide (b.el < 0)) .ret (.ite (decide (b.el > 1)) .ret
    (.ite (decide ((b.n : Int) < 1)) .ret (.ite (decide ((b.n : Int) > 512)) .ret (.need ((0 : Int) ≤ 0 ∧ (0 : Int) < b.n) (.need (Int.toNat 0 < b.N) (.ite ((b.ops (Int.toNat 0)).k != 14) .ret
      (.need ((0 : Int) ≤ 0 ∧ (0 : Int) < b.n) (.need (Int.toNat 0 < b.N) (.ite ((b.ops (Int.toNat 0)).i != b.pc) .ret
        (.fit (.need (rlInv ⟨b, 0⟩) (.ite (allFrom (okAt b) (Int.toNat 0) (b.n - Int.toNat 0)) .ret .ret))))))))))))))) := by kernel_rfl

def rbZ (b : Blk) : T (V × Option Mem) := .need (b.n ≤ b.N) (.ret (.sbool (rightB b), none))

theorem rb_s : CallS Tryd.prog 26 rbA rbM rbZ := by
  refine CallS.of_call E5_ok 200 ?_
  intro b r hl
  obtain ⟨hn, hl⟩ := hl.need_inv
  have hl := hl.ret_inv
  subst hl
  refine call_of (rb_sk b) ?_
  simp only [Sk.Holds]
  refine ⟨fun q => KC.bool false (by kernel_rfl) ?_, fun q1 => ⟨fun q => KC.bool false (by kernel_rfl) ?_, fun q2 => ⟨fun q => KC.bool false (by kernel_rfl) ?_, fun q3 => ⟨fun q => KC.bool false (by kernel_rfl) ?_, fun q4 => ⟨fun q => KC.bool false (by kernel_rfl) ?_, fun q5 =>
    ⟨fun q => KC.bool false (by kernel_rfl) ?_, fun q6 => ⟨fun q => KC.bool false (by kernel_rfl) ?_, fun q7 => ⟨?_, ?_, fun q => KC.bool false (by kernel_rfl) ?_, fun q8 => ⟨?_, ?_, fun q => KC.bool false (by kernel_rfl) ?_, fun q9 => ⟨by kernel_rfl, ?_, fun q => KC.bool true (by kernel_rfl) ?_, fun q => KC.bool false (by kernel_rfl) ?_⟩⟩⟩⟩⟩⟩⟩⟩⟩⟩
  all_goals simp only [decide_eq_true_eq, decide_eq_false_iff_not, bne_iff_ne, bne_eq_false_iff_eq, Int.toNat_zero, Nat.sub_zero, ne_eq] at *
  all_goals first | omega | skip
  all_goals first | (unfold rightB; simp [*]; done) | skip
  all_goals first | (unfold rightB; simp; intros; omega) | skip
  · exact ⟨by simp, by simp, hn, by simp; omega, by simp; omega⟩
  · unfold rightB
    simp only [q, Bool.and_true, Bool.and_eq_true, beq_iff_eq, decide_eq_true_eq]
    refine ⟨q1, ?_, ?_, ?_, ?_, ?_, ?_, q8, q9⟩ <;> omega

theorem rb_sound : Sound rbA rbM rbZ (·.2) := by
  intro x
  refine ⟨⟨⟨⟨trivial, trivial, trivial, .inl ⟨_, rfl, rfl⟩, trivial⟩, trivial⟩, ⟨fun k _ => ⟨trivial, trivial, trivial, trivial, trivial, trivial, trivial⟩, trivial⟩, trivial⟩, ?_⟩
  intro r m hl hm
  obtain ⟨hn, hl⟩ := hl.need_inv
  have hl := hl.ret_inv
  subst hl
  cases hm

noncomputable def rbI (args : List V) (objs : List O) : Option (List Nat × Blk) :=
  match args with
  | [.agg cs] => match cs with
    | [_, _, _, .slice a _ _ _] => match objL objs a.id with
      | some (.cells _ _ _ [.arr N _ f]) => match toBlk cs N f with
        | some b => some ([a.id], b)
        | none => none
      | _ => none
    | _ => none
  | _ => none

/-- What is known of a block: whether it is right. -/
noncomputable def E6 : Env := E2.addExt 26 (framedC rbI rbA rbM rbZ)
theorem E6_ok : EnvOk Tryd.prog E6 := E2_ok.addExt (rb_s.ok rb_sound rbI)
end Go.Proofs.YtomeoihdhkmamaaDoor
