/- IrKeeps: its row. -/
import Derived.Test.YtomeoihdhkmamaaDoorZyX
import Derived.Test.YtomeoihdhkmamaaDoorRows
import Derived.WalkKit
import Derived.ProofKit
import Derived.OpenShut
import Derived.ChangeOld
import Derived.Below
import Derived.SizedLaws
import Derived.LaidMore
import Derived.Lay
import Derived.Carry
import Derived.Stop.Joined
import Derived.MakeChecks
set_option linter.unusedVariables false
namespace Go.Proofs.YtomeoihdhkmamaaDoor
open Go.X Go.ChangeShapes Go.WideShapes
open Go.RowKit (shut_bool Below)
set_option maxRecDepth 100000

theorem own : ownKnob Tryd.prog.godebug = none := by kernel_rfl
theorem laidOut : laidOutB Tryd.prog = true := by kernel_rfl

/-- Three arguments: a block, a state, answers. -/
noncomputable def zero3 : Array Value := #[.agg #[.int .u64 0, .int .i64 0, .int .i64 0, .slice none 0 0], .agg (List.toArray (List.replicate 34 (Value.int .u64 0) ++ [Value.bool false, Value.bool false, Value.bool false, Value.bool false, Value.int .i64 0, Value.bool false, Value.int .u64 0, Value.int .u64 0, Value.int .u64 0, Value.int .u64 0, Value.int .u64 0, Value.int .u64 0, Value.int .i64 0, Value.int .i64 0, Value.bool false])), .slice none 0 0]

/-- What a law of three such arguments owes: called, it returns true. -/
def True3 (f : FuncId) : Prop := ∀ (x : KeepX) (ρ : Ren) (w : World) (xs : List Value), x.b.n ≤ x.b.N → x.a.m ≤ x.a.N → Rel ρ ⟨keepM x, 2⟩ w → RL ρ (keepA x) xs → Calls Tryd.prog f xs.toArray w fun e w' => e = .returned (.bool true) ∧ Below w.heap.size w w'

theorem keep_true : True3 4 := by
  intro x ρ w xs h1 h2 hr hx
  refine (keep_s x (.sbool true) none xs ρ w (.need ⟨h1, h2⟩ (.ret _)) hr hx).mono ?_
  rintro e w' ⟨y, rfl, hy, hb⟩
  cases hy
  exact ⟨rfl, hb⟩

theorem row3 {f : FuncId} (hT : True3 f) {H : Type} {enc : TypeId × Value → H} {W : World} {base : Nat} {v0 v1 v2 : Value} {d0 d1 d2 : DataW H} {p0 p1 p2 : List MemPlace}
    (k0 : Value.okWide Tryd.prog W .any base 25 v0) (k1 : Value.okWide Tryd.prog W .any base 29 v1) (k2 : Value.okWide Tryd.prog W .any base 30 v2)
    (h0 : DataW.Trod enc Tryd.prog W 0 (fun _ => true) true 25 v0 d0 p0) (h1 : DataW.Trod enc Tryd.prog W 0 (fun _ => true) true 29 v1 d1 p1) (h2 : DataW.Trod enc Tryd.prog W 0 (fun _ => true) true 30 v2 d2 p2) :
    Calls Tryd.prog f #[v0, v1, v2] W fun e w' => e = .returned (.bool true) ∧ Below W.heap.size W w' := by
  obtain ⟨pc, words, el, s, n, cap, rfl, hin, hone⟩ := open_blk k0 h0
  obtain ⟨c, hc⟩ := open_cor k1 h1
  obtain ⟨m, cap2, hin2⟩ := open_ans k2 h2
  obtain ⟨x0, g, hg, hb0, ho0⟩ := hin.open
  obtain ⟨x1, g2, hg2, hb1, ho1⟩ := hin2.open
  obtain ⟨r0, o0⟩ := ho0 [x0, x1] 0 rfl
  obtain ⟨r1, o1⟩ := ho1 [x0, x1] 1 rfl
  refine hT ⟨⟨pc, words, el, n, .known cap, n, fun k => toOpV (g k)⟩, c, ⟨m, .known cap2, m, fun k => toGtV (g2 k)⟩⟩ (Ren.reads [x0, x1]) W [.agg #[.int .u64 pc, .int .i64 words, .int .i64 el, s], v1, v2] (Nat.le_refl _) (Nat.le_refl _) ?_ ?_
  · refine Rel.reads rfl rfl ?_ ?_ 2
    · intro x hx b hb
      simp only [List.mem_cons, List.not_mem_nil, or_false] at hx
      rcases hx with rfl | rfl
      · exact hb0 b hb
      · exact hb1 b hb
    · intro i o h
      match i, h with
      | 0, h => cases h; exact o0 42 _ (fun k hk => op_cells (hg k hk))
      | 1, h => cases h; exact o1 44 _ (fun k hk => gt_cells (hg2 k hk))
  · refine .cons _ _ _ _ (.agg _ [_, _, _, _] (.sintCons (.sintCons (.sintCons (.one _ _ _ _ r0 hone .nil))))) (.cons _ _ _ _ (hc _) (.cons _ _ _ _ r1 .nil))

theorem keeps_lifted (os : Os) (started : os.Started) (H : Type) (enc : TypeId × Value → H) :
    ReturnsInHanded {} Tryd.checked os 4 .any (fun w args => (Rows.irKeepsSpec.pre enc Tryd.prog Tryd.f4 Rows.irKeepsRow.domain false w args ∧ laidMetH Tryd.prog Rows.irKeepsRow.laid w) ∧ sizedMet enc Tryd.prog Tryd.f4 (OpenSpec.ofChange Rows.irKeepsSpec) false w args)
      (Rows.irKeepsSpec.post enc Tryd.prog Tryd.f4 false true false false) := by
  refine returnsInHanded_of_change_and (C := Tryd.checked) (X := fun w _ => laidMetH Tryd.prog Rows.irKeepsRow.laid w) (fun _ _ _ hh h => h.of_heap hh) own started (by kernel_rfl) Tryd.func4
    (ChangeSpec.witness_shaped (enc := enc) (C := Tryd.checked) (os := os) (X := fun w _ => laidMetH Tryd.prog Rows.irKeepsRow.laid w) false (World.laidAll Tryd.prog os Rows.irKeepsRow.laid) zero3 8 (World.laidAll_os _ _ _)
      (World.shaped_of_ZipB (by kernel_rfl) (by kernel_rfl)) (by kernel_rfl) (by kernel_rfl) (by kernel_rfl)
      (by rw [MakeChecks.laidMetH_plain _ _ _ (by kernel_rfl)]; exact laidMet_laidAll _ (by kernel_rfl) (by kernel_rfl))) ?_
  intro W base args ds gs before hval0 hW hc _ hL _
  have hval : ∀ (j : Nat) t v, Tryd.f4.params[j]? = some t → args[j]? = some v → Value.okWide Tryd.prog W .any base t v := hval0
  have hW' := hW
  obtain ⟨p, q, hA0, hV, rfl, _, _⟩ := hW
  have hA : DataW.TrodAll enc Tryd.prog W 0 (fun _ => true) true Tryd.f4.params.toList args.toList ds p := hA0
  rw [Tryd.params4] at hA hval
  obtain ⟨v0, vs0, d0, ds0, p0, q0, hargs, rfl, rfl, h0, r0⟩ := trodAll_cons hA
  obtain ⟨v1, vs1, d1, ds1, p1, q1, rfl, rfl, rfl, h1, r1⟩ := trodAll_cons r0
  obtain ⟨v2, vs2, d2, ds2, p2, q2, rfl, rfl, rfl, h2, r2⟩ := trodAll_cons r1
  obtain ⟨rfl, rfl, rfl⟩ := trodAll_nil r2
  obtain rfl : args = #[v0, v1, v2] := by cases args; simp_all
  obtain ⟨rfl, rfl⟩ := trodVars_none hV
  refine (row3 keep_true (hval 0 25 v0 rfl rfl) (hval 1 29 v1 rfl rfl) (hval 2 30 v2 rfl rfl) h0 h1 h2).mono fun e W' ⟨he, bel⟩ => ?_
  subst he
  have lt0 : ∀ x ∈ p0, x.block < W.heap.size := by obtain ⟨m, hm⟩ := h0; exact DataW.trod_lt m _ _ _ hm
  have lt1 : ∀ x ∈ p1, x.block < W.heap.size := by obtain ⟨m, hm⟩ := h1; exact DataW.trod_lt m _ _ _ hm
  have lt2 : ∀ x ∈ p2, x.block < W.heap.size := by obtain ⟨m, hm⟩ := h2; exact DataW.trod_lt m _ _ _ hm
  exact ⟨_, rfl, _, _, _, [], _, [], hW', trodAll_mk1 (shut_bool Tryd.underlying4 _),
    trodAll_cons_mk (Below.trod laidOut (by kernel_rfl) (of_decide_eq_true (by kernel_rfl)) h0 bel lt0) (trodAll_cons_mk (Below.trod laidOut (by kernel_rfl) (of_decide_eq_true (by kernel_rfl)) h1 bel lt1) (trodAll_cons_mk (Below.trod laidOut (by kernel_rfl) (of_decide_eq_true (by kernel_rfl)) h2 bel lt2) trodAll_mk0)), rfl, bel.frame _, fun h => by cases h⟩

theorem irKeeps_row : Rows.IrKeepsSaid :=
  OpenClaim.holds_of_wide 4 Tryd.f4 rfl rfl rfl rfl rfl rfl rfl ⟨rfl, rfl, rfl, rfl, rfl⟩ rfl rfl rfl rfl rfl (by kernel_rfl) Tryd.func4 (by kernel_rfl)
    (of_decide_eq_true (by kernel_rfl)) (by unfold Func.isWrapper; first | (rw [if_pos (by decide +kernel)]; kernel_rfl) | (rw [if_neg (by decide +kernel)]; exact ⟨rfl, rfl⟩))
    (fun os started H enc _ => keeps_lifted os started H enc)
#print axioms irKeeps_row
end Go.Proofs.YtomeoihdhkmamaaDoor
