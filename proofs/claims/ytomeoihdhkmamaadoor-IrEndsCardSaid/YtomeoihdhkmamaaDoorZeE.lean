/- IrEnds: its row and its card: the given statement Rows.IrEndsCardSaid is proved: the law IrEnds returns true on every input. No conditions beyond the statement's own. -/
import Derived.Test.YtomeoihdhkmamaaDoorZeD
import Derived.Test.YtomeoihdhkmamaaDoorZyZ
set_option linter.unusedVariables false
namespace Go.Proofs.YtomeoihdhkmamaaDoor
open Go.X Go.ChangeShapes Go.WideShapes
open Go.RowKit (shut_bool Below)
set_option maxRecDepth 100000

def en0 (x : KeepX) : En := ⟨x.b, x.a, startRn x.b x.c, 0, 0⟩
theorem ends_sk (x : KeepX) : (endsCall x).sk = .fit (.need (x.b.n ≤ x.b.N) (.ite (rightB x.b) (.ite (corOk x.b x.c) (.fit (.need (EnInv (en0 x)) .ret)) .ret) .ret)) := by kernel_rfl
theorem ends1 (x : KeepX) : (endsCall x).L.L.L.L.L.L.out = some (.bool true, none) := by kernel_rfl
theorem ends2 (x : KeepX) : (endsCall x).L.L.L.R.out = some (.bool true, none) := by kernel_rfl
theorem ends3 (x : KeepX) : (endsCall x).L.L.R.out = some (.bool true, none) := by kernel_rfl

theorem ends_s : CallS Tryd.prog 3 keepA keepM keepZ := by
  refine CallS.of_call E16_ok 200 ?_
  intro x r hl
  obtain ⟨⟨hN, hM⟩, hl⟩ := hl.need_inv
  have hl := hl.ret_inv
  subst hl
  refine call_of (ends_sk x) ⟨by kernel_rfl, hN, fun hb => ⟨fun hc => ⟨by kernel_rfl, ?_, KC.bool true (ends1 x) rfl⟩, fun _ => KC.bool true (ends2 x) rfl⟩, fun _ => KC.bool true (ends3 x) rfl⟩
  exact ⟨startRn_ok hb hN, rfl, rfl, hM, hN, Int.le_refl 0, Int.le_refl 0, Int.le_refl 0, Int.le_refl 0⟩

theorem ends_true : True3 3 := by
  intro x ρ w xs h1 h2 hr hx
  refine (ends_s x (.sbool true) none xs ρ w (.need ⟨h1, h2⟩ (.ret _)) hr hx).mono ?_
  rintro e w' ⟨y, rfl, hy, hb⟩
  cases hy
  exact ⟨rfl, hb⟩

theorem ends_lifted (os : Os) (started : os.Started) (H : Type) (enc : TypeId × Value → H) :
    ReturnsInHanded {} Tryd.checked os 3 .any (fun w args => (Rows.irEndsSpec.pre enc Tryd.prog Tryd.f3 Rows.irEndsRow.domain false w args ∧ laidMetH Tryd.prog Rows.irEndsRow.laid w) ∧ sizedMet enc Tryd.prog Tryd.f3 (OpenSpec.ofChange Rows.irEndsSpec) false w args)
      (Rows.irEndsSpec.post enc Tryd.prog Tryd.f3 false true false false) := by
  refine returnsInHanded_of_change_and (C := Tryd.checked) (X := fun w _ => laidMetH Tryd.prog Rows.irEndsRow.laid w) (fun _ _ _ hh h => h.of_heap hh) own started (by kernel_rfl) Tryd.func3
    (ChangeSpec.witness_shaped (enc := enc) (C := Tryd.checked) (os := os) (X := fun w _ => laidMetH Tryd.prog Rows.irEndsRow.laid w) false (World.laidAll Tryd.prog os Rows.irEndsRow.laid) zero3 8 (World.laidAll_os _ _ _)
      (World.shaped_of_ZipB (by kernel_rfl) (by kernel_rfl)) (by kernel_rfl) (by kernel_rfl) (by kernel_rfl)
      (by rw [MakeChecks.laidMetH_plain _ _ _ (by kernel_rfl)]; exact laidMet_laidAll _ (by kernel_rfl) (by kernel_rfl))) ?_
  intro W base args ds gs before hval0 hW hc _ hL _
  have hval : ∀ (j : Nat) t v, Tryd.f3.params[j]? = some t → args[j]? = some v → Value.okWide Tryd.prog W .any base t v := hval0
  have hW' := hW
  obtain ⟨p, q, hA0, hV, rfl, _, _⟩ := hW
  have hA : DataW.TrodAll enc Tryd.prog W 0 (fun _ => true) true Tryd.f3.params.toList args.toList ds p := hA0
  rw [Tryd.params3] at hA hval
  obtain ⟨v0, vs0, d0, ds0, p0, q0, hargs, rfl, rfl, h0, r0⟩ := trodAll_cons hA
  obtain ⟨v1, vs1, d1, ds1, p1, q1, rfl, rfl, rfl, h1, r1⟩ := trodAll_cons r0
  obtain ⟨v2, vs2, d2, ds2, p2, q2, rfl, rfl, rfl, h2, r2⟩ := trodAll_cons r1
  obtain ⟨rfl, rfl, rfl⟩ := trodAll_nil r2
  obtain rfl : args = #[v0, v1, v2] := by cases args; simp_all
  obtain ⟨rfl, rfl⟩ := trodVars_none hV
  refine (row3 ends_true (hval 0 25 v0 rfl rfl) (hval 1 29 v1 rfl rfl) (hval 2 30 v2 rfl rfl) h0 h1 h2).mono fun e W' ⟨he, bel⟩ => ?_
  subst he
  have lt0 : ∀ x ∈ p0, x.block < W.heap.size := by obtain ⟨m, hm⟩ := h0; exact DataW.trod_lt m _ _ _ hm
  have lt1 : ∀ x ∈ p1, x.block < W.heap.size := by obtain ⟨m, hm⟩ := h1; exact DataW.trod_lt m _ _ _ hm
  have lt2 : ∀ x ∈ p2, x.block < W.heap.size := by obtain ⟨m, hm⟩ := h2; exact DataW.trod_lt m _ _ _ hm
  exact ⟨_, rfl, _, _, _, [], _, [], hW', trodAll_mk1 (shut_bool Tryd.underlying4 _),
    trodAll_cons_mk (Below.trod laidOut (by kernel_rfl) (of_decide_eq_true (by kernel_rfl)) h0 bel lt0) (trodAll_cons_mk (Below.trod laidOut (by kernel_rfl) (of_decide_eq_true (by kernel_rfl)) h1 bel lt1) (trodAll_cons_mk (Below.trod laidOut (by kernel_rfl) (of_decide_eq_true (by kernel_rfl)) h2 bel lt2) trodAll_mk0)), rfl, bel.frame _, fun h => by cases h⟩

theorem irEnds_row : Rows.IrEndsSaid :=
  OpenClaim.holds_of_wide 3 Tryd.f3 rfl rfl rfl rfl rfl rfl rfl ⟨rfl, rfl, rfl, rfl, rfl⟩ rfl rfl rfl rfl rfl (by kernel_rfl) Tryd.func3 (by kernel_rfl)
    (of_decide_eq_true (by kernel_rfl)) (by unfold Func.isWrapper; first | (rw [if_pos (by decide +kernel)]; kernel_rfl) | (rw [if_neg (by decide +kernel)]; exact ⟨rfl, rfl⟩))
    (fun os started H enc _ => ends_lifted os started H enc)

theorem irEnds_card : Rows.IrEndsCardSaid :=
  Claim7.holds_tied_plain_at .later [] [.data, .data, .data] true (true, "1aea0f8a6832442604fa4fa65f50e0cc19e5e28bb613c72d7666230c4815e156") true
    irEnds_row (fun _ h => by cases h) (by kernel_rfl) (fun _ h => by cases h) irEnds_row_tie rfl ⟨rfl, rfl⟩ (by kernel_rfl) rfl
    (fun f fn hf hfn => by
      obtain rfl : f = 3 := Option.some.inj ((show Tryd.prog.funcNamed "understudy/understudylaw16.IrEnds" = some 3 by kernel_rfl).symm.trans hf) |>.symm
      obtain rfl : fn = Tryd.f3 := (Option.some.inj (Tryd.func3.symm.trans hfn)).symm
      exact ⟨by kernel_rfl, fun j t ht => by
        rw [Tryd.params3] at ht
        exact wants3 j t ht⟩)
    (by kernel_rfl)
#print axioms irEnds_card
end Go.Proofs.YtomeoihdhkmamaaDoor
