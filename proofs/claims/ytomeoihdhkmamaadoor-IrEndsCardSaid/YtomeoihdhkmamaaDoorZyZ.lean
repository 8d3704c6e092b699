/- The given statement Rows.IrKeepsCardSaid is proved: the law IrKeeps returns true on every input, in the form of its card. No conditions beyond the statement's own. -/
import Derived.Test.YtomeoihdhkmamaaDoorZyY
import Derived.Test.YtomeoihdhkmamaaDoorCards
import Derived.Test.YtomeoihdhkmamaaDoorTie
import Derived.SevenTiedAt
set_option linter.unusedVariables false
namespace Go.Proofs.YtomeoihdhkmamaaDoor
open Go

/-- The parameters of the five laws want no stand-in. -/
theorem wants3 (j : Nat) (t : TypeId) (h : #[25, 29, 30][j]? = some t) : Tryd.prog.wantsStandIn t = false := by
  match j, h with
  | 0, h => cases h; exact (show Tryd.prog.wantsStandIn 25 = false by kernel_rfl)
  | 1, h => cases h; exact (show Tryd.prog.wantsStandIn 29 = false by kernel_rfl)
  | 2, h => cases h; exact (show Tryd.prog.wantsStandIn 30 = false by kernel_rfl)
  | j + 3, h => simp at h

theorem irKeeps_card : Rows.IrKeepsCardSaid :=
  Claim7.holds_tied_plain_at .later [] [.data, .data, .data] true (true, "1aea0f8a6832442604fa4fa65f50e0cc19e5e28bb613c72d7666230c4815e156") true
    irKeeps_row (fun _ h => by cases h) (by kernel_rfl) (fun _ h => by cases h) irKeeps_row_tie rfl ⟨rfl, rfl⟩ (by kernel_rfl) rfl
    (fun f fn hf hfn => by
      obtain rfl : f = 4 := Option.some.inj ((show Tryd.prog.funcNamed "understudy/understudylaw16.IrKeeps" = some 4 by kernel_rfl).symm.trans hf) |>.symm
      obtain rfl : fn = Tryd.f4 := (Option.some.inj (Tryd.func4.symm.trans hfn)).symm
      exact ⟨by kernel_rfl, fun j t ht => by
        rw [Tryd.params4] at ht
        exact wants3 j t ht⟩)
    (by kernel_rfl)
#print axioms irKeeps_card
end Go.Proofs.YtomeoihdhkmamaaDoor
