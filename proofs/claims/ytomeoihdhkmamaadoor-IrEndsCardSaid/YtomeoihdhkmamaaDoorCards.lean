/-
  DERIVED. GIVEN WITH THE SEED: THE CARDS: each row of YtomeoihdhkmamaaDoorRows.lean that lists a variable, with what it lists TIED to the program's text (the seventh form; the later family's looks); each row that meets fmt, with fmt's text TOLD by the authors' own Lean function (tested against real Go, not proved from fmt's source: count such statements apart). THE CARD IS WHAT COUNTS. Prove the row's statement (the work); the ties are given (YtomeoihdhkmamaaDoorTie.lean); close each card by the builder's one call (the guide's Derived/Test/ToyasCard.lean, 'card_holds'). Laid BY PROGRAM, IN A SANDBOX (cutbox-door.mjs). By AI agents, Wed Nov 11 2026. No macro, syntax, notation, axiom, sorry.
-/
import Derived.Test.YtomeoihdhkmamaaDoorRows
import GoSem.ClaimSeven
namespace Go.Proofs.YtomeoihdhkmamaaDoor
namespace Rows

/-- THE TIED CARD OF 'understudylaw16.IrEnds'. -/
def irEndsCard : Claim7 := { stood := { row := irEndsRow, standIns := [], harness := (true, "1aea0f8a6832442604fa4fa65f50e0cc19e5e28bb613c72d7666230c4815e156"), looks := true }, kinds := [], alts := [], laidByText := true, laidKinds := [.data, .data, .data], laidTests := true, laidLooks := .later }
def IrEndsCardSaid : Prop := Claim7.holds Tryd.pinned (.plain (OpenSpec.ofChange irEndsSpec)) irEndsCard

/-- THE TIED CARD OF 'understudylaw16.IrKeeps'. -/
def irKeepsCard : Claim7 := { stood := { row := irKeepsRow, standIns := [], harness := (true, "1aea0f8a6832442604fa4fa65f50e0cc19e5e28bb613c72d7666230c4815e156"), looks := true }, kinds := [], alts := [], laidByText := true, laidKinds := [.data, .data, .data], laidTests := true, laidLooks := .later }
def IrKeepsCardSaid : Prop := Claim7.holds Tryd.pinned (.plain (OpenSpec.ofChange irKeepsSpec)) irKeepsCard

/-- THE TIED CARD OF 'understudylaw16.IrRuns'. -/
def irRunsCard : Claim7 := { stood := { row := irRunsRow, standIns := [], harness := (true, "1aea0f8a6832442604fa4fa65f50e0cc19e5e28bb613c72d7666230c4815e156"), looks := true }, kinds := [], alts := [], laidByText := true, laidKinds := [.data, .data, .data], laidTests := true, laidLooks := .later }
def IrRunsCardSaid : Prop := Claim7.holds Tryd.pinned (.plain (OpenSpec.ofChange irRunsSpec)) irRunsCard

/-- THE TIED CARD OF 'understudylaw16.IrTwice'. -/
def irTwiceCard : Claim7 := { stood := { row := irTwiceRow, standIns := [], harness := (true, "1aea0f8a6832442604fa4fa65f50e0cc19e5e28bb613c72d7666230c4815e156"), looks := true }, kinds := [], alts := [], laidByText := true, laidKinds := [.data, .data, .data], laidTests := true, laidLooks := .later }
def IrTwiceCardSaid : Prop := Claim7.holds Tryd.pinned (.plain (OpenSpec.ofChange irTwiceSpec)) irTwiceCard

/-- THE TIED CARD OF 'understudylaw16.IrTells'. -/
def irTellsCard : Claim7 := { stood := { row := irTellsRow, standIns := [], harness := (true, "1aea0f8a6832442604fa4fa65f50e0cc19e5e28bb613c72d7666230c4815e156"), looks := true }, kinds := [], alts := [], laidByText := true, laidKinds := [.data, .data, .data], laidTests := true, laidLooks := .later }
def IrTellsCardSaid : Prop := Claim7.holds Tryd.pinned (.plain (OpenSpec.ofChange irTellsSpec)) irTellsCard

/-- THE SECOND FORM's CARD OF 'understudylaw16.IrEnds'. -/
def irEndsUptoCard : Claim7 := { stood := { row := irEndsUptoRow, standIns := [], harness := (true, "1aea0f8a6832442604fa4fa65f50e0cc19e5e28bb613c72d7666230c4815e156"), looks := true }, kinds := [], alts := [], laidByText := true, laidKinds := [.data, .data, .data], laidTests := true, laidLooks := .later }
def IrEndsUptoCardSaid : Prop := Claim7.holds Tryd.pinned (.plain (OpenSpec.upto irEndsSpec)) irEndsUptoCard

/-- THE SECOND FORM's CARD OF 'understudylaw16.IrKeeps'. -/
def irKeepsUptoCard : Claim7 := { stood := { row := irKeepsUptoRow, standIns := [], harness := (true, "1aea0f8a6832442604fa4fa65f50e0cc19e5e28bb613c72d7666230c4815e156"), looks := true }, kinds := [], alts := [], laidByText := true, laidKinds := [.data, .data, .data], laidTests := true, laidLooks := .later }
def IrKeepsUptoCardSaid : Prop := Claim7.holds Tryd.pinned (.plain (OpenSpec.upto irKeepsSpec)) irKeepsUptoCard

/-- THE SECOND FORM's CARD OF 'understudylaw16.IrRuns'. -/
def irRunsUptoCard : Claim7 := { stood := { row := irRunsUptoRow, standIns := [], harness := (true, "1aea0f8a6832442604fa4fa65f50e0cc19e5e28bb613c72d7666230c4815e156"), looks := true }, kinds := [], alts := [], laidByText := true, laidKinds := [.data, .data, .data], laidTests := true, laidLooks := .later }
def IrRunsUptoCardSaid : Prop := Claim7.holds Tryd.pinned (.plain (OpenSpec.upto irRunsSpec)) irRunsUptoCard

/-- THE SECOND FORM's CARD OF 'understudylaw16.IrTwice'. -/
def irTwiceUptoCard : Claim7 := { stood := { row := irTwiceUptoRow, standIns := [], harness := (true, "1aea0f8a6832442604fa4fa65f50e0cc19e5e28bb613c72d7666230c4815e156"), looks := true }, kinds := [], alts := [], laidByText := true, laidKinds := [.data, .data, .data], laidTests := true, laidLooks := .later }
def IrTwiceUptoCardSaid : Prop := Claim7.holds Tryd.pinned (.plain (OpenSpec.upto irTwiceSpec)) irTwiceUptoCard

/-- THE SECOND FORM's CARD OF 'understudylaw16.IrTells'. -/
def irTellsUptoCard : Claim7 := { stood := { row := irTellsUptoRow, standIns := [], harness := (true, "1aea0f8a6832442604fa4fa65f50e0cc19e5e28bb613c72d7666230c4815e156"), looks := true }, kinds := [], alts := [], laidByText := true, laidKinds := [.data, .data, .data], laidTests := true, laidLooks := .later }
def IrTellsUptoCardSaid : Prop := Claim7.holds Tryd.pinned (.plain (OpenSpec.upto irTellsSpec)) irTellsUptoCard
end Rows
end Go.Proofs.YtomeoihdhkmamaaDoor
