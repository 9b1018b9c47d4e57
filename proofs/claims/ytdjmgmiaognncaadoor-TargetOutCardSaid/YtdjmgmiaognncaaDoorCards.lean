/-
  DERIVED. GIVEN WITH THE SEED: THE CARDS: each row of YtdjmgmiaognncaaDoorRows.lean that lists a variable, with what it lists TIED to the program's text (the seventh form; the later family's looks); each row that meets fmt, with fmt's text TOLD by the authors' own Lean function (tested against real Go, not proved from fmt's source: count such statements apart). THE CARD IS WHAT COUNTS. Prove the row's statement (the work); the ties are given (YtdjmgmiaognncaaDoorTie.lean); close each card by the builder's one call (the guide's Derived/Test/ToyasCard.lean, 'card_holds'). Laid BY PROGRAM, IN A SANDBOX (cutbox-door.mjs). By AI agents, Wed Nov 11 2026. No macro, syntax, notation, axiom, sorry.
-/
import Derived.Test.YtdjmgmiaognncaaDoorRows
import GoSem.ClaimSeven
namespace Go.Proofs.YtdjmgmiaognncaaDoor
namespace Rows

/-- THE TIED CARD OF 'abutmentlaw13.ConfigParses'. -/
def configParsesCard : Claim7 := { stood := { row := configParsesRow, standIns := [], harness := (true, "9508d6c03039419b71088e1e374a479ef8ca0fa9abe09e0ce1422219b94f3a42"), looks := true }, kinds := [], alts := [], laidByText := true, laidKinds := [.data, .pinned], laidTests := true, laidLooks := .later }
def ConfigParsesCardSaid : Prop := Claim7.holds Tryd.pinned (.plain (OpenSpec.ofChange configParsesSpec)) configParsesCard

/-- THE TIED CARD OF 'abutmentlaw12.TargetParses'. -/
def targetParsesCard : Claim7 := { stood := { row := targetParsesRow, standIns := [], harness := (true, "9508d6c03039419b71088e1e374a479ef8ca0fa9abe09e0ce1422219b94f3a42"), looks := true }, kinds := [], alts := [], laidByText := true, laidKinds := [.data, .pinned], laidTests := true, laidLooks := .later }
def TargetParsesCardSaid : Prop := Claim7.holds Tryd.pinned (.plain (OpenSpec.ofChange targetParsesSpec)) targetParsesCard

/-- THE TIED CARD OF 'abutmentlaw12.TargetOut'. -/
def targetOutCard : Claim7 := { stood := { row := targetOutRow, standIns := [], harness := (true, "9508d6c03039419b71088e1e374a479ef8ca0fa9abe09e0ce1422219b94f3a42"), looks := true }, kinds := [], alts := [], laidByText := true, laidKinds := [.data, .pinned], laidTests := true, laidLooks := .later }
def TargetOutCardSaid : Prop := Claim7.holds Tryd.pinned (.plain (OpenSpec.ofChange targetOutSpec)) targetOutCard

/-- THE TIED CARD OF 'abutmentlaw12.TargetBack'. -/
def targetBackCard : Claim7 := { stood := { row := targetBackRow, standIns := [], harness := (true, "9508d6c03039419b71088e1e374a479ef8ca0fa9abe09e0ce1422219b94f3a42"), looks := true }, kinds := [], alts := [], laidByText := true, laidKinds := [.data, .pinned], laidTests := true, laidLooks := .later }
def TargetBackCardSaid : Prop := Claim7.holds Tryd.pinned (.plain (OpenSpec.ofChange targetBackSpec)) targetBackCard

/-- THE TIED CARD OF 'abutmentlaw45.ScriptQuotes'. -/
def scriptQuotesCard : Claim7 := { stood := { row := scriptQuotesRow, standIns := [], harness := (true, "9508d6c03039419b71088e1e374a479ef8ca0fa9abe09e0ce1422219b94f3a42"), looks := true }, kinds := [], alts := [], laidByText := true, laidKinds := [.data, .pinned], laidTests := true, laidLooks := .later }
def ScriptQuotesCardSaid : Prop := Claim7.holds Tryd.pinned (.plain (OpenSpec.ofChange scriptQuotesSpec)) scriptQuotesCard

/-- THE SECOND FORM's CARD OF 'abutmentlaw13.ConfigParses'. -/
def configParsesUptoCard : Claim7 := { stood := { row := configParsesUptoRow, standIns := [], harness := (true, "9508d6c03039419b71088e1e374a479ef8ca0fa9abe09e0ce1422219b94f3a42"), looks := true }, kinds := [], alts := [], laidByText := true, laidKinds := [.data, .pinned], laidTests := true, laidLooks := .later }
def ConfigParsesUptoCardSaid : Prop := Claim7.holds Tryd.pinned (.plain (OpenSpec.upto configParsesSpec)) configParsesUptoCard

/-- THE SECOND FORM's CARD OF 'abutmentlaw12.TargetParses'. -/
def targetParsesUptoCard : Claim7 := { stood := { row := targetParsesUptoRow, standIns := [], harness := (true, "9508d6c03039419b71088e1e374a479ef8ca0fa9abe09e0ce1422219b94f3a42"), looks := true }, kinds := [], alts := [], laidByText := true, laidKinds := [.data, .pinned], laidTests := true, laidLooks := .later }
def TargetParsesUptoCardSaid : Prop := Claim7.holds Tryd.pinned (.plain (OpenSpec.upto targetParsesSpec)) targetParsesUptoCard

/-- THE SECOND FORM's CARD OF 'abutmentlaw12.TargetOut'. -/
def targetOutUptoCard : Claim7 := { stood := { row := targetOutUptoRow, standIns := [], harness := (true, "9508d6c03039419b71088e1e374a479ef8ca0fa9abe09e0ce1422219b94f3a42"), looks := true }, kinds := [], alts := [], laidByText := true, laidKinds := [.data, .pinned], laidTests := true, laidLooks := .later }
def TargetOutUptoCardSaid : Prop := Claim7.holds Tryd.pinned (.plain (OpenSpec.upto targetOutSpec)) targetOutUptoCard

/-- THE SECOND FORM's CARD OF 'abutmentlaw12.TargetBack'. -/
def targetBackUptoCard : Claim7 := { stood := { row := targetBackUptoRow, standIns := [], harness := (true, "9508d6c03039419b71088e1e374a479ef8ca0fa9abe09e0ce1422219b94f3a42"), looks := true }, kinds := [], alts := [], laidByText := true, laidKinds := [.data, .pinned], laidTests := true, laidLooks := .later }
def TargetBackUptoCardSaid : Prop := Claim7.holds Tryd.pinned (.plain (OpenSpec.upto targetBackSpec)) targetBackUptoCard

/-- THE SECOND FORM's CARD OF 'abutmentlaw45.ScriptQuotes'. -/
def scriptQuotesUptoCard : Claim7 := { stood := { row := scriptQuotesUptoRow, standIns := [], harness := (true, "9508d6c03039419b71088e1e374a479ef8ca0fa9abe09e0ce1422219b94f3a42"), looks := true }, kinds := [], alts := [], laidByText := true, laidKinds := [.data, .pinned], laidTests := true, laidLooks := .later }
def ScriptQuotesUptoCardSaid : Prop := Claim7.holds Tryd.pinned (.plain (OpenSpec.upto scriptQuotesSpec)) scriptQuotesUptoCard
end Rows
end Go.Proofs.YtdjmgmiaognncaaDoor
