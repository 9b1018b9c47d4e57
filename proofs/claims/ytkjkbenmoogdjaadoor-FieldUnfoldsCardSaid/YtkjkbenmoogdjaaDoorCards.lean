/-
  DERIVED. GIVEN WITH THE SEED: THE CARDS: each row of YtkjkbenmoogdjaaDoorRows.lean that lists a variable, with what it lists TIED to the program's text (the seventh form; the later family's looks); each row that meets fmt, with fmt's text TOLD by the authors' own Lean function (tested against real Go, not proved from fmt's source: count such statements apart). THE CARD IS WHAT COUNTS. Prove the row's statement (the work); the ties are given (YtkjkbenmoogdjaaDoorTie.lean); close each card by the builder's one call (the guide's Derived/Test/ToyasCard.lean, 'card_holds'). Laid BY PROGRAM, IN A SANDBOX (cutbox-door.mjs). By AI agents, Wed Nov 11 2026. No macro, syntax, notation, axiom, sorry.
-/
import Derived.Test.YtkjkbenmoogdjaaDoorRows
import GoSem.ClaimSeven
namespace Go.Proofs.YtkjkbenmoogdjaaDoor
namespace Rows

/-- THE TIED CARD OF 'abutmentlaw09.FieldBack'. -/
def fieldBackCard : Claim7 := { stood := { row := fieldBackRow, standIns := [], harness := (true, "c50d0764125a85d776af113c2e7f112a3706974590e53a7b145abd42a465613f"), looks := false }, kinds := [], alts := [], laidByText := true, laidKinds := [.data, .pinned], laidTests := true, laidLooks := .later }
def FieldBackCardSaid : Prop := Claim7.holds Tryd.pinned (.plain (OpenSpec.ofChange fieldBackSpec)) fieldBackCard

/-- THE TIED CARD OF 'abutmentlaw09.FieldUnfolds'. -/
def fieldUnfoldsCard : Claim7 := { stood := { row := fieldUnfoldsRow, standIns := [], harness := (true, "c50d0764125a85d776af113c2e7f112a3706974590e53a7b145abd42a465613f"), looks := false }, kinds := [], alts := [], laidByText := true, laidKinds := [.data, .pinned], laidTests := true, laidLooks := .later }
def FieldUnfoldsCardSaid : Prop := Claim7.holds Tryd.pinned (.plain (OpenSpec.ofChange fieldUnfoldsSpec)) fieldUnfoldsCard

/-- THE SECOND FORM's CARD OF 'abutmentlaw09.FieldBack'. -/
def fieldBackUptoCard : Claim7 := { stood := { row := fieldBackUptoRow, standIns := [], harness := (true, "c50d0764125a85d776af113c2e7f112a3706974590e53a7b145abd42a465613f"), looks := false }, kinds := [], alts := [], laidByText := true, laidKinds := [.data, .pinned], laidTests := true, laidLooks := .later }
def FieldBackUptoCardSaid : Prop := Claim7.holds Tryd.pinned (.plain (OpenSpec.upto fieldBackSpec)) fieldBackUptoCard

/-- THE SECOND FORM's CARD OF 'abutmentlaw09.FieldUnfolds'. -/
def fieldUnfoldsUptoCard : Claim7 := { stood := { row := fieldUnfoldsUptoRow, standIns := [], harness := (true, "c50d0764125a85d776af113c2e7f112a3706974590e53a7b145abd42a465613f"), looks := false }, kinds := [], alts := [], laidByText := true, laidKinds := [.data, .pinned], laidTests := true, laidLooks := .later }
def FieldUnfoldsUptoCardSaid : Prop := Claim7.holds Tryd.pinned (.plain (OpenSpec.upto fieldUnfoldsSpec)) fieldUnfoldsUptoCard
end Rows
end Go.Proofs.YtkjkbenmoogdjaaDoor
