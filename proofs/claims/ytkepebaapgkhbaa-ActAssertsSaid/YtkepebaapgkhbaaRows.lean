/-
  No cell of these rows narrows 'for every input' (looked for: loops, veiled, ifaces, maps, wideKeys, modest, calm, conditions, laid).
  DERIVED. THE GIVEN ROWS OF THIS SEAT. 3 by the template 'for every input the law returns true; each argument reads behind the call as it read before'; 0 by the template 'total and deterministic' (their statements: YtkepebaapgkhbaaTotals.lean).
  GIVEN WITH THE SEED: the statements are not yours to turn. If you find one false, say at which input.
  Laid BY PROGRAM, IN A SANDBOX (cutbox-rows.mjs): the forced cells as the released guide's own fill.sh prints them over the translation 5ea906e0a69a7b7f… (all of the seat's roots in one cut). By AI agents, Wed Nov 11 2026. No macro, syntax, notation, axiom, sorry.
-/
import Derived.Test.YtkepebaapgkhbaaChecked
import GoSem.Claim
import GoSem.ClaimJoined
import GoSem.ClaimMapViews
import Derived.JoinedTies
import Derived.KernelRfl
namespace Go.Proofs.Ytkepebaapgkhbaa
/- THE CELL 'sum', in the pinned program and in every row, IS THE sha256 OF THE DUMP (.gsa) THAT YtkepebaapgkhbaaProg.lean LOADS. Nothing in Lean hashes anything: it is a label: what it is worth is what the hold of that sum in a sandbox is worth. -/
noncomputable def Try.pinned : Pinned := { name := "ytkepebaapgkhbaa", sum := "5ea906e0a69a7b7f9ff6074ae30703bf561d323e2e905d5efc589ce92865ad6e", checked := Try.checked }
namespace Rows
def none {H : Type} : Left H := { results := [], args := [] }

/-- 'abutmentlaw44.ActTells': WHATEVER THE INPUT: true; the input reads as it did. -/
def actTellsSpec : ChangeSpec := { name := "actTells", fn := fun _ => fun
  | [d1, d2] => { results := [.lit (.bool true)], args := [d1, d2] }
  | _ => none }
def actTellsRow : OpenClaim := { program := "ytkepebaapgkhbaa", sum := "5ea906e0a69a7b7f9ff6074ae30703bf561d323e2e905d5efc589ce92865ad6e", func := "abutment/abutmentlaw44.ActTells", spec := "actTells", unfollowed := true, recurses := true, apart := false }
def ActTellsSaid : Prop := actTellsRow.holds Try.pinned (OpenSpec.ofChange actTellsSpec)

/-- ITS FALSE NEIGHBOUR: 'it returns false'. Refute it at one input. -/
def actTellsWrong : ChangeSpec := { name := "actTells", fn := fun _ => fun
  | [d1, d2] => { results := [.lit (.bool false)], args := [d1, d2] }
  | _ => none }
def ActTellsWrongFalsely : Prop := actTellsRow.holds Try.pinned (OpenSpec.ofChange actTellsWrong)

/-- 'abutmentlaw44.ActEvents': WHATEVER THE INPUT: true; the input reads as it did. -/
def actEventsSpec : ChangeSpec := { name := "actEvents", fn := fun _ => fun
  | [d1, d2, d3] => { results := [.lit (.bool true)], args := [d1, d2, d3] }
  | _ => none }
def actEventsRow : OpenClaim := { program := "ytkepebaapgkhbaa", sum := "5ea906e0a69a7b7f9ff6074ae30703bf561d323e2e905d5efc589ce92865ad6e", func := "abutment/abutmentlaw44.ActEvents", spec := "actEvents", unfollowed := true, recurses := true, apart := false }
def ActEventsSaid : Prop := actEventsRow.holds Try.pinned (OpenSpec.ofChange actEventsSpec)

/-- ITS FALSE NEIGHBOUR: 'it returns false'. Refute it at one input. -/
def actEventsWrong : ChangeSpec := { name := "actEvents", fn := fun _ => fun
  | [d1, d2, d3] => { results := [.lit (.bool false)], args := [d1, d2, d3] }
  | _ => none }
def ActEventsWrongFalsely : Prop := actEventsRow.holds Try.pinned (OpenSpec.ofChange actEventsWrong)

/-- 'abutmentlaw44.ActAsserts': WHATEVER THE INPUT: true; the input reads as it did. -/
def actAssertsSpec : ChangeSpec := { name := "actAsserts", fn := fun _ => fun
  | [d] => { results := [.lit (.bool true)], args := [d] }
  | _ => none }
def actAssertsRow : OpenClaim := { program := "ytkepebaapgkhbaa", sum := "5ea906e0a69a7b7f9ff6074ae30703bf561d323e2e905d5efc589ce92865ad6e", func := "abutment/abutmentlaw44.ActAsserts", spec := "actAsserts", unfollowed := true, recurses := true, apart := false }
def ActAssertsSaid : Prop := actAssertsRow.holds Try.pinned (OpenSpec.ofChange actAssertsSpec)

/-- ITS FALSE NEIGHBOUR: 'it returns false'. Refute it at one input. -/
def actAssertsWrong : ChangeSpec := { name := "actAsserts", fn := fun _ => fun
  | [d] => { results := [.lit (.bool false)], args := [d] }
  | _ => none }
def ActAssertsWrongFalsely : Prop := actAssertsRow.holds Try.pinned (OpenSpec.ofChange actAssertsWrong)

/- THE SECOND FORM. 'bulk': how many values and letters a reading holds, each counted each time it is reached (what is shared counts as often as it is met; a slice's spare places count too). A statement '..UptoSaid' is the law's where the arguments, and the package variables that the reading takes, are together of bulk at most 1048576: NARROWER than '..Said'. Prove '..Said' where nothing that the law and all that it calls make is longer than what came in: it says more and counts as full. Else prove '..UptoSaid'. A law counts once. -/
mutual
def uptoBulk {H : Type} : DataW H → Nat
  | .lit (.string bytes) => bytes.length + 1
  | .lit _ => 1
  | .nil => 1
  | .ptr d => uptoBulk d + 1
  | .slice elems spare => uptoBulkAll elems + uptoBulkAll spare + 1
  | .agg parts => uptoBulkAll parts + 1
  | .iface _ d => uptoBulk d + 1
  | .map entries => uptoBulkEntries entries + 1
  | .held _ => 1
def uptoBulkAll {H : Type} : List (DataW H) → Nat
  | [] => 0
  | d :: r => uptoBulk d + uptoBulkAll r
def uptoBulkEntries {H : Type} : List (Lit × DataW H) → Nat
  | [] => 0
  | x :: r => uptoBulkEntry x + uptoBulkEntries r
def uptoBulkEntry {H : Type} : Lit × DataW H → Nat
  | (.string bytes, d) => bytes.length + uptoBulk d + 1
  | (_, d) => uptoBulk d + 1
 end
def uptoSmall : (H : Type) → List (DataW H) → Bool := fun _ ds => decide (uptoBulkAll ds ≤ 1048576)
def OpenSpec.upto (s : _root_.Go.ChangeSpec) : _root_.Go.OpenSpec := { _root_.Go.OpenSpec.ofChange s with cond := some uptoSmall }

/-- 'abutmentlaw44.ActTells', WHERE WHAT IT READS IS OF BULK AT MOST 1048576: true; the input reads as it did. -/
def actTellsUptoRow : OpenClaim := { program := "ytkepebaapgkhbaa", sum := "5ea906e0a69a7b7f9ff6074ae30703bf561d323e2e905d5efc589ce92865ad6e", func := "abutment/abutmentlaw44.ActTells", spec := "actTells", unfollowed := true, recurses := true, apart := false, narrowed := true }
def ActTellsUptoSaid : Prop := actTellsUptoRow.holds Try.pinned (OpenSpec.upto actTellsSpec)

/-- 'abutmentlaw44.ActEvents', WHERE WHAT IT READS IS OF BULK AT MOST 1048576: true; the input reads as it did. -/
def actEventsUptoRow : OpenClaim := { program := "ytkepebaapgkhbaa", sum := "5ea906e0a69a7b7f9ff6074ae30703bf561d323e2e905d5efc589ce92865ad6e", func := "abutment/abutmentlaw44.ActEvents", spec := "actEvents", unfollowed := true, recurses := true, apart := false, narrowed := true }
def ActEventsUptoSaid : Prop := actEventsUptoRow.holds Try.pinned (OpenSpec.upto actEventsSpec)

/-- 'abutmentlaw44.ActAsserts', WHERE WHAT IT READS IS OF BULK AT MOST 1048576: true; the input reads as it did. -/
def actAssertsUptoRow : OpenClaim := { program := "ytkepebaapgkhbaa", sum := "5ea906e0a69a7b7f9ff6074ae30703bf561d323e2e905d5efc589ce92865ad6e", func := "abutment/abutmentlaw44.ActAsserts", spec := "actAsserts", unfollowed := true, recurses := true, apart := false, narrowed := true }
def ActAssertsUptoSaid : Prop := actAssertsUptoRow.holds Try.pinned (OpenSpec.upto actAssertsSpec)

end Rows
end Go.Proofs.Ytkepebaapgkhbaa
