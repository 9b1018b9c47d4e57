/-
  No cell of these rows narrows 'for every input' (looked for: loops, veiled, ifaces, maps, wideKeys, modest, calm, conditions, laid).
  DERIVED. THE GIVEN ROWS OF THIS SEAT. 9 by the template 'for every input the law returns true; each argument reads behind the call as it read before'; 0 by the template 'total and deterministic' (their statements: YtkjkbenmoogdjaaTotals.lean).
  GIVEN WITH THE SEED: the statements are not yours to turn. If you find one false, say at which input.
  Laid BY PROGRAM, IN A SANDBOX (cutbox-rows.mjs): the forced cells as the released guide's own fill.sh prints them over the translation 9fe1671ea4782c2d… (all of the seat's roots in one cut). By AI agents, Wed Nov 11 2026. No macro, syntax, notation, axiom, sorry.
-/
import Derived.Test.YtkjkbenmoogdjaaChecked
import GoSem.Claim
import GoSem.ClaimJoined
import GoSem.ClaimMapViews
import Derived.JoinedTies
import Derived.KernelRfl
namespace Go.Proofs.Ytkjkbenmoogdjaa
/- THE CELL 'sum', in the pinned program and in every row, IS THE sha256 OF THE DUMP (.gsa) THAT YtkjkbenmoogdjaaProg.lean LOADS. Nothing in Lean hashes anything: it is a label: what it is worth is what the hold of that sum in a sandbox is worth. -/
noncomputable def Try.pinned : Pinned := { name := "ytkjkbenmoogdjaa", sum := "9fe1671ea4782c2de588042208d543e6c89d78ea65a0db990043e110b836c2e6", checked := Try.checked }
namespace Rows
def none {H : Type} : Left H := { results := [], args := [] }

/-- 'abutmentlaw09.FieldParses': WHATEVER THE INPUT: true; the input reads as it did. -/
def fieldParsesSpec : ChangeSpec := { name := "fieldParses", fn := fun _ => fun
  | [d1, d2] => { results := [.lit (.bool true)], args := [d1, d2] }
  | _ => none }
def fieldParsesRow : OpenClaim := { program := "ytkjkbenmoogdjaa", sum := "9fe1671ea4782c2de588042208d543e6c89d78ea65a0db990043e110b836c2e6", func := "abutment/abutmentlaw09.FieldParses", spec := "fieldParses", inPlace := ["internal/bytealg.IndexByteString", "internal/bytealg.IndexString"], unfollowed := true, recurses := true, named := ["internal/bytealg.MaxLen"], apart := false }
def FieldParsesSaid : Prop := fieldParsesRow.holds Try.pinned (OpenSpec.ofChange fieldParsesSpec)

/-- ITS FALSE NEIGHBOUR: 'it returns false'. Refute it at one input. -/
def fieldParsesWrong : ChangeSpec := { name := "fieldParses", fn := fun _ => fun
  | [d1, d2] => { results := [.lit (.bool false)], args := [d1, d2] }
  | _ => none }
def FieldParsesWrongFalsely : Prop := fieldParsesRow.holds Try.pinned (OpenSpec.ofChange fieldParsesWrong)

/-- 'abutmentlaw07.ListsSplit': WHATEVER THE INPUT: true; the input reads as it did. -/
def listsSplitSpec : ChangeSpec := { name := "listsSplit", fn := fun _ => fun
  | [d1, d2] => { results := [.lit (.bool true)], args := [d1, d2] }
  | _ => none }
def listsSplitRow : OpenClaim := { program := "ytkjkbenmoogdjaa", sum := "9fe1671ea4782c2de588042208d543e6c89d78ea65a0db990043e110b836c2e6", func := "abutment/abutmentlaw07.ListsSplit", spec := "listsSplit", inPlace := ["internal/abi.NoEscape", "internal/bytealg.MakeNoZero"], unfollowed := true, recurses := true, apart := false }
def ListsSplitSaid : Prop := listsSplitRow.holds Try.pinned (OpenSpec.ofChange listsSplitSpec)

/-- ITS FALSE NEIGHBOUR: 'it returns false'. Refute it at one input. -/
def listsSplitWrong : ChangeSpec := { name := "listsSplit", fn := fun _ => fun
  | [d1, d2] => { results := [.lit (.bool false)], args := [d1, d2] }
  | _ => none }
def ListsSplitWrongFalsely : Prop := listsSplitRow.holds Try.pinned (OpenSpec.ofChange listsSplitWrong)

/-- 'abutmentlaw07.ListsJoin': WHATEVER THE INPUT: true; the input reads as it did. -/
def listsJoinSpec : ChangeSpec := { name := "listsJoin", fn := fun _ => fun
  | [d] => { results := [.lit (.bool true)], args := [d] }
  | _ => none }
def listsJoinRow : OpenClaim := { program := "ytkjkbenmoogdjaa", sum := "9fe1671ea4782c2de588042208d543e6c89d78ea65a0db990043e110b836c2e6", func := "abutment/abutmentlaw07.ListsJoin", spec := "listsJoin", inPlace := ["internal/abi.NoEscape", "internal/bytealg.MakeNoZero"], unfollowed := true, recurses := true, apart := false }
def ListsJoinSaid : Prop := listsJoinRow.holds Try.pinned (OpenSpec.ofChange listsJoinSpec)

/-- ITS FALSE NEIGHBOUR: 'it returns false'. Refute it at one input. -/
def listsJoinWrong : ChangeSpec := { name := "listsJoin", fn := fun _ => fun
  | [d] => { results := [.lit (.bool false)], args := [d] }
  | _ => none }
def ListsJoinWrongFalsely : Prop := listsJoinRow.holds Try.pinned (OpenSpec.ofChange listsJoinWrong)

/-- 'abutmentlaw07.ListsBack': WHATEVER THE INPUT: true; the input reads as it did. -/
def listsBackSpec : ChangeSpec := { name := "listsBack", fn := fun _ => fun
  | [d] => { results := [.lit (.bool true)], args := [d] }
  | _ => none }
def listsBackRow : OpenClaim := { program := "ytkjkbenmoogdjaa", sum := "9fe1671ea4782c2de588042208d543e6c89d78ea65a0db990043e110b836c2e6", func := "abutment/abutmentlaw07.ListsBack", spec := "listsBack", inPlace := ["internal/abi.NoEscape", "internal/bytealg.MakeNoZero"], unfollowed := true, recurses := true, apart := false }
def ListsBackSaid : Prop := listsBackRow.holds Try.pinned (OpenSpec.ofChange listsBackSpec)

/-- ITS FALSE NEIGHBOUR: 'it returns false'. Refute it at one input. -/
def listsBackWrong : ChangeSpec := { name := "listsBack", fn := fun _ => fun
  | [d] => { results := [.lit (.bool false)], args := [d] }
  | _ => none }
def ListsBackWrongFalsely : Prop := listsBackRow.holds Try.pinned (OpenSpec.ofChange listsBackWrong)

/-- 'abutmentlaw29.HopStrips': WHATEVER THE INPUT: true; the input reads as it did. -/
def hopStripsSpec : ChangeSpec := { name := "hopStrips", fn := fun _ => fun
  | [d] => { results := [.lit (.bool true)], args := [d] }
  | _ => none }
def hopStripsRow : OpenClaim := { program := "ytkjkbenmoogdjaa", sum := "9fe1671ea4782c2de588042208d543e6c89d78ea65a0db990043e110b836c2e6", func := "abutment/abutmentlaw29.HopStrips", spec := "hopStrips", inPlace := ["internal/abi.NoEscape", "internal/bytealg.MakeNoZero"], unfollowed := true, recurses := true, apart := false }
def HopStripsSaid : Prop := hopStripsRow.holds Try.pinned (OpenSpec.ofChange hopStripsSpec)

/-- ITS FALSE NEIGHBOUR: 'it returns false'. Refute it at one input. -/
def hopStripsWrong : ChangeSpec := { name := "hopStrips", fn := fun _ => fun
  | [d] => { results := [.lit (.bool false)], args := [d] }
  | _ => none }
def HopStripsWrongFalsely : Prop := hopStripsRow.holds Try.pinned (OpenSpec.ofChange hopStripsWrong)

/-- 'abutmentlaw29.HopLeaves': WHATEVER THE INPUT: true; the input reads as it did. -/
def hopLeavesSpec : ChangeSpec := { name := "hopLeaves", fn := fun _ => fun
  | [d] => { results := [.lit (.bool true)], args := [d] }
  | _ => none }
def hopLeavesRow : OpenClaim := { program := "ytkjkbenmoogdjaa", sum := "9fe1671ea4782c2de588042208d543e6c89d78ea65a0db990043e110b836c2e6", func := "abutment/abutmentlaw29.HopLeaves", spec := "hopLeaves", inPlace := ["internal/abi.NoEscape", "internal/bytealg.MakeNoZero"], unfollowed := true, recurses := true, apart := false }
def HopLeavesSaid : Prop := hopLeavesRow.holds Try.pinned (OpenSpec.ofChange hopLeavesSpec)

/-- ITS FALSE NEIGHBOUR: 'it returns false'. Refute it at one input. -/
def hopLeavesWrong : ChangeSpec := { name := "hopLeaves", fn := fun _ => fun
  | [d] => { results := [.lit (.bool false)], args := [d] }
  | _ => none }
def HopLeavesWrongFalsely : Prop := hopLeavesRow.holds Try.pinned (OpenSpec.ofChange hopLeavesWrong)

/-- 'abutmentlaw17.ConnectionWords': WHATEVER THE INPUT: true; the input reads as it did. -/
def connectionWordsSpec : ChangeSpec := { name := "connectionWords", fn := fun _ => fun
  | [d1, d2, d3] => { results := [.lit (.bool true)], args := [d1, d2, d3] }
  | _ => none }
def connectionWordsRow : OpenClaim := { program := "ytkjkbenmoogdjaa", sum := "9fe1671ea4782c2de588042208d543e6c89d78ea65a0db990043e110b836c2e6", func := "abutment/abutmentlaw17.ConnectionWords", spec := "connectionWords", inPlace := ["internal/abi.NoEscape", "internal/bytealg.MakeNoZero", "internal/bytealg.IndexByteString", "internal/bytealg.IndexString"], unfollowed := true, recurses := true, named := ["internal/bytealg.MaxLen"], apart := false }
def ConnectionWordsSaid : Prop := connectionWordsRow.holds Try.pinned (OpenSpec.ofChange connectionWordsSpec)

/-- ITS FALSE NEIGHBOUR: 'it returns false'. Refute it at one input. -/
def connectionWordsWrong : ChangeSpec := { name := "connectionWords", fn := fun _ => fun
  | [d1, d2, d3] => { results := [.lit (.bool false)], args := [d1, d2, d3] }
  | _ => none }
def ConnectionWordsWrongFalsely : Prop := connectionWordsRow.holds Try.pinned (OpenSpec.ofChange connectionWordsWrong)

/-- 'abutmentlaw17.ConnectionAlive': WHATEVER THE INPUT: true; the input reads as it did. -/
def connectionAliveSpec : ChangeSpec := { name := "connectionAlive", fn := fun _ => fun
  | [d] => { results := [.lit (.bool true)], args := [d] }
  | _ => none }
def connectionAliveRow : OpenClaim := { program := "ytkjkbenmoogdjaa", sum := "9fe1671ea4782c2de588042208d543e6c89d78ea65a0db990043e110b836c2e6", func := "abutment/abutmentlaw17.ConnectionAlive", spec := "connectionAlive", inPlace := ["internal/abi.NoEscape", "internal/bytealg.MakeNoZero", "internal/bytealg.IndexByteString", "internal/bytealg.IndexString"], unfollowed := true, recurses := true, named := ["internal/bytealg.MaxLen"], apart := false }
def ConnectionAliveSaid : Prop := connectionAliveRow.holds Try.pinned (OpenSpec.ofChange connectionAliveSpec)

/-- ITS FALSE NEIGHBOUR: 'it returns false'. Refute it at one input. -/
def connectionAliveWrong : ChangeSpec := { name := "connectionAlive", fn := fun _ => fun
  | [d] => { results := [.lit (.bool false)], args := [d] }
  | _ => none }
def ConnectionAliveWrongFalsely : Prop := connectionAliveRow.holds Try.pinned (OpenSpec.ofChange connectionAliveWrong)

/-- 'abutmentlaw17.ConnectionClose': WHATEVER THE INPUT: true; the input reads as it did. -/
def connectionCloseSpec : ChangeSpec := { name := "connectionClose", fn := fun _ => fun
  | [d1, d2] => { results := [.lit (.bool true)], args := [d1, d2] }
  | _ => none }
def connectionCloseRow : OpenClaim := { program := "ytkjkbenmoogdjaa", sum := "9fe1671ea4782c2de588042208d543e6c89d78ea65a0db990043e110b836c2e6", func := "abutment/abutmentlaw17.ConnectionClose", spec := "connectionClose", inPlace := ["internal/abi.NoEscape", "internal/bytealg.MakeNoZero", "internal/bytealg.IndexByteString", "internal/bytealg.IndexString"], unfollowed := true, recurses := true, named := ["internal/bytealg.MaxLen"], apart := false }
def ConnectionCloseSaid : Prop := connectionCloseRow.holds Try.pinned (OpenSpec.ofChange connectionCloseSpec)

/-- ITS FALSE NEIGHBOUR: 'it returns false'. Refute it at one input. -/
def connectionCloseWrong : ChangeSpec := { name := "connectionClose", fn := fun _ => fun
  | [d1, d2] => { results := [.lit (.bool false)], args := [d1, d2] }
  | _ => none }
def ConnectionCloseWrongFalsely : Prop := connectionCloseRow.holds Try.pinned (OpenSpec.ofChange connectionCloseWrong)

/- THE SECOND FORM. 'bulk': how many values and letters a reading holds, each counted each time it is reached (what is shared counts as often as it is met; a slice's spare places count too). A statement '..UptoSaid' is the law's where the arguments, and the package variables that the reading takes, are together of bulk at most 1048576: NARROWER than '..Said'. Prove '..Said' where nothing that the law and all that it calls make is longer than what came in: it says more and counts as full. Else prove '..UptoSaid'. A law counts once. -/
mutual
def uptoBulk {H : Type} : DataW H → Nat
  | .lit (.string bytes) => bytes.length + 1
  | .lit _ => 1
  | .nil => 1
  | .ptr d => uptoBulk d + 1
  | .slice elems spare => uptoBulkAll elems + uptoBulkAll spare + 1
  | .agg parts => uptoBulkAll parts + 1
  | .iface _ d => uptoBulk d + 1
  | .map entries => uptoBulkEntries entries + 1
  | .held _ => 1
def uptoBulkAll {H : Type} : List (DataW H) → Nat
  | [] => 0
  | d :: r => uptoBulk d + uptoBulkAll r
def uptoBulkEntries {H : Type} : List (Lit × DataW H) → Nat
  | [] => 0
  | x :: r => uptoBulkEntry x + uptoBulkEntries r
def uptoBulkEntry {H : Type} : Lit × DataW H → Nat
  | (.string bytes, d) => bytes.length + uptoBulk d + 1
  | (_, d) => uptoBulk d + 1
 end
def uptoSmall : (H : Type) → List (DataW H) → Bool := fun _ ds => decide (uptoBulkAll ds ≤ 1048576)
def OpenSpec.upto (s : _root_.Go.ChangeSpec) : _root_.Go.OpenSpec := { _root_.Go.OpenSpec.ofChange s with cond := some uptoSmall }

/-- 'abutmentlaw09.FieldParses', WHERE WHAT IT READS IS OF BULK AT MOST 1048576: true; the input reads as it did. -/
def fieldParsesUptoRow : OpenClaim := { program := "ytkjkbenmoogdjaa", sum := "9fe1671ea4782c2de588042208d543e6c89d78ea65a0db990043e110b836c2e6", func := "abutment/abutmentlaw09.FieldParses", spec := "fieldParses", inPlace := ["internal/bytealg.IndexByteString", "internal/bytealg.IndexString"], unfollowed := true, recurses := true, named := ["internal/bytealg.MaxLen"], apart := false, narrowed := true }
def FieldParsesUptoSaid : Prop := fieldParsesUptoRow.holds Try.pinned (OpenSpec.upto fieldParsesSpec)

/-- 'abutmentlaw07.ListsSplit', WHERE WHAT IT READS IS OF BULK AT MOST 1048576: true; the input reads as it did. -/
def listsSplitUptoRow : OpenClaim := { program := "ytkjkbenmoogdjaa", sum := "9fe1671ea4782c2de588042208d543e6c89d78ea65a0db990043e110b836c2e6", func := "abutment/abutmentlaw07.ListsSplit", spec := "listsSplit", inPlace := ["internal/abi.NoEscape", "internal/bytealg.MakeNoZero"], unfollowed := true, recurses := true, apart := false, narrowed := true }
def ListsSplitUptoSaid : Prop := listsSplitUptoRow.holds Try.pinned (OpenSpec.upto listsSplitSpec)

/-- 'abutmentlaw07.ListsJoin', WHERE WHAT IT READS IS OF BULK AT MOST 1048576: true; the input reads as it did. -/
def listsJoinUptoRow : OpenClaim := { program := "ytkjkbenmoogdjaa", sum := "9fe1671ea4782c2de588042208d543e6c89d78ea65a0db990043e110b836c2e6", func := "abutment/abutmentlaw07.ListsJoin", spec := "listsJoin", inPlace := ["internal/abi.NoEscape", "internal/bytealg.MakeNoZero"], unfollowed := true, recurses := true, apart := false, narrowed := true }
def ListsJoinUptoSaid : Prop := listsJoinUptoRow.holds Try.pinned (OpenSpec.upto listsJoinSpec)

/-- 'abutmentlaw07.ListsBack', WHERE WHAT IT READS IS OF BULK AT MOST 1048576: true; the input reads as it did. -/
def listsBackUptoRow : OpenClaim := { program := "ytkjkbenmoogdjaa", sum := "9fe1671ea4782c2de588042208d543e6c89d78ea65a0db990043e110b836c2e6", func := "abutment/abutmentlaw07.ListsBack", spec := "listsBack", inPlace := ["internal/abi.NoEscape", "internal/bytealg.MakeNoZero"], unfollowed := true, recurses := true, apart := false, narrowed := true }
def ListsBackUptoSaid : Prop := listsBackUptoRow.holds Try.pinned (OpenSpec.upto listsBackSpec)

/-- 'abutmentlaw29.HopStrips', WHERE WHAT IT READS IS OF BULK AT MOST 1048576: true; the input reads as it did. -/
def hopStripsUptoRow : OpenClaim := { program := "ytkjkbenmoogdjaa", sum := "9fe1671ea4782c2de588042208d543e6c89d78ea65a0db990043e110b836c2e6", func := "abutment/abutmentlaw29.HopStrips", spec := "hopStrips", inPlace := ["internal/abi.NoEscape", "internal/bytealg.MakeNoZero"], unfollowed := true, recurses := true, apart := false, narrowed := true }
def HopStripsUptoSaid : Prop := hopStripsUptoRow.holds Try.pinned (OpenSpec.upto hopStripsSpec)

/-- 'abutmentlaw29.HopLeaves', WHERE WHAT IT READS IS OF BULK AT MOST 1048576: true; the input reads as it did. -/
def hopLeavesUptoRow : OpenClaim := { program := "ytkjkbenmoogdjaa", sum := "9fe1671ea4782c2de588042208d543e6c89d78ea65a0db990043e110b836c2e6", func := "abutment/abutmentlaw29.HopLeaves", spec := "hopLeaves", inPlace := ["internal/abi.NoEscape", "internal/bytealg.MakeNoZero"], unfollowed := true, recurses := true, apart := false, narrowed := true }
def HopLeavesUptoSaid : Prop := hopLeavesUptoRow.holds Try.pinned (OpenSpec.upto hopLeavesSpec)

/-- 'abutmentlaw17.ConnectionWords', WHERE WHAT IT READS IS OF BULK AT MOST 1048576: true; the input reads as it did. -/
def connectionWordsUptoRow : OpenClaim := { program := "ytkjkbenmoogdjaa", sum := "9fe1671ea4782c2de588042208d543e6c89d78ea65a0db990043e110b836c2e6", func := "abutment/abutmentlaw17.ConnectionWords", spec := "connectionWords", inPlace := ["internal/abi.NoEscape", "internal/bytealg.MakeNoZero", "internal/bytealg.IndexByteString", "internal/bytealg.IndexString"], unfollowed := true, recurses := true, named := ["internal/bytealg.MaxLen"], apart := false, narrowed := true }
def ConnectionWordsUptoSaid : Prop := connectionWordsUptoRow.holds Try.pinned (OpenSpec.upto connectionWordsSpec)

/-- 'abutmentlaw17.ConnectionAlive', WHERE WHAT IT READS IS OF BULK AT MOST 1048576: true; the input reads as it did. -/
def connectionAliveUptoRow : OpenClaim := { program := "ytkjkbenmoogdjaa", sum := "9fe1671ea4782c2de588042208d543e6c89d78ea65a0db990043e110b836c2e6", func := "abutment/abutmentlaw17.ConnectionAlive", spec := "connectionAlive", inPlace := ["internal/abi.NoEscape", "internal/bytealg.MakeNoZero", "internal/bytealg.IndexByteString", "internal/bytealg.IndexString"], unfollowed := true, recurses := true, named := ["internal/bytealg.MaxLen"], apart := false, narrowed := true }
def ConnectionAliveUptoSaid : Prop := connectionAliveUptoRow.holds Try.pinned (OpenSpec.upto connectionAliveSpec)

/-- 'abutmentlaw17.ConnectionClose', WHERE WHAT IT READS IS OF BULK AT MOST 1048576: true; the input reads as it did. -/
def connectionCloseUptoRow : OpenClaim := { program := "ytkjkbenmoogdjaa", sum := "9fe1671ea4782c2de588042208d543e6c89d78ea65a0db990043e110b836c2e6", func := "abutment/abutmentlaw17.ConnectionClose", spec := "connectionClose", inPlace := ["internal/abi.NoEscape", "internal/bytealg.MakeNoZero", "internal/bytealg.IndexByteString", "internal/bytealg.IndexString"], unfollowed := true, recurses := true, named := ["internal/bytealg.MaxLen"], apart := false, narrowed := true }
def ConnectionCloseUptoSaid : Prop := connectionCloseUptoRow.holds Try.pinned (OpenSpec.upto connectionCloseSpec)

end Rows
end Go.Proofs.Ytkjkbenmoogdjaa
