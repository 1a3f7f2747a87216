/-
  No cell of these rows narrows 'for every input' (looked for: loops, veiled, ifaces, maps, wideKeys, modest, calm, conditions, laid).
  DERIVED. THE GIVEN ROWS OF THIS SEAT. 9 by the template 'for every input the law returns true; each argument reads behind the call as it read before'; 0 by the template 'total and deterministic' (their statements: YtijnfjnkjojjnaaTotals.lean).
  GIVEN WITH THE SEED: the statements are not yours to turn. If you find one false, say at which input.
  Laid BY PROGRAM, IN A SANDBOX (cutbox-rows.mjs): the forced cells as the released guide's own fill.sh prints them over the translation ae529f8b591c5c4f… (all of the seat's roots in one cut). By AI agents, Wed Nov 11 2026. No macro, syntax, notation, axiom, sorry.
-/
import Derived.Test.YtijnfjnkjojjnaaChecked
import GoSem.Claim
import GoSem.ClaimJoined
import GoSem.ClaimMapViews
import Derived.JoinedTies
import Derived.KernelRfl
namespace Go.Proofs.Ytijnfjnkjojjnaa
/- THE CELL 'sum', in the pinned program and in every row, IS THE sha256 OF THE DUMP (.gsa) THAT YtijnfjnkjojjnaaProg.lean LOADS. Nothing in Lean hashes anything: it is a label: what it is worth is what the hold of that sum in a sandbox is worth. -/
noncomputable def Try.pinned : Pinned := { name := "ytijnfjnkjojjnaa", sum := "ae529f8b591c5c4f023680f818689e9b5a903c5ef00bbb13a9f7b9cef0f0f10d", checked := Try.checked }
namespace Rows
def none {H : Type} : Left H := { results := [], args := [] }

/-- 'groynelaw03.ParityFields': WHATEVER THE INPUT: true; the input reads as it did. -/
def parityFieldsSpec : ChangeSpec := { name := "parityFields", fn := fun _ => fun
  | [d1, d2, d3] => { results := [.lit (.bool true)], args := [d1, d2, d3] }
  | _ => none }
def parityFieldsRow : OpenClaim := { program := "ytijnfjnkjojjnaa", sum := "ae529f8b591c5c4f023680f818689e9b5a903c5ef00bbb13a9f7b9cef0f0f10d", func := "groyne/groynelaw03.ParityFields", spec := "parityFields", apart := false }
def ParityFieldsSaid : Prop := parityFieldsRow.holds Try.pinned (OpenSpec.ofChange parityFieldsSpec)

/-- ITS FALSE NEIGHBOUR: 'it returns false'. Refute it at one input. -/
def parityFieldsWrong : ChangeSpec := { name := "parityFields", fn := fun _ => fun
  | [d1, d2, d3] => { results := [.lit (.bool false)], args := [d1, d2, d3] }
  | _ => none }
def ParityFieldsWrongFalsely : Prop := parityFieldsRow.holds Try.pinned (OpenSpec.ofChange parityFieldsWrong)

/-- 'groynelaw03.ParityChecks': WHATEVER THE INPUT: true; the input reads as it did. -/
def parityChecksSpec : ChangeSpec := { name := "parityChecks", fn := fun _ => fun
  | [d] => { results := [.lit (.bool true)], args := [d] }
  | _ => none }
def parityChecksRow : OpenClaim := { program := "ytijnfjnkjojjnaa", sum := "ae529f8b591c5c4f023680f818689e9b5a903c5ef00bbb13a9f7b9cef0f0f10d", func := "groyne/groynelaw03.ParityChecks", spec := "parityChecks", apart := false }
def ParityChecksSaid : Prop := parityChecksRow.holds Try.pinned (OpenSpec.ofChange parityChecksSpec)

/-- ITS FALSE NEIGHBOUR: 'it returns false'. Refute it at one input. -/
def parityChecksWrong : ChangeSpec := { name := "parityChecks", fn := fun _ => fun
  | [d] => { results := [.lit (.bool false)], args := [d] }
  | _ => none }
def ParityChecksWrongFalsely : Prop := parityChecksRow.holds Try.pinned (OpenSpec.ofChange parityChecksWrong)

/-- 'groynelaw03.ParityTells': WHATEVER THE INPUT: true; the input reads as it did. -/
def parityTellsSpec : ChangeSpec := { name := "parityTells", fn := fun _ => fun
  | [d1, d2] => { results := [.lit (.bool true)], args := [d1, d2] }
  | _ => none }
def parityTellsRow : OpenClaim := { program := "ytijnfjnkjojjnaa", sum := "ae529f8b591c5c4f023680f818689e9b5a903c5ef00bbb13a9f7b9cef0f0f10d", func := "groyne/groynelaw03.ParityTells", spec := "parityTells", apart := false }
def ParityTellsSaid : Prop := parityTellsRow.holds Try.pinned (OpenSpec.ofChange parityTellsSpec)

/-- ITS FALSE NEIGHBOUR: 'it returns false'. Refute it at one input. -/
def parityTellsWrong : ChangeSpec := { name := "parityTells", fn := fun _ => fun
  | [d1, d2] => { results := [.lit (.bool false)], args := [d1, d2] }
  | _ => none }
def ParityTellsWrongFalsely : Prop := parityTellsRow.holds Try.pinned (OpenSpec.ofChange parityTellsWrong)

/-- 'groynelaw03.ParityAdds': WHATEVER THE INPUT: true; the input reads as it did. -/
def parityAddsSpec : ChangeSpec := { name := "parityAdds", fn := fun _ => fun
  | [d1, d2, d3] => { results := [.lit (.bool true)], args := [d1, d2, d3] }
  | _ => none }
def parityAddsRow : OpenClaim := { program := "ytijnfjnkjojjnaa", sum := "ae529f8b591c5c4f023680f818689e9b5a903c5ef00bbb13a9f7b9cef0f0f10d", func := "groyne/groynelaw03.ParityAdds", spec := "parityAdds", apart := false }
def ParityAddsSaid : Prop := parityAddsRow.holds Try.pinned (OpenSpec.ofChange parityAddsSpec)

/-- ITS FALSE NEIGHBOUR: 'it returns false'. Refute it at one input. -/
def parityAddsWrong : ChangeSpec := { name := "parityAdds", fn := fun _ => fun
  | [d1, d2, d3] => { results := [.lit (.bool false)], args := [d1, d2, d3] }
  | _ => none }
def ParityAddsWrongFalsely : Prop := parityAddsRow.holds Try.pinned (OpenSpec.ofChange parityAddsWrong)

/-- 'groynelaw03.ParityPowers': WHATEVER THE INPUT: true; the input reads as it did. -/
def parityPowersSpec : ChangeSpec := { name := "parityPowers", fn := fun _ => fun
  | [d1, d2] => { results := [.lit (.bool true)], args := [d1, d2] }
  | _ => none }
def parityPowersRow : OpenClaim := { program := "ytijnfjnkjojjnaa", sum := "ae529f8b591c5c4f023680f818689e9b5a903c5ef00bbb13a9f7b9cef0f0f10d", func := "groyne/groynelaw03.ParityPowers", spec := "parityPowers", apart := false }
def ParityPowersSaid : Prop := parityPowersRow.holds Try.pinned (OpenSpec.ofChange parityPowersSpec)

/-- ITS FALSE NEIGHBOUR: 'it returns false'. Refute it at one input. -/
def parityPowersWrong : ChangeSpec := { name := "parityPowers", fn := fun _ => fun
  | [d1, d2] => { results := [.lit (.bool false)], args := [d1, d2] }
  | _ => none }
def ParityPowersWrongFalsely : Prop := parityPowersRow.holds Try.pinned (OpenSpec.ofChange parityPowersWrong)

/-- 'groynelaw03.ParityRecords': WHATEVER THE INPUT: true; the input reads as it did. -/
def parityRecordsSpec : ChangeSpec := { name := "parityRecords", fn := fun _ => fun
  | [d1, d2, d3] => { results := [.lit (.bool true)], args := [d1, d2, d3] }
  | _ => none }
def parityRecordsRow : OpenClaim := { program := "ytijnfjnkjojjnaa", sum := "ae529f8b591c5c4f023680f818689e9b5a903c5ef00bbb13a9f7b9cef0f0f10d", func := "groyne/groynelaw03.ParityRecords", spec := "parityRecords", apart := false }
def ParityRecordsSaid : Prop := parityRecordsRow.holds Try.pinned (OpenSpec.ofChange parityRecordsSpec)

/-- ITS FALSE NEIGHBOUR: 'it returns false'. Refute it at one input. -/
def parityRecordsWrong : ChangeSpec := { name := "parityRecords", fn := fun _ => fun
  | [d1, d2, d3] => { results := [.lit (.bool false)], args := [d1, d2, d3] }
  | _ => none }
def ParityRecordsWrongFalsely : Prop := parityRecordsRow.holds Try.pinned (OpenSpec.ofChange parityRecordsWrong)

/-- 'groynelaw03.ParityPrefixes': WHATEVER THE INPUT: true; the input reads as it did. -/
def parityPrefixesSpec : ChangeSpec := { name := "parityPrefixes", fn := fun _ => fun
  | [d1, d2] => { results := [.lit (.bool true)], args := [d1, d2] }
  | _ => none }
def parityPrefixesRow : OpenClaim := { program := "ytijnfjnkjojjnaa", sum := "ae529f8b591c5c4f023680f818689e9b5a903c5ef00bbb13a9f7b9cef0f0f10d", func := "groyne/groynelaw03.ParityPrefixes", spec := "parityPrefixes", apart := false }
def ParityPrefixesSaid : Prop := parityPrefixesRow.holds Try.pinned (OpenSpec.ofChange parityPrefixesSpec)

/-- ITS FALSE NEIGHBOUR: 'it returns false'. Refute it at one input. -/
def parityPrefixesWrong : ChangeSpec := { name := "parityPrefixes", fn := fun _ => fun
  | [d1, d2] => { results := [.lit (.bool false)], args := [d1, d2] }
  | _ => none }
def ParityPrefixesWrongFalsely : Prop := parityPrefixesRow.holds Try.pinned (OpenSpec.ofChange parityPrefixesWrong)

/-- 'groynelaw03.ParityKeeps': WHATEVER THE INPUT: true; the input reads as it did. -/
def parityKeepsSpec : ChangeSpec := { name := "parityKeeps", fn := fun _ => fun
  | [d] => { results := [.lit (.bool true)], args := [d] }
  | _ => none }
def parityKeepsRow : OpenClaim := { program := "ytijnfjnkjojjnaa", sum := "ae529f8b591c5c4f023680f818689e9b5a903c5ef00bbb13a9f7b9cef0f0f10d", func := "groyne/groynelaw03.ParityKeeps", spec := "parityKeeps", apart := false }
def ParityKeepsSaid : Prop := parityKeepsRow.holds Try.pinned (OpenSpec.ofChange parityKeepsSpec)

/-- ITS FALSE NEIGHBOUR: 'it returns false'. Refute it at one input. -/
def parityKeepsWrong : ChangeSpec := { name := "parityKeeps", fn := fun _ => fun
  | [d] => { results := [.lit (.bool false)], args := [d] }
  | _ => none }
def ParityKeepsWrongFalsely : Prop := parityKeepsRow.holds Try.pinned (OpenSpec.ofChange parityKeepsWrong)

/-- 'groynelaw03.ParityWraps': WHATEVER THE INPUT: true; the input reads as it did. -/
def parityWrapsSpec : ChangeSpec := { name := "parityWraps", fn := fun _ => fun
  | [d1, d2] => { results := [.lit (.bool true)], args := [d1, d2] }
  | _ => none }
def parityWrapsRow : OpenClaim := { program := "ytijnfjnkjojjnaa", sum := "ae529f8b591c5c4f023680f818689e9b5a903c5ef00bbb13a9f7b9cef0f0f10d", func := "groyne/groynelaw03.ParityWraps", spec := "parityWraps", apart := false }
def ParityWrapsSaid : Prop := parityWrapsRow.holds Try.pinned (OpenSpec.ofChange parityWrapsSpec)

/-- ITS FALSE NEIGHBOUR: 'it returns false'. Refute it at one input. -/
def parityWrapsWrong : ChangeSpec := { name := "parityWraps", fn := fun _ => fun
  | [d1, d2] => { results := [.lit (.bool false)], args := [d1, d2] }
  | _ => none }
def ParityWrapsWrongFalsely : Prop := parityWrapsRow.holds Try.pinned (OpenSpec.ofChange parityWrapsWrong)

/- THE SECOND FORM. 'bulk': how many values and letters a reading holds, each counted each time it is reached (what is shared counts as often as it is met; a slice's spare places count too). A statement '..UptoSaid' is the law's where the arguments, and the package variables that the reading takes, are together of bulk at most 1048576: NARROWER than '..Said'. Prove '..Said' where nothing that the law and all that it calls make is longer than what came in: it says more and counts as full. Else prove '..UptoSaid'. A law counts once. -/
mutual
def uptoBulk {H : Type} : DataW H → Nat
  | .lit (.string bytes) => bytes.length + 1
  | .lit _ => 1
  | .nil => 1
  | .ptr d => uptoBulk d + 1
  | .slice elems spare => uptoBulkAll elems + uptoBulkAll spare + 1
  | .agg parts => uptoBulkAll parts + 1
  | .iface _ d => uptoBulk d + 1
  | .map entries => uptoBulkEntries entries + 1
  | .held _ => 1
def uptoBulkAll {H : Type} : List (DataW H) → Nat
  | [] => 0
  | d :: r => uptoBulk d + uptoBulkAll r
def uptoBulkEntries {H : Type} : List (Lit × DataW H) → Nat
  | [] => 0
  | x :: r => uptoBulkEntry x + uptoBulkEntries r
def uptoBulkEntry {H : Type} : Lit × DataW H → Nat
  | (.string bytes, d) => bytes.length + uptoBulk d + 1
  | (_, d) => uptoBulk d + 1
 end
def uptoSmall : (H : Type) → List (DataW H) → Bool := fun _ ds => decide (uptoBulkAll ds ≤ 1048576)
def OpenSpec.upto (s : _root_.Go.ChangeSpec) : _root_.Go.OpenSpec := { _root_.Go.OpenSpec.ofChange s with cond := some uptoSmall }

/-- 'groynelaw03.ParityFields', WHERE WHAT IT READS IS OF BULK AT MOST 1048576: true; the input reads as it did. -/
def parityFieldsUptoRow : OpenClaim := { program := "ytijnfjnkjojjnaa", sum := "ae529f8b591c5c4f023680f818689e9b5a903c5ef00bbb13a9f7b9cef0f0f10d", func := "groyne/groynelaw03.ParityFields", spec := "parityFields", apart := false, narrowed := true }
def ParityFieldsUptoSaid : Prop := parityFieldsUptoRow.holds Try.pinned (OpenSpec.upto parityFieldsSpec)

/-- 'groynelaw03.ParityChecks', WHERE WHAT IT READS IS OF BULK AT MOST 1048576: true; the input reads as it did. -/
def parityChecksUptoRow : OpenClaim := { program := "ytijnfjnkjojjnaa", sum := "ae529f8b591c5c4f023680f818689e9b5a903c5ef00bbb13a9f7b9cef0f0f10d", func := "groyne/groynelaw03.ParityChecks", spec := "parityChecks", apart := false, narrowed := true }
def ParityChecksUptoSaid : Prop := parityChecksUptoRow.holds Try.pinned (OpenSpec.upto parityChecksSpec)

/-- 'groynelaw03.ParityTells', WHERE WHAT IT READS IS OF BULK AT MOST 1048576: true; the input reads as it did. -/
def parityTellsUptoRow : OpenClaim := { program := "ytijnfjnkjojjnaa", sum := "ae529f8b591c5c4f023680f818689e9b5a903c5ef00bbb13a9f7b9cef0f0f10d", func := "groyne/groynelaw03.ParityTells", spec := "parityTells", apart := false, narrowed := true }
def ParityTellsUptoSaid : Prop := parityTellsUptoRow.holds Try.pinned (OpenSpec.upto parityTellsSpec)

/-- 'groynelaw03.ParityAdds', WHERE WHAT IT READS IS OF BULK AT MOST 1048576: true; the input reads as it did. -/
def parityAddsUptoRow : OpenClaim := { program := "ytijnfjnkjojjnaa", sum := "ae529f8b591c5c4f023680f818689e9b5a903c5ef00bbb13a9f7b9cef0f0f10d", func := "groyne/groynelaw03.ParityAdds", spec := "parityAdds", apart := false, narrowed := true }
def ParityAddsUptoSaid : Prop := parityAddsUptoRow.holds Try.pinned (OpenSpec.upto parityAddsSpec)

/-- 'groynelaw03.ParityPowers', WHERE WHAT IT READS IS OF BULK AT MOST 1048576: true; the input reads as it did. -/
def parityPowersUptoRow : OpenClaim := { program := "ytijnfjnkjojjnaa", sum := "ae529f8b591c5c4f023680f818689e9b5a903c5ef00bbb13a9f7b9cef0f0f10d", func := "groyne/groynelaw03.ParityPowers", spec := "parityPowers", apart := false, narrowed := true }
def ParityPowersUptoSaid : Prop := parityPowersUptoRow.holds Try.pinned (OpenSpec.upto parityPowersSpec)

/-- 'groynelaw03.ParityRecords', WHERE WHAT IT READS IS OF BULK AT MOST 1048576: true; the input reads as it did. -/
def parityRecordsUptoRow : OpenClaim := { program := "ytijnfjnkjojjnaa", sum := "ae529f8b591c5c4f023680f818689e9b5a903c5ef00bbb13a9f7b9cef0f0f10d", func := "groyne/groynelaw03.ParityRecords", spec := "parityRecords", apart := false, narrowed := true }
def ParityRecordsUptoSaid : Prop := parityRecordsUptoRow.holds Try.pinned (OpenSpec.upto parityRecordsSpec)

/-- 'groynelaw03.ParityPrefixes', WHERE WHAT IT READS IS OF BULK AT MOST 1048576: true; the input reads as it did. -/
def parityPrefixesUptoRow : OpenClaim := { program := "ytijnfjnkjojjnaa", sum := "ae529f8b591c5c4f023680f818689e9b5a903c5ef00bbb13a9f7b9cef0f0f10d", func := "groyne/groynelaw03.ParityPrefixes", spec := "parityPrefixes", apart := false, narrowed := true }
def ParityPrefixesUptoSaid : Prop := parityPrefixesUptoRow.holds Try.pinned (OpenSpec.upto parityPrefixesSpec)

/-- 'groynelaw03.ParityKeeps', WHERE WHAT IT READS IS OF BULK AT MOST 1048576: true; the input reads as it did. -/
def parityKeepsUptoRow : OpenClaim := { program := "ytijnfjnkjojjnaa", sum := "ae529f8b591c5c4f023680f818689e9b5a903c5ef00bbb13a9f7b9cef0f0f10d", func := "groyne/groynelaw03.ParityKeeps", spec := "parityKeeps", apart := false, narrowed := true }
def ParityKeepsUptoSaid : Prop := parityKeepsUptoRow.holds Try.pinned (OpenSpec.upto parityKeepsSpec)

/-- 'groynelaw03.ParityWraps', WHERE WHAT IT READS IS OF BULK AT MOST 1048576: true; the input reads as it did. -/
def parityWrapsUptoRow : OpenClaim := { program := "ytijnfjnkjojjnaa", sum := "ae529f8b591c5c4f023680f818689e9b5a903c5ef00bbb13a9f7b9cef0f0f10d", func := "groyne/groynelaw03.ParityWraps", spec := "parityWraps", apart := false, narrowed := true }
def ParityWrapsUptoSaid : Prop := parityWrapsUptoRow.holds Try.pinned (OpenSpec.upto parityWrapsSpec)

end Rows
end Go.Proofs.Ytijnfjnkjojjnaa
