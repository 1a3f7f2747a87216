/-
  No cell of these rows narrows 'for every input' (looked for: loops, veiled, ifaces, maps, wideKeys, modest, calm, conditions, laid).
  DERIVED. THE GIVEN ROWS OF THIS SEAT. 7 by the template 'for every input the law returns true; each argument reads behind the call as it read before'; 0 by the template 'total and deterministic' (their statements: YtlklcdjhlpadiaaTotals.lean).
  GIVEN WITH THE SEED: the statements are not yours to turn. If you find one false, say at which input.
  Laid BY PROGRAM, IN A SANDBOX (cutbox-rows.mjs): the forced cells as the released guide's own fill.sh prints them over the translation 495cdac99ff36dbd… (all of the seat's roots in one cut). By AI agents, Wed Nov 11 2026. No macro, syntax, notation, axiom, sorry.
-/
import Derived.Test.YtlklcdjhlpadiaaChecked
import GoSem.Claim
import GoSem.ClaimJoined
import GoSem.ClaimMapViews
import Derived.JoinedTies
import Derived.KernelRfl
namespace Go.Proofs.Ytlklcdjhlpadiaa
/- THE CELL 'sum', in the pinned program and in every row, IS THE sha256 OF THE DUMP (.gsa) THAT YtlklcdjhlpadiaaProg.lean LOADS. Nothing in Lean hashes anything: it is a label: what it is worth is what the hold of that sum in a sandbox is worth. -/
noncomputable def Try.pinned : Pinned := { name := "ytlklcdjhlpadiaa", sum := "495cdac99ff36dbd9174b2de2178872c931cdaa27c0da9b1c1044aeeda0dcc27", checked := Try.checked }
namespace Rows
def none {H : Type} : Left H := { results := [], args := [] }

/-- 'groynelaw01.PackOrders': WHATEVER THE INPUT: true; the input reads as it did. -/
def packOrdersSpec : ChangeSpec := { name := "packOrders", fn := fun _ => fun
  | [d1, d2, d3] => { results := [.lit (.bool true)], args := [d1, d2, d3] }
  | _ => none }
def packOrdersRow : OpenClaim := { program := "ytlklcdjhlpadiaa", sum := "495cdac99ff36dbd9174b2de2178872c931cdaa27c0da9b1c1044aeeda0dcc27", func := "groyne/groynelaw01.PackOrders", spec := "packOrders", inPlace := ["internal/bytealg.Compare"], apart := false }
def PackOrdersSaid : Prop := packOrdersRow.holds Try.pinned (OpenSpec.ofChange packOrdersSpec)

/-- ITS FALSE NEIGHBOUR: 'it returns false'. Refute it at one input. -/
def packOrdersWrong : ChangeSpec := { name := "packOrders", fn := fun _ => fun
  | [d1, d2, d3] => { results := [.lit (.bool false)], args := [d1, d2, d3] }
  | _ => none }
def PackOrdersWrongFalsely : Prop := packOrdersRow.holds Try.pinned (OpenSpec.ofChange packOrdersWrong)

/-- 'groynelaw01.PackNumbers': WHATEVER THE INPUT: true; the input reads as it did. -/
def packNumbersSpec : ChangeSpec := { name := "packNumbers", fn := fun _ => fun
  | [d1, d2, d3] => { results := [.lit (.bool true)], args := [d1, d2, d3] }
  | _ => none }
def packNumbersRow : OpenClaim := { program := "ytlklcdjhlpadiaa", sum := "495cdac99ff36dbd9174b2de2178872c931cdaa27c0da9b1c1044aeeda0dcc27", func := "groyne/groynelaw01.PackNumbers", spec := "packNumbers", inPlace := ["internal/bytealg.Compare"], apart := false }
def PackNumbersSaid : Prop := packNumbersRow.holds Try.pinned (OpenSpec.ofChange packNumbersSpec)

/-- ITS FALSE NEIGHBOUR: 'it returns false'. Refute it at one input. -/
def packNumbersWrong : ChangeSpec := { name := "packNumbers", fn := fun _ => fun
  | [d1, d2, d3] => { results := [.lit (.bool false)], args := [d1, d2, d3] }
  | _ => none }
def PackNumbersWrongFalsely : Prop := packNumbersRow.holds Try.pinned (OpenSpec.ofChange packNumbersWrong)

/-- 'groynelaw01.PackReads': WHATEVER THE INPUT: true; the input reads as it did. -/
def packReadsSpec : ChangeSpec := { name := "packReads", fn := fun _ => fun
  | [d1, d2] => { results := [.lit (.bool true)], args := [d1, d2] }
  | _ => none }
def packReadsRow : OpenClaim := { program := "ytlklcdjhlpadiaa", sum := "495cdac99ff36dbd9174b2de2178872c931cdaa27c0da9b1c1044aeeda0dcc27", func := "groyne/groynelaw01.PackReads", spec := "packReads", inPlace := ["internal/bytealg.Compare"], apart := false }
def PackReadsSaid : Prop := packReadsRow.holds Try.pinned (OpenSpec.ofChange packReadsSpec)

/-- ITS FALSE NEIGHBOUR: 'it returns false'. Refute it at one input. -/
def packReadsWrong : ChangeSpec := { name := "packReads", fn := fun _ => fun
  | [d1, d2] => { results := [.lit (.bool false)], args := [d1, d2] }
  | _ => none }
def PackReadsWrongFalsely : Prop := packReadsRow.holds Try.pinned (OpenSpec.ofChange packReadsWrong)

/-- 'groynelaw01.PackJoins': WHATEVER THE INPUT: true; the input reads as it did. -/
def packJoinsSpec : ChangeSpec := { name := "packJoins", fn := fun _ => fun
  | [d1, d2] => { results := [.lit (.bool true)], args := [d1, d2] }
  | _ => none }
def packJoinsRow : OpenClaim := { program := "ytlklcdjhlpadiaa", sum := "495cdac99ff36dbd9174b2de2178872c931cdaa27c0da9b1c1044aeeda0dcc27", func := "groyne/groynelaw01.PackJoins", spec := "packJoins", inPlace := ["internal/bytealg.Compare"], apart := false }
def PackJoinsSaid : Prop := packJoinsRow.holds Try.pinned (OpenSpec.ofChange packJoinsSpec)

/-- ITS FALSE NEIGHBOUR: 'it returns false'. Refute it at one input. -/
def packJoinsWrong : ChangeSpec := { name := "packJoins", fn := fun _ => fun
  | [d1, d2] => { results := [.lit (.bool false)], args := [d1, d2] }
  | _ => none }
def PackJoinsWrongFalsely : Prop := packJoinsRow.holds Try.pinned (OpenSpec.ofChange packJoinsWrong)

/-- 'groynelaw01.PackPrefixes': WHATEVER THE INPUT: true; the input reads as it did. -/
def packPrefixesSpec : ChangeSpec := { name := "packPrefixes", fn := fun _ => fun
  | [d1, d2] => { results := [.lit (.bool true)], args := [d1, d2] }
  | _ => none }
def packPrefixesRow : OpenClaim := { program := "ytlklcdjhlpadiaa", sum := "495cdac99ff36dbd9174b2de2178872c931cdaa27c0da9b1c1044aeeda0dcc27", func := "groyne/groynelaw01.PackPrefixes", spec := "packPrefixes", inPlace := ["internal/bytealg.Compare"], apart := false }
def PackPrefixesSaid : Prop := packPrefixesRow.holds Try.pinned (OpenSpec.ofChange packPrefixesSpec)

/-- ITS FALSE NEIGHBOUR: 'it returns false'. Refute it at one input. -/
def packPrefixesWrong : ChangeSpec := { name := "packPrefixes", fn := fun _ => fun
  | [d1, d2] => { results := [.lit (.bool false)], args := [d1, d2] }
  | _ => none }
def PackPrefixesWrongFalsely : Prop := packPrefixesRow.holds Try.pinned (OpenSpec.ofChange packPrefixesWrong)

/-- 'groynelaw01.PackKeeps': WHATEVER THE INPUT: true; the input reads as it did. -/
def packKeepsSpec : ChangeSpec := { name := "packKeeps", fn := fun _ => fun
  | [d1, d2] => { results := [.lit (.bool true)], args := [d1, d2] }
  | _ => none }
def packKeepsRow : OpenClaim := { program := "ytlklcdjhlpadiaa", sum := "495cdac99ff36dbd9174b2de2178872c931cdaa27c0da9b1c1044aeeda0dcc27", func := "groyne/groynelaw01.PackKeeps", spec := "packKeeps", inPlace := ["internal/bytealg.Compare"], apart := false }
def PackKeepsSaid : Prop := packKeepsRow.holds Try.pinned (OpenSpec.ofChange packKeepsSpec)

/-- ITS FALSE NEIGHBOUR: 'it returns false'. Refute it at one input. -/
def packKeepsWrong : ChangeSpec := { name := "packKeeps", fn := fun _ => fun
  | [d1, d2] => { results := [.lit (.bool false)], args := [d1, d2] }
  | _ => none }
def PackKeepsWrongFalsely : Prop := packKeepsRow.holds Try.pinned (OpenSpec.ofChange packKeepsWrong)

/-- 'groynelaw01.PackWrites': WHATEVER THE INPUT: true; the input reads as it did. -/
def packWritesSpec : ChangeSpec := { name := "packWrites", fn := fun _ => fun
  | [d] => { results := [.lit (.bool true)], args := [d] }
  | _ => none }
def packWritesRow : OpenClaim := { program := "ytlklcdjhlpadiaa", sum := "495cdac99ff36dbd9174b2de2178872c931cdaa27c0da9b1c1044aeeda0dcc27", func := "groyne/groynelaw01.PackWrites", spec := "packWrites", inPlace := ["internal/bytealg.Compare"], apart := false }
def PackWritesSaid : Prop := packWritesRow.holds Try.pinned (OpenSpec.ofChange packWritesSpec)

/-- ITS FALSE NEIGHBOUR: 'it returns false'. Refute it at one input. -/
def packWritesWrong : ChangeSpec := { name := "packWrites", fn := fun _ => fun
  | [d] => { results := [.lit (.bool false)], args := [d] }
  | _ => none }
def PackWritesWrongFalsely : Prop := packWritesRow.holds Try.pinned (OpenSpec.ofChange packWritesWrong)

/- THE SECOND FORM. 'bulk': how many values and letters a reading holds, each counted each time it is reached (what is shared counts as often as it is met; a slice's spare places count too). A statement '..UptoSaid' is the law's where the arguments, and the package variables that the reading takes, are together of bulk at most 1048576: NARROWER than '..Said'. Prove '..Said' where nothing that the law and all that it calls make is longer than what came in: it says more and counts as full. Else prove '..UptoSaid'. A law counts once. -/
mutual
def uptoBulk {H : Type} : DataW H → Nat
  | .lit (.string bytes) => bytes.length + 1
  | .lit _ => 1
  | .nil => 1
  | .ptr d => uptoBulk d + 1
  | .slice elems spare => uptoBulkAll elems + uptoBulkAll spare + 1
  | .agg parts => uptoBulkAll parts + 1
  | .iface _ d => uptoBulk d + 1
  | .map entries => uptoBulkEntries entries + 1
  | .held _ => 1
def uptoBulkAll {H : Type} : List (DataW H) → Nat
  | [] => 0
  | d :: r => uptoBulk d + uptoBulkAll r
def uptoBulkEntries {H : Type} : List (Lit × DataW H) → Nat
  | [] => 0
  | x :: r => uptoBulkEntry x + uptoBulkEntries r
def uptoBulkEntry {H : Type} : Lit × DataW H → Nat
  | (.string bytes, d) => bytes.length + uptoBulk d + 1
  | (_, d) => uptoBulk d + 1
 end
def uptoSmall : (H : Type) → List (DataW H) → Bool := fun _ ds => decide (uptoBulkAll ds ≤ 1048576)
def OpenSpec.upto (s : _root_.Go.ChangeSpec) : _root_.Go.OpenSpec := { _root_.Go.OpenSpec.ofChange s with cond := some uptoSmall }

/-- 'groynelaw01.PackOrders', WHERE WHAT IT READS IS OF BULK AT MOST 1048576: true; the input reads as it did. -/
def packOrdersUptoRow : OpenClaim := { program := "ytlklcdjhlpadiaa", sum := "495cdac99ff36dbd9174b2de2178872c931cdaa27c0da9b1c1044aeeda0dcc27", func := "groyne/groynelaw01.PackOrders", spec := "packOrders", inPlace := ["internal/bytealg.Compare"], apart := false, narrowed := true }
def PackOrdersUptoSaid : Prop := packOrdersUptoRow.holds Try.pinned (OpenSpec.upto packOrdersSpec)

/-- 'groynelaw01.PackNumbers', WHERE WHAT IT READS IS OF BULK AT MOST 1048576: true; the input reads as it did. -/
def packNumbersUptoRow : OpenClaim := { program := "ytlklcdjhlpadiaa", sum := "495cdac99ff36dbd9174b2de2178872c931cdaa27c0da9b1c1044aeeda0dcc27", func := "groyne/groynelaw01.PackNumbers", spec := "packNumbers", inPlace := ["internal/bytealg.Compare"], apart := false, narrowed := true }
def PackNumbersUptoSaid : Prop := packNumbersUptoRow.holds Try.pinned (OpenSpec.upto packNumbersSpec)

/-- 'groynelaw01.PackReads', WHERE WHAT IT READS IS OF BULK AT MOST 1048576: true; the input reads as it did. -/
def packReadsUptoRow : OpenClaim := { program := "ytlklcdjhlpadiaa", sum := "495cdac99ff36dbd9174b2de2178872c931cdaa27c0da9b1c1044aeeda0dcc27", func := "groyne/groynelaw01.PackReads", spec := "packReads", inPlace := ["internal/bytealg.Compare"], apart := false, narrowed := true }
def PackReadsUptoSaid : Prop := packReadsUptoRow.holds Try.pinned (OpenSpec.upto packReadsSpec)

/-- 'groynelaw01.PackJoins', WHERE WHAT IT READS IS OF BULK AT MOST 1048576: true; the input reads as it did. -/
def packJoinsUptoRow : OpenClaim := { program := "ytlklcdjhlpadiaa", sum := "495cdac99ff36dbd9174b2de2178872c931cdaa27c0da9b1c1044aeeda0dcc27", func := "groyne/groynelaw01.PackJoins", spec := "packJoins", inPlace := ["internal/bytealg.Compare"], apart := false, narrowed := true }
def PackJoinsUptoSaid : Prop := packJoinsUptoRow.holds Try.pinned (OpenSpec.upto packJoinsSpec)

/-- 'groynelaw01.PackPrefixes', WHERE WHAT IT READS IS OF BULK AT MOST 1048576: true; the input reads as it did. -/
def packPrefixesUptoRow : OpenClaim := { program := "ytlklcdjhlpadiaa", sum := "495cdac99ff36dbd9174b2de2178872c931cdaa27c0da9b1c1044aeeda0dcc27", func := "groyne/groynelaw01.PackPrefixes", spec := "packPrefixes", inPlace := ["internal/bytealg.Compare"], apart := false, narrowed := true }
def PackPrefixesUptoSaid : Prop := packPrefixesUptoRow.holds Try.pinned (OpenSpec.upto packPrefixesSpec)

/-- 'groynelaw01.PackKeeps', WHERE WHAT IT READS IS OF BULK AT MOST 1048576: true; the input reads as it did. -/
def packKeepsUptoRow : OpenClaim := { program := "ytlklcdjhlpadiaa", sum := "495cdac99ff36dbd9174b2de2178872c931cdaa27c0da9b1c1044aeeda0dcc27", func := "groyne/groynelaw01.PackKeeps", spec := "packKeeps", inPlace := ["internal/bytealg.Compare"], apart := false, narrowed := true }
def PackKeepsUptoSaid : Prop := packKeepsUptoRow.holds Try.pinned (OpenSpec.upto packKeepsSpec)

/-- 'groynelaw01.PackWrites', WHERE WHAT IT READS IS OF BULK AT MOST 1048576: true; the input reads as it did. -/
def packWritesUptoRow : OpenClaim := { program := "ytlklcdjhlpadiaa", sum := "495cdac99ff36dbd9174b2de2178872c931cdaa27c0da9b1c1044aeeda0dcc27", func := "groyne/groynelaw01.PackWrites", spec := "packWrites", inPlace := ["internal/bytealg.Compare"], apart := false, narrowed := true }
def PackWritesUptoSaid : Prop := packWritesUptoRow.holds Try.pinned (OpenSpec.upto packWritesSpec)

end Rows
end Go.Proofs.Ytlklcdjhlpadiaa
