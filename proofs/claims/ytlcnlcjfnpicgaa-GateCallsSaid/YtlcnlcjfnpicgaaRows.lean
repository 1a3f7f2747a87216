/-
  No cell of these rows narrows 'for every input' (looked for: loops, veiled, ifaces, maps, wideKeys, modest, calm, conditions, laid).
  DERIVED. THE GIVEN ROWS OF THIS SEAT. 2 by the template 'for every input the law returns true; each argument reads behind the call as it read before'; 0 by the template 'total and deterministic' (their statements: YtlcnlcjfnpicgaaTotals.lean).
  GIVEN WITH THE SEED: the statements are not yours to turn. If you find one false, say at which input.
  Laid BY PROGRAM, IN A SANDBOX (cutbox-rows.mjs): the forced cells as the released guide's own fill.sh prints them over the translation 52a3ed59f3ec4530… (all of the seat's roots in one cut). By AI agents, Wed Nov 11 2026. No macro, syntax, notation, axiom, sorry.
-/
import Derived.Test.YtlcnlcjfnpicgaaChecked
import GoSem.Claim
import GoSem.ClaimJoined
import GoSem.ClaimMapViews
import Derived.JoinedTies
import Derived.KernelRfl
namespace Go.Proofs.Ytlcnlcjfnpicgaa
/- THE CELL 'sum', in the pinned program and in every row, IS THE sha256 OF THE DUMP (.gsa) THAT YtlcnlcjfnpicgaaProg.lean LOADS. Nothing in Lean hashes anything: it is a label: what it is worth is what the hold of that sum in a sandbox is worth. -/
noncomputable def Try.pinned : Pinned := { name := "ytlcnlcjfnpicgaa", sum := "52a3ed59f3ec453045f3ce0f26ca4c80de065d76131b0aea9d63f2d19d26910f", checked := Try.checked }
namespace Rows
def none {H : Type} : Left H := { results := [], args := [] }

/-- 'groynelaw20.GateEnds': WHATEVER THE INPUT: true; the input reads as it did. -/
def gateEndsSpec : ChangeSpec := { name := "gateEnds", fn := fun _ => fun
  | [d1, d2, d3] => { results := [.lit (.bool true)], args := [d1, d2, d3] }
  | _ => none }
def gateEndsRow : OpenClaim := { program := "ytlcnlcjfnpicgaa", sum := "52a3ed59f3ec453045f3ce0f26ca4c80de065d76131b0aea9d63f2d19d26910f", func := "groyne/groynelaw20.GateEnds", spec := "gateEnds", apart := false }
def GateEndsSaid : Prop := gateEndsRow.holds Try.pinned (OpenSpec.ofChange gateEndsSpec)

/-- ITS FALSE NEIGHBOUR: 'it returns false'. Refute it at one input. -/
def gateEndsWrong : ChangeSpec := { name := "gateEnds", fn := fun _ => fun
  | [d1, d2, d3] => { results := [.lit (.bool false)], args := [d1, d2, d3] }
  | _ => none }
def GateEndsWrongFalsely : Prop := gateEndsRow.holds Try.pinned (OpenSpec.ofChange gateEndsWrong)

/-- 'groynelaw20.GateCalls': WHATEVER THE INPUT: true; the input reads as it did. -/
def gateCallsSpec : ChangeSpec := { name := "gateCalls", fn := fun _ => fun
  | [d1, d2, d3] => { results := [.lit (.bool true)], args := [d1, d2, d3] }
  | _ => none }
def gateCallsRow : OpenClaim := { program := "ytlcnlcjfnpicgaa", sum := "52a3ed59f3ec453045f3ce0f26ca4c80de065d76131b0aea9d63f2d19d26910f", func := "groyne/groynelaw20.GateCalls", spec := "gateCalls", apart := false }
def GateCallsSaid : Prop := gateCallsRow.holds Try.pinned (OpenSpec.ofChange gateCallsSpec)

/-- ITS FALSE NEIGHBOUR: 'it returns false'. Refute it at one input. -/
def gateCallsWrong : ChangeSpec := { name := "gateCalls", fn := fun _ => fun
  | [d1, d2, d3] => { results := [.lit (.bool false)], args := [d1, d2, d3] }
  | _ => none }
def GateCallsWrongFalsely : Prop := gateCallsRow.holds Try.pinned (OpenSpec.ofChange gateCallsWrong)

/- THE SECOND FORM. 'bulk': how many values and letters a reading holds, each counted each time it is reached (what is shared counts as often as it is met; a slice's spare places count too). A statement '..UptoSaid' is the law's where the arguments, and the package variables that the reading takes, are together of bulk at most 1048576: NARROWER than '..Said'. Prove '..Said' where nothing that the law and all that it calls make is longer than what came in: it says more and counts as full. Else prove '..UptoSaid'. A law counts once. -/
mutual
def uptoBulk {H : Type} : DataW H → Nat
  | .lit (.string bytes) => bytes.length + 1
  | .lit _ => 1
  | .nil => 1
  | .ptr d => uptoBulk d + 1
  | .slice elems spare => uptoBulkAll elems + uptoBulkAll spare + 1
  | .agg parts => uptoBulkAll parts + 1
  | .iface _ d => uptoBulk d + 1
  | .map entries => uptoBulkEntries entries + 1
  | .held _ => 1
def uptoBulkAll {H : Type} : List (DataW H) → Nat
  | [] => 0
  | d :: r => uptoBulk d + uptoBulkAll r
def uptoBulkEntries {H : Type} : List (Lit × DataW H) → Nat
  | [] => 0
  | x :: r => uptoBulkEntry x + uptoBulkEntries r
def uptoBulkEntry {H : Type} : Lit × DataW H → Nat
  | (.string bytes, d) => bytes.length + uptoBulk d + 1
  | (_, d) => uptoBulk d + 1
 end
def uptoSmall : (H : Type) → List (DataW H) → Bool := fun _ ds => decide (uptoBulkAll ds ≤ 1048576)
def OpenSpec.upto (s : _root_.Go.ChangeSpec) : _root_.Go.OpenSpec := { _root_.Go.OpenSpec.ofChange s with cond := some uptoSmall }

/-- 'groynelaw20.GateEnds', WHERE WHAT IT READS IS OF BULK AT MOST 1048576: true; the input reads as it did. -/
def gateEndsUptoRow : OpenClaim := { program := "ytlcnlcjfnpicgaa", sum := "52a3ed59f3ec453045f3ce0f26ca4c80de065d76131b0aea9d63f2d19d26910f", func := "groyne/groynelaw20.GateEnds", spec := "gateEnds", apart := false, narrowed := true }
def GateEndsUptoSaid : Prop := gateEndsUptoRow.holds Try.pinned (OpenSpec.upto gateEndsSpec)

/-- 'groynelaw20.GateCalls', WHERE WHAT IT READS IS OF BULK AT MOST 1048576: true; the input reads as it did. -/
def gateCallsUptoRow : OpenClaim := { program := "ytlcnlcjfnpicgaa", sum := "52a3ed59f3ec453045f3ce0f26ca4c80de065d76131b0aea9d63f2d19d26910f", func := "groyne/groynelaw20.GateCalls", spec := "gateCalls", apart := false, narrowed := true }
def GateCallsUptoSaid : Prop := gateCallsUptoRow.holds Try.pinned (OpenSpec.upto gateCallsSpec)

end Rows
end Go.Proofs.Ytlcnlcjfnpicgaa
