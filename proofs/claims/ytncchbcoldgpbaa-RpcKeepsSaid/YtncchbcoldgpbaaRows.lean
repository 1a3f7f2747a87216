/-
  No cell of these rows narrows 'for every input' (looked for: loops, veiled, ifaces, maps, wideKeys, modest, calm, conditions, laid).
  DERIVED. THE GIVEN ROWS OF THIS SEAT. 3 by the template 'for every input the law returns true; each argument reads behind the call as it read before'; 0 by the template 'total and deterministic' (their statements: YtncchbcoldgpbaaTotals.lean).
  GIVEN WITH THE SEED: the statements are not yours to turn. If you find one false, say at which input.
  Laid BY PROGRAM, IN A SANDBOX (cutbox-rows.mjs): the forced cells as the released guide's own fill.sh prints them over the translation f7e78c9093751ce6… (all of the seat's roots in one cut). By AI agents, Wed Nov 11 2026. No macro, syntax, notation, axiom, sorry.
-/
import Derived.Test.YtncchbcoldgpbaaChecked
import GoSem.Claim
import GoSem.ClaimJoined
import GoSem.ClaimMapViews
import Derived.JoinedTies
import Derived.KernelRfl
namespace Go.Proofs.Ytncchbcoldgpbaa
/- THE CELL 'sum', in the pinned program and in every row, IS THE sha256 OF THE DUMP (.gsa) THAT YtncchbcoldgpbaaProg.lean LOADS. Nothing in Lean hashes anything: it is a label: what it is worth is what the hold of that sum in a sandbox is worth. -/
noncomputable def Try.pinned : Pinned := { name := "ytncchbcoldgpbaa", sum := "f7e78c9093751ce65a727dff2ae4958bd27449f205306b598c4e3e60f52282f3", checked := Try.checked }
namespace Rows
def none {H : Type} : Left H := { results := [], args := [] }

/-- 'groynelaw23.RpcPackets': WHATEVER THE INPUT: true; the input reads as it did. -/
def rpcPacketsSpec : ChangeSpec := { name := "rpcPackets", fn := fun _ => fun
  | [d1, d2] => { results := [.lit (.bool true)], args := [d1, d2] }
  | _ => none }
def rpcPacketsRow : OpenClaim := { program := "ytncchbcoldgpbaa", sum := "f7e78c9093751ce65a727dff2ae4958bd27449f205306b598c4e3e60f52282f3", func := "groyne/groynelaw23.RpcPackets", spec := "rpcPackets", unfollowed := true, recurses := true, apart := false }
def RpcPacketsSaid : Prop := rpcPacketsRow.holds Try.pinned (OpenSpec.ofChange rpcPacketsSpec)

/-- ITS FALSE NEIGHBOUR: 'it returns false'. Refute it at one input. -/
def rpcPacketsWrong : ChangeSpec := { name := "rpcPackets", fn := fun _ => fun
  | [d1, d2] => { results := [.lit (.bool false)], args := [d1, d2] }
  | _ => none }
def RpcPacketsWrongFalsely : Prop := rpcPacketsRow.holds Try.pinned (OpenSpec.ofChange rpcPacketsWrong)

/-- 'groynelaw23.RpcTells': WHATEVER THE INPUT: true; the input reads as it did. -/
def rpcTellsSpec : ChangeSpec := { name := "rpcTells", fn := fun _ => fun
  | [d1, d2, d3] => { results := [.lit (.bool true)], args := [d1, d2, d3] }
  | _ => none }
def rpcTellsRow : OpenClaim := { program := "ytncchbcoldgpbaa", sum := "f7e78c9093751ce65a727dff2ae4958bd27449f205306b598c4e3e60f52282f3", func := "groyne/groynelaw23.RpcTells", spec := "rpcTells", unfollowed := true, recurses := true, apart := false }
def RpcTellsSaid : Prop := rpcTellsRow.holds Try.pinned (OpenSpec.ofChange rpcTellsSpec)

/-- ITS FALSE NEIGHBOUR: 'it returns false'. Refute it at one input. -/
def rpcTellsWrong : ChangeSpec := { name := "rpcTells", fn := fun _ => fun
  | [d1, d2, d3] => { results := [.lit (.bool false)], args := [d1, d2, d3] }
  | _ => none }
def RpcTellsWrongFalsely : Prop := rpcTellsRow.holds Try.pinned (OpenSpec.ofChange rpcTellsWrong)

/-- 'groynelaw23.RpcKeeps': WHATEVER THE INPUT: true; the input reads as it did. -/
def rpcKeepsSpec : ChangeSpec := { name := "rpcKeeps", fn := fun _ => fun
  | [d1, d2] => { results := [.lit (.bool true)], args := [d1, d2] }
  | _ => none }
def rpcKeepsRow : OpenClaim := { program := "ytncchbcoldgpbaa", sum := "f7e78c9093751ce65a727dff2ae4958bd27449f205306b598c4e3e60f52282f3", func := "groyne/groynelaw23.RpcKeeps", spec := "rpcKeeps", unfollowed := true, recurses := true, apart := false }
def RpcKeepsSaid : Prop := rpcKeepsRow.holds Try.pinned (OpenSpec.ofChange rpcKeepsSpec)

/-- ITS FALSE NEIGHBOUR: 'it returns false'. Refute it at one input. -/
def rpcKeepsWrong : ChangeSpec := { name := "rpcKeeps", fn := fun _ => fun
  | [d1, d2] => { results := [.lit (.bool false)], args := [d1, d2] }
  | _ => none }
def RpcKeepsWrongFalsely : Prop := rpcKeepsRow.holds Try.pinned (OpenSpec.ofChange rpcKeepsWrong)

/- THE SECOND FORM. 'bulk': how many values and letters a reading holds, each counted each time it is reached (what is shared counts as often as it is met; a slice's spare places count too). A statement '..UptoSaid' is the law's where the arguments, and the package variables that the reading takes, are together of bulk at most 1048576: NARROWER than '..Said'. Prove '..Said' where nothing that the law and all that it calls make is longer than what came in: it says more and counts as full. Else prove '..UptoSaid'. A law counts once. -/
mutual
def uptoBulk {H : Type} : DataW H → Nat
  | .lit (.string bytes) => bytes.length + 1
  | .lit _ => 1
  | .nil => 1
  | .ptr d => uptoBulk d + 1
  | .slice elems spare => uptoBulkAll elems + uptoBulkAll spare + 1
  | .agg parts => uptoBulkAll parts + 1
  | .iface _ d => uptoBulk d + 1
  | .map entries => uptoBulkEntries entries + 1
  | .held _ => 1
def uptoBulkAll {H : Type} : List (DataW H) → Nat
  | [] => 0
  | d :: r => uptoBulk d + uptoBulkAll r
def uptoBulkEntries {H : Type} : List (Lit × DataW H) → Nat
  | [] => 0
  | x :: r => uptoBulkEntry x + uptoBulkEntries r
def uptoBulkEntry {H : Type} : Lit × DataW H → Nat
  | (.string bytes, d) => bytes.length + uptoBulk d + 1
  | (_, d) => uptoBulk d + 1
 end
def uptoSmall : (H : Type) → List (DataW H) → Bool := fun _ ds => decide (uptoBulkAll ds ≤ 1048576)
def OpenSpec.upto (s : _root_.Go.ChangeSpec) : _root_.Go.OpenSpec := { _root_.Go.OpenSpec.ofChange s with cond := some uptoSmall }

/-- 'groynelaw23.RpcPackets', WHERE WHAT IT READS IS OF BULK AT MOST 1048576: true; the input reads as it did. -/
def rpcPacketsUptoRow : OpenClaim := { program := "ytncchbcoldgpbaa", sum := "f7e78c9093751ce65a727dff2ae4958bd27449f205306b598c4e3e60f52282f3", func := "groyne/groynelaw23.RpcPackets", spec := "rpcPackets", unfollowed := true, recurses := true, apart := false, narrowed := true }
def RpcPacketsUptoSaid : Prop := rpcPacketsUptoRow.holds Try.pinned (OpenSpec.upto rpcPacketsSpec)

/-- 'groynelaw23.RpcTells', WHERE WHAT IT READS IS OF BULK AT MOST 1048576: true; the input reads as it did. -/
def rpcTellsUptoRow : OpenClaim := { program := "ytncchbcoldgpbaa", sum := "f7e78c9093751ce65a727dff2ae4958bd27449f205306b598c4e3e60f52282f3", func := "groyne/groynelaw23.RpcTells", spec := "rpcTells", unfollowed := true, recurses := true, apart := false, narrowed := true }
def RpcTellsUptoSaid : Prop := rpcTellsUptoRow.holds Try.pinned (OpenSpec.upto rpcTellsSpec)

/-- 'groynelaw23.RpcKeeps', WHERE WHAT IT READS IS OF BULK AT MOST 1048576: true; the input reads as it did. -/
def rpcKeepsUptoRow : OpenClaim := { program := "ytncchbcoldgpbaa", sum := "f7e78c9093751ce65a727dff2ae4958bd27449f205306b598c4e3e60f52282f3", func := "groyne/groynelaw23.RpcKeeps", spec := "rpcKeeps", unfollowed := true, recurses := true, apart := false, narrowed := true }
def RpcKeepsUptoSaid : Prop := rpcKeepsUptoRow.holds Try.pinned (OpenSpec.upto rpcKeepsSpec)

end Rows
end Go.Proofs.Ytncchbcoldgpbaa
