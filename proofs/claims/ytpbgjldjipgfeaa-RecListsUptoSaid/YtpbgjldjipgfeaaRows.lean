/-
  No cell of these rows narrows 'for every input' (looked for: loops, veiled, ifaces, maps, wideKeys, modest, calm, conditions, laid).
  DERIVED. THE GIVEN ROWS OF THIS SEAT. 4 by the template 'for every input the law returns true; each argument reads behind the call as it read before'; 0 by the template 'total and deterministic' (their statements: YtpbgjldjipgfeaaTotals.lean).
  GIVEN WITH THE SEED: the statements are not yours to turn. If you find one false, say at which input.
  Laid BY PROGRAM, IN A SANDBOX (cutbox-rows.mjs): the forced cells as the released guide's own fill.sh prints them over the translation 7577b0ddfa78a2fe… (all of the seat's roots in one cut). By AI agents, Wed Nov 11 2026. No macro, syntax, notation, axiom, sorry.
-/
import Derived.Test.YtpbgjldjipgfeaaChecked
import GoSem.Claim
import GoSem.ClaimJoined
import GoSem.ClaimMapViews
import Derived.JoinedTies
import Derived.KernelRfl
namespace Go.Proofs.Ytpbgjldjipgfeaa
/- THE CELL 'sum', in the pinned program and in every row, IS THE sha256 OF THE DUMP (.gsa) THAT YtpbgjldjipgfeaaProg.lean LOADS. Nothing in Lean hashes anything: it is a label: what it is worth is what the hold of that sum in a sandbox is worth. -/
noncomputable def Try.pinned : Pinned := { name := "ytpbgjldjipgfeaa", sum := "7577b0ddfa78a2fe0db758c3a965b340e20b93b0f0af94ccaf6599864c9a6ef5", checked := Try.checked }
namespace Rows
def none {H : Type} : Left H := { results := [], args := [] }

/-- 'groynelaw06.RecBytes': WHATEVER THE INPUT: true; the input reads as it did. -/
def recBytesSpec : ChangeSpec := { name := "recBytes", fn := fun _ => fun
  | [d] => { results := [.lit (.bool true)], args := [d] }
  | _ => none }
def recBytesRow : OpenClaim := { program := "ytpbgjldjipgfeaa", sum := "7577b0ddfa78a2fe0db758c3a965b340e20b93b0f0af94ccaf6599864c9a6ef5", func := "groyne/groynelaw06.RecBytes", spec := "recBytes", unfollowed := true, recurses := true, apart := false }
def RecBytesSaid : Prop := recBytesRow.holds Try.pinned (OpenSpec.ofChange recBytesSpec)

/-- ITS FALSE NEIGHBOUR: 'it returns false'. Refute it at one input. -/
def recBytesWrong : ChangeSpec := { name := "recBytes", fn := fun _ => fun
  | [d] => { results := [.lit (.bool false)], args := [d] }
  | _ => none }
def RecBytesWrongFalsely : Prop := recBytesRow.holds Try.pinned (OpenSpec.ofChange recBytesWrong)

/-- 'groynelaw06.RecTwice': WHATEVER THE INPUT: true; the input reads as it did. -/
def recTwiceSpec : ChangeSpec := { name := "recTwice", fn := fun _ => fun
  | [d1, d2] => { results := [.lit (.bool true)], args := [d1, d2] }
  | _ => none }
def recTwiceRow : OpenClaim := { program := "ytpbgjldjipgfeaa", sum := "7577b0ddfa78a2fe0db758c3a965b340e20b93b0f0af94ccaf6599864c9a6ef5", func := "groyne/groynelaw06.RecTwice", spec := "recTwice", unfollowed := true, recurses := true, apart := false }
def RecTwiceSaid : Prop := recTwiceRow.holds Try.pinned (OpenSpec.ofChange recTwiceSpec)

/-- ITS FALSE NEIGHBOUR: 'it returns false'. Refute it at one input. -/
def recTwiceWrong : ChangeSpec := { name := "recTwice", fn := fun _ => fun
  | [d1, d2] => { results := [.lit (.bool false)], args := [d1, d2] }
  | _ => none }
def RecTwiceWrongFalsely : Prop := recTwiceRow.holds Try.pinned (OpenSpec.ofChange recTwiceWrong)

/-- 'groynelaw06.RecKeeps': WHATEVER THE INPUT: true; the input reads as it did. -/
def recKeepsSpec : ChangeSpec := { name := "recKeeps", fn := fun _ => fun
  | [d1, d2] => { results := [.lit (.bool true)], args := [d1, d2] }
  | _ => none }
def recKeepsRow : OpenClaim := { program := "ytpbgjldjipgfeaa", sum := "7577b0ddfa78a2fe0db758c3a965b340e20b93b0f0af94ccaf6599864c9a6ef5", func := "groyne/groynelaw06.RecKeeps", spec := "recKeeps", unfollowed := true, recurses := true, apart := false }
def RecKeepsSaid : Prop := recKeepsRow.holds Try.pinned (OpenSpec.ofChange recKeepsSpec)

/-- ITS FALSE NEIGHBOUR: 'it returns false'. Refute it at one input. -/
def recKeepsWrong : ChangeSpec := { name := "recKeeps", fn := fun _ => fun
  | [d1, d2] => { results := [.lit (.bool false)], args := [d1, d2] }
  | _ => none }
def RecKeepsWrongFalsely : Prop := recKeepsRow.holds Try.pinned (OpenSpec.ofChange recKeepsWrong)

/-- 'groynelaw06.RecLists': WHATEVER THE INPUT: true; the input reads as it did. -/
def recListsSpec : ChangeSpec := { name := "recLists", fn := fun _ => fun
  | [d1, d2, d3] => { results := [.lit (.bool true)], args := [d1, d2, d3] }
  | _ => none }
def recListsRow : OpenClaim := { program := "ytpbgjldjipgfeaa", sum := "7577b0ddfa78a2fe0db758c3a965b340e20b93b0f0af94ccaf6599864c9a6ef5", func := "groyne/groynelaw06.RecLists", spec := "recLists", unfollowed := true, recurses := true, apart := false }
def RecListsSaid : Prop := recListsRow.holds Try.pinned (OpenSpec.ofChange recListsSpec)

/-- ITS FALSE NEIGHBOUR: 'it returns false'. Refute it at one input. -/
def recListsWrong : ChangeSpec := { name := "recLists", fn := fun _ => fun
  | [d1, d2, d3] => { results := [.lit (.bool false)], args := [d1, d2, d3] }
  | _ => none }
def RecListsWrongFalsely : Prop := recListsRow.holds Try.pinned (OpenSpec.ofChange recListsWrong)

/- THE SECOND FORM. 'bulk': how many values and letters a reading holds, each counted each time it is reached (what is shared counts as often as it is met; a slice's spare places count too). A statement '..UptoSaid' is the law's where the arguments, and the package variables that the reading takes, are together of bulk at most 1048576: NARROWER than '..Said'. Prove '..Said' where nothing that the law and all that it calls make is longer than what came in: it says more and counts as full. Else prove '..UptoSaid'. A law counts once. -/
mutual
def uptoBulk {H : Type} : DataW H → Nat
  | .lit (.string bytes) => bytes.length + 1
  | .lit _ => 1
  | .nil => 1
  | .ptr d => uptoBulk d + 1
  | .slice elems spare => uptoBulkAll elems + uptoBulkAll spare + 1
  | .agg parts => uptoBulkAll parts + 1
  | .iface _ d => uptoBulk d + 1
  | .map entries => uptoBulkEntries entries + 1
  | .held _ => 1
def uptoBulkAll {H : Type} : List (DataW H) → Nat
  | [] => 0
  | d :: r => uptoBulk d + uptoBulkAll r
def uptoBulkEntries {H : Type} : List (Lit × DataW H) → Nat
  | [] => 0
  | x :: r => uptoBulkEntry x + uptoBulkEntries r
def uptoBulkEntry {H : Type} : Lit × DataW H → Nat
  | (.string bytes, d) => bytes.length + uptoBulk d + 1
  | (_, d) => uptoBulk d + 1
 end
def uptoSmall : (H : Type) → List (DataW H) → Bool := fun _ ds => decide (uptoBulkAll ds ≤ 1048576)
def OpenSpec.upto (s : _root_.Go.ChangeSpec) : _root_.Go.OpenSpec := { _root_.Go.OpenSpec.ofChange s with cond := some uptoSmall }

/-- 'groynelaw06.RecBytes', WHERE WHAT IT READS IS OF BULK AT MOST 1048576: true; the input reads as it did. -/
def recBytesUptoRow : OpenClaim := { program := "ytpbgjldjipgfeaa", sum := "7577b0ddfa78a2fe0db758c3a965b340e20b93b0f0af94ccaf6599864c9a6ef5", func := "groyne/groynelaw06.RecBytes", spec := "recBytes", unfollowed := true, recurses := true, apart := false, narrowed := true }
def RecBytesUptoSaid : Prop := recBytesUptoRow.holds Try.pinned (OpenSpec.upto recBytesSpec)

/-- 'groynelaw06.RecTwice', WHERE WHAT IT READS IS OF BULK AT MOST 1048576: true; the input reads as it did. -/
def recTwiceUptoRow : OpenClaim := { program := "ytpbgjldjipgfeaa", sum := "7577b0ddfa78a2fe0db758c3a965b340e20b93b0f0af94ccaf6599864c9a6ef5", func := "groyne/groynelaw06.RecTwice", spec := "recTwice", unfollowed := true, recurses := true, apart := false, narrowed := true }
def RecTwiceUptoSaid : Prop := recTwiceUptoRow.holds Try.pinned (OpenSpec.upto recTwiceSpec)

/-- 'groynelaw06.RecKeeps', WHERE WHAT IT READS IS OF BULK AT MOST 1048576: true; the input reads as it did. -/
def recKeepsUptoRow : OpenClaim := { program := "ytpbgjldjipgfeaa", sum := "7577b0ddfa78a2fe0db758c3a965b340e20b93b0f0af94ccaf6599864c9a6ef5", func := "groyne/groynelaw06.RecKeeps", spec := "recKeeps", unfollowed := true, recurses := true, apart := false, narrowed := true }
def RecKeepsUptoSaid : Prop := recKeepsUptoRow.holds Try.pinned (OpenSpec.upto recKeepsSpec)

/-- 'groynelaw06.RecLists', WHERE WHAT IT READS IS OF BULK AT MOST 1048576: true; the input reads as it did. -/
def recListsUptoRow : OpenClaim := { program := "ytpbgjldjipgfeaa", sum := "7577b0ddfa78a2fe0db758c3a965b340e20b93b0f0af94ccaf6599864c9a6ef5", func := "groyne/groynelaw06.RecLists", spec := "recLists", unfollowed := true, recurses := true, apart := false, narrowed := true }
def RecListsUptoSaid : Prop := recListsUptoRow.holds Try.pinned (OpenSpec.upto recListsSpec)

end Rows
end Go.Proofs.Ytpbgjldjipgfeaa
