/-
  DERIVED. GIVEN WITH THE SEED: THE CARDS: each row of YtnoimmhdoaeeiaaDoorRows.lean that lists a variable, with what it lists TIED to the program's text (the seventh form; the later family's looks); each row that meets fmt, with fmt's text TOLD by the authors' own Lean function (tested against real Go, not proved from fmt's source: count such statements apart). THE CARD IS WHAT COUNTS. Prove the row's statement (the work); the ties are given (YtnoimmhdoaeeiaaDoorTie.lean); close each card by the builder's one call (the guide's Derived/Test/ToyasCard.lean, 'card_holds'). Laid BY PROGRAM, IN A SANDBOX (cutbox-door.mjs). By AI agents, Wed Nov 11 2026. No macro, syntax, notation, axiom, sorry.
-/
import Derived.Test.YtnoimmhdoaeeiaaDoorRows
import GoSem.ClaimSeven
namespace Go.Proofs.YtnoimmhdoaeeiaaDoor
namespace Rows

/-- THE TIED CARD OF 'groynetop.GroynePacked'. -/
def groynePackedCard : Claim7 := { stood := { row := groynePackedRow, standIns := [], harness := (true, "67923f3097c4962add3aaf8bb0df055f0506edb74b7acc0f80c2698e98fa03ba"), looks := false }, kinds := [], alts := [], laidByText := true, laidKinds := [.data, .pinned], laidTests := true, laidLooks := .later }
def GroynePackedCardSaid : Prop := Claim7.holds Tryd.pinned (.plain (OpenSpec.ofChange groynePackedSpec)) groynePackedCard

/-- THE SECOND FORM's CARD OF 'groynetop.GroynePacked'. -/
def groynePackedUptoCard : Claim7 := { stood := { row := groynePackedUptoRow, standIns := [], harness := (true, "67923f3097c4962add3aaf8bb0df055f0506edb74b7acc0f80c2698e98fa03ba"), looks := false }, kinds := [], alts := [], laidByText := true, laidKinds := [.data, .pinned], laidTests := true, laidLooks := .later }
def GroynePackedUptoCardSaid : Prop := Claim7.holds Tryd.pinned (.plain (OpenSpec.upto groynePackedSpec)) groynePackedUptoCard
end Rows
end Go.Proofs.YtnoimmhdoaeeiaaDoor
