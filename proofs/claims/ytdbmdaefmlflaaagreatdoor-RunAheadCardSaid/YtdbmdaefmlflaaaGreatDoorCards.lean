/-
  DERIVED. GIVEN WITH THE SEED: THE CARDS: each row of YtdbmdaefmlflaaaGreatDoorRows.lean that lists a variable, with what it lists TIED to the program's text (the seventh form; the later family's looks); each row that meets fmt, with fmt's text TOLD by the authors' own Lean function (tested against real Go, not proved from fmt's source: count such statements apart). THE CARD IS WHAT COUNTS. Prove the row's statement (the work); the ties are given (YtdbmdaefmlflaaaGreatDoorTie.lean); close each card by the builder's one call (the guide's Derived/Test/ToyasCard.lean, 'card_holds'). Laid BY PROGRAM, IN A SANDBOX (cutbox-door.mjs). By AI agents, Wed Nov 11 2026. No macro, syntax, notation, axiom, sorry.
-/
import Derived.Test.YtdbmdaefmlflaaaGreatDoorRows
import GoSem.ClaimSeven
namespace Go.Proofs.YtdbmdaefmlflaaaGreatDoor
namespace Rows

/-- THE TIED CARD OF 'retrospectlaw26.RunAhead'. -/
def runAheadCard : Claim7 := { stood := { row := runAheadRow, standIns := [], harness := (true, "f30434b66007b96d0fb5b3a41101116ee36a1140827f7f984bcd86aaae9f1b3c"), looks := false }, kinds := [], alts := [], laidByText := true, laidKinds := [.data, .pinned], laidTests := true, laidLooks := .later }
def RunAheadCardSaid : Prop := Claim7.holds Tryz.pinned (.plain (OpenSpec.ofChange runAheadSpec)) runAheadCard

/-- THE SECOND FORM's CARD OF 'retrospectlaw26.RunAhead'. -/
def runAheadUptoCard : Claim7 := { stood := { row := runAheadUptoRow, standIns := [], harness := (true, "f30434b66007b96d0fb5b3a41101116ee36a1140827f7f984bcd86aaae9f1b3c"), looks := false }, kinds := [], alts := [], laidByText := true, laidKinds := [.data, .pinned], laidTests := true, laidLooks := .later }
def RunAheadUptoCardSaid : Prop := Claim7.holds Tryz.pinned (.plain (OpenSpec.upto runAheadSpec)) runAheadUptoCard
end Rows
end Go.Proofs.YtdbmdaefmlflaaaGreatDoor
