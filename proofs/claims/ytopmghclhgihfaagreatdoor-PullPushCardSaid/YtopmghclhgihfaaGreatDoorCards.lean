/-
  DERIVED. GIVEN WITH THE SEED: THE CARDS: each row of YtopmghclhgihfaaGreatDoorRows.lean that lists a variable, with what it lists TIED to the program's text (the seventh form; the later family's looks); each row that meets fmt, with fmt's text TOLD by the authors' own Lean function (tested against real Go, not proved from fmt's source: count such statements apart). THE CARD IS WHAT COUNTS. Prove the row's statement (the work); the ties are given (YtopmghclhgihfaaGreatDoorTie.lean); close each card by the builder's one call (the guide's Derived/Test/ToyasCard.lean, 'card_holds'). Laid BY PROGRAM, IN A SANDBOX (cutbox-door.mjs). By AI agents, Wed Nov 11 2026. No macro, syntax, notation, axiom, sorry.
-/
import Derived.Test.YtopmghclhgihfaaGreatDoorRows
import GoSem.ClaimSeven
namespace Go.Proofs.YtopmghclhgihfaaGreatDoor
namespace Rows

/-- THE TIED CARD OF 'retrospectlaw28.PullLinear'. -/
def pullLinearCard : Claim7 := { stood := { row := pullLinearRow, standIns := [], harness := (true, "f5645b6c60808ae5e63b0321baa6e70ca1fcdfc8dc03b02005ec1e011e94f0e6"), looks := false }, kinds := [], alts := [], laidByText := true, laidKinds := [.data, .pinned], laidTests := true, laidLooks := .later }
def PullLinearCardSaid : Prop := Claim7.holds Tryz.pinned (.plain (OpenSpec.ofChange pullLinearSpec)) pullLinearCard

/-- THE TIED CARD OF 'retrospectlaw28.PullPush'. -/
def pullPushCard : Claim7 := { stood := { row := pullPushRow, standIns := [], harness := (true, "f5645b6c60808ae5e63b0321baa6e70ca1fcdfc8dc03b02005ec1e011e94f0e6"), looks := false }, kinds := [], alts := [], laidByText := true, laidKinds := [.data, .pinned], laidTests := true, laidLooks := .later }
def PullPushCardSaid : Prop := Claim7.holds Tryz.pinned (.plain (OpenSpec.ofChange pullPushSpec)) pullPushCard

/-- THE TIED CARD OF 'retrospectlaw27.PushLinear'. -/
def pushLinearCard : Claim7 := { stood := { row := pushLinearRow, standIns := [], harness := (true, "f5645b6c60808ae5e63b0321baa6e70ca1fcdfc8dc03b02005ec1e011e94f0e6"), looks := false }, kinds := [], alts := [], laidByText := true, laidKinds := [.data, .pinned], laidTests := true, laidLooks := .later }
def PushLinearCardSaid : Prop := Claim7.holds Tryz.pinned (.plain (OpenSpec.ofChange pushLinearSpec)) pushLinearCard

/-- THE TIED CARD OF 'retrospectlaw29.SlopeBoth'. -/
def slopeBothCard : Claim7 := { stood := { row := slopeBothRow, standIns := [], harness := (true, "f5645b6c60808ae5e63b0321baa6e70ca1fcdfc8dc03b02005ec1e011e94f0e6"), looks := false }, kinds := [], alts := [], laidByText := true, laidKinds := [.data, .pinned], laidTests := true, laidLooks := .later }
def SlopeBothCardSaid : Prop := Claim7.holds Tryz.pinned (.plain (OpenSpec.ofChange slopeBothSpec)) slopeBothCard

/-- THE SECOND FORM's CARD OF 'retrospectlaw28.PullLinear'. -/
def pullLinearUptoCard : Claim7 := { stood := { row := pullLinearUptoRow, standIns := [], harness := (true, "f5645b6c60808ae5e63b0321baa6e70ca1fcdfc8dc03b02005ec1e011e94f0e6"), looks := false }, kinds := [], alts := [], laidByText := true, laidKinds := [.data, .pinned], laidTests := true, laidLooks := .later }
def PullLinearUptoCardSaid : Prop := Claim7.holds Tryz.pinned (.plain (OpenSpec.upto pullLinearSpec)) pullLinearUptoCard

/-- THE SECOND FORM's CARD OF 'retrospectlaw28.PullPush'. -/
def pullPushUptoCard : Claim7 := { stood := { row := pullPushUptoRow, standIns := [], harness := (true, "f5645b6c60808ae5e63b0321baa6e70ca1fcdfc8dc03b02005ec1e011e94f0e6"), looks := false }, kinds := [], alts := [], laidByText := true, laidKinds := [.data, .pinned], laidTests := true, laidLooks := .later }
def PullPushUptoCardSaid : Prop := Claim7.holds Tryz.pinned (.plain (OpenSpec.upto pullPushSpec)) pullPushUptoCard

/-- THE SECOND FORM's CARD OF 'retrospectlaw27.PushLinear'. -/
def pushLinearUptoCard : Claim7 := { stood := { row := pushLinearUptoRow, standIns := [], harness := (true, "f5645b6c60808ae5e63b0321baa6e70ca1fcdfc8dc03b02005ec1e011e94f0e6"), looks := false }, kinds := [], alts := [], laidByText := true, laidKinds := [.data, .pinned], laidTests := true, laidLooks := .later }
def PushLinearUptoCardSaid : Prop := Claim7.holds Tryz.pinned (.plain (OpenSpec.upto pushLinearSpec)) pushLinearUptoCard

/-- THE SECOND FORM's CARD OF 'retrospectlaw29.SlopeBoth'. -/
def slopeBothUptoCard : Claim7 := { stood := { row := slopeBothUptoRow, standIns := [], harness := (true, "f5645b6c60808ae5e63b0321baa6e70ca1fcdfc8dc03b02005ec1e011e94f0e6"), looks := false }, kinds := [], alts := [], laidByText := true, laidKinds := [.data, .pinned], laidTests := true, laidLooks := .later }
def SlopeBothUptoCardSaid : Prop := Claim7.holds Tryz.pinned (.plain (OpenSpec.upto slopeBothSpec)) slopeBothUptoCard
end Rows
end Go.Proofs.YtopmghclhgihfaaGreatDoor
