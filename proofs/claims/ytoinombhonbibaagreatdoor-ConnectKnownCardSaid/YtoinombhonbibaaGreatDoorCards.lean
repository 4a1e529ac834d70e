/-
  DERIVED. GIVEN WITH THE SEED: THE CARDS: each row of YtoinombhonbibaaGreatDoorRows.lean that lists a variable, with what it lists TIED to the program's text (the seventh form; the later family's looks); each row that meets fmt, with fmt's text TOLD by the authors' own Lean function (tested against real Go, not proved from fmt's source: count such statements apart). THE CARD IS WHAT COUNTS. Prove the row's statement (the work); the ties are given (YtoinombhonbibaaGreatDoorTie.lean); close each card by the builder's one call (the guide's Derived/Test/ToyasCard.lean, 'card_holds'). Laid BY PROGRAM, IN A SANDBOX (cutbox-door.mjs). By AI agents, Wed Nov 11 2026. No macro, syntax, notation, axiom, sorry.
-/
import Derived.Test.YtoinombhonbibaaGreatDoorRows
import GoSem.ClaimSeven
namespace Go.Proofs.YtoinombhonbibaaGreatDoor
namespace Rows

/-- THE TIED CARD OF 'spinneylaw27.ConnectPlays'. -/
def connectPlaysCard : Claim7 := { stood := { row := connectPlaysRow, standIns := [], harness := (true, "b475e0548893ff794d2cc3fb8133c83681dec076c9d09144fbafdef5329fe405"), looks := false }, kinds := [], alts := [], laidByText := true, laidKinds := [.data, .data, .data], laidTests := true, laidLooks := .later }
def ConnectPlaysCardSaid : Prop := Claim7.holds Tryz.pinned (.plain (OpenSpec.ofChange connectPlaysSpec)) connectPlaysCard

/-- THE TIED CARD OF 'spinneylaw27.ConnectGets'. -/
def connectGetsCard : Claim7 := { stood := { row := connectGetsRow, standIns := [], harness := (true, "b475e0548893ff794d2cc3fb8133c83681dec076c9d09144fbafdef5329fe405"), looks := false }, kinds := [], alts := [], laidByText := true, laidKinds := [.data, .data, .data], laidTests := true, laidLooks := .later }
def ConnectGetsCardSaid : Prop := Claim7.holds Tryz.pinned (.plain (OpenSpec.ofChange connectGetsSpec)) connectGetsCard

/-- THE TIED CARD OF 'spinneylaw27.ConnectKnown'. -/
def connectKnownCard : Claim7 := { stood := { row := connectKnownRow, standIns := [], harness := (true, "b475e0548893ff794d2cc3fb8133c83681dec076c9d09144fbafdef5329fe405"), looks := false }, kinds := [], alts := [], laidByText := true, laidKinds := [.data, .data, .data], laidTests := true, laidLooks := .later }
def ConnectKnownCardSaid : Prop := Claim7.holds Tryz.pinned (.plain (OpenSpec.ofChange connectKnownSpec)) connectKnownCard

/-- THE TIED CARD OF 'spinneylaw27.ConnectSound'. -/
def connectSoundCard : Claim7 := { stood := { row := connectSoundRow, standIns := [], harness := (true, "b475e0548893ff794d2cc3fb8133c83681dec076c9d09144fbafdef5329fe405"), looks := false }, kinds := [], alts := [], laidByText := true, laidKinds := [.data, .data, .data], laidTests := true, laidLooks := .later }
def ConnectSoundCardSaid : Prop := Claim7.holds Tryz.pinned (.plain (OpenSpec.ofChange connectSoundSpec)) connectSoundCard

/-- THE TIED CARD OF 'spinneylaw27.ConnectHonest'. -/
def connectHonestCard : Claim7 := { stood := { row := connectHonestRow, standIns := [], harness := (true, "b475e0548893ff794d2cc3fb8133c83681dec076c9d09144fbafdef5329fe405"), looks := false }, kinds := [], alts := [], laidByText := true, laidKinds := [.data, .data, .data], laidTests := true, laidLooks := .later }
def ConnectHonestCardSaid : Prop := Claim7.holds Tryz.pinned (.plain (OpenSpec.ofChange connectHonestSpec)) connectHonestCard

/-- THE SECOND FORM's CARD OF 'spinneylaw27.ConnectPlays'. -/
def connectPlaysUptoCard : Claim7 := { stood := { row := connectPlaysUptoRow, standIns := [], harness := (true, "b475e0548893ff794d2cc3fb8133c83681dec076c9d09144fbafdef5329fe405"), looks := false }, kinds := [], alts := [], laidByText := true, laidKinds := [.data, .data, .data], laidTests := true, laidLooks := .later }
def ConnectPlaysUptoCardSaid : Prop := Claim7.holds Tryz.pinned (.plain (OpenSpec.upto connectPlaysSpec)) connectPlaysUptoCard

/-- THE SECOND FORM's CARD OF 'spinneylaw27.ConnectGets'. -/
def connectGetsUptoCard : Claim7 := { stood := { row := connectGetsUptoRow, standIns := [], harness := (true, "b475e0548893ff794d2cc3fb8133c83681dec076c9d09144fbafdef5329fe405"), looks := false }, kinds := [], alts := [], laidByText := true, laidKinds := [.data, .data, .data], laidTests := true, laidLooks := .later }
def ConnectGetsUptoCardSaid : Prop := Claim7.holds Tryz.pinned (.plain (OpenSpec.upto connectGetsSpec)) connectGetsUptoCard

/-- THE SECOND FORM's CARD OF 'spinneylaw27.ConnectKnown'. -/
def connectKnownUptoCard : Claim7 := { stood := { row := connectKnownUptoRow, standIns := [], harness := (true, "b475e0548893ff794d2cc3fb8133c83681dec076c9d09144fbafdef5329fe405"), looks := false }, kinds := [], alts := [], laidByText := true, laidKinds := [.data, .data, .data], laidTests := true, laidLooks := .later }
def ConnectKnownUptoCardSaid : Prop := Claim7.holds Tryz.pinned (.plain (OpenSpec.upto connectKnownSpec)) connectKnownUptoCard

/-- THE SECOND FORM's CARD OF 'spinneylaw27.ConnectSound'. -/
def connectSoundUptoCard : Claim7 := { stood := { row := connectSoundUptoRow, standIns := [], harness := (true, "b475e0548893ff794d2cc3fb8133c83681dec076c9d09144fbafdef5329fe405"), looks := false }, kinds := [], alts := [], laidByText := true, laidKinds := [.data, .data, .data], laidTests := true, laidLooks := .later }
def ConnectSoundUptoCardSaid : Prop := Claim7.holds Tryz.pinned (.plain (OpenSpec.upto connectSoundSpec)) connectSoundUptoCard

/-- THE SECOND FORM's CARD OF 'spinneylaw27.ConnectHonest'. -/
def connectHonestUptoCard : Claim7 := { stood := { row := connectHonestUptoRow, standIns := [], harness := (true, "b475e0548893ff794d2cc3fb8133c83681dec076c9d09144fbafdef5329fe405"), looks := false }, kinds := [], alts := [], laidByText := true, laidKinds := [.data, .data, .data], laidTests := true, laidLooks := .later }
def ConnectHonestUptoCardSaid : Prop := Claim7.holds Tryz.pinned (.plain (OpenSpec.upto connectHonestSpec)) connectHonestUptoCard
end Rows
end Go.Proofs.YtoinombhonbibaaGreatDoor
