/-
  DERIVED. GIVEN WITH THE SEED: THE CARDS: each row of YtefkjiedgecjpaaGreatDoorRows.lean that lists a variable, with what it lists TIED to the program's text (the seventh form; the later family's looks); each row that meets fmt, with fmt's text TOLD by the authors' own Lean function (tested against real Go, not proved from fmt's source: count such statements apart). THE CARD IS WHAT COUNTS. Prove the row's statement (the work); the ties are given (YtefkjiedgecjpaaGreatDoorTie.lean); close each card by the builder's one call (the guide's Derived/Test/ToyasCard.lean, 'card_holds'). Laid BY PROGRAM, IN A SANDBOX (cutbox-door.mjs). By AI agents, Wed Nov 11 2026. No macro, syntax, notation, axiom, sorry.
-/
import Derived.Test.YtefkjiedgecjpaaGreatDoorRows
import GoSem.ClaimSeven
namespace Go.Proofs.YtefkjiedgecjpaaGreatDoor
namespace Rows

/-- THE TIED CARD OF 'spinneylaw19.CachePlays'. -/
def cachePlaysCard : Claim7 := { stood := { row := cachePlaysRow, standIns := [], harness := (true, "866145c1685ac1b22509af7ea71891bfb94707a726ac9f3d3011cff389159e47"), looks := false }, kinds := [], alts := [], laidByText := true, laidKinds := [.data, .data], laidTests := true, laidLooks := .later }
def CachePlaysCardSaid : Prop := Claim7.holds Tryz.pinned (.plain (OpenSpec.ofChange cachePlaysSpec)) cachePlaysCard

/-- THE TIED CARD OF 'spinneylaw19.CacheGets'. -/
def cacheGetsCard : Claim7 := { stood := { row := cacheGetsRow, standIns := [], harness := (true, "866145c1685ac1b22509af7ea71891bfb94707a726ac9f3d3011cff389159e47"), looks := false }, kinds := [], alts := [], laidByText := true, laidKinds := [.data, .data], laidTests := true, laidLooks := .later }
def CacheGetsCardSaid : Prop := Claim7.holds Tryz.pinned (.plain (OpenSpec.ofChange cacheGetsSpec)) cacheGetsCard

/-- THE TIED CARD OF 'spinneylaw19.CacheKnown'. -/
def cacheKnownCard : Claim7 := { stood := { row := cacheKnownRow, standIns := [], harness := (true, "866145c1685ac1b22509af7ea71891bfb94707a726ac9f3d3011cff389159e47"), looks := false }, kinds := [], alts := [], laidByText := true, laidKinds := [.data, .data], laidTests := true, laidLooks := .later }
def CacheKnownCardSaid : Prop := Claim7.holds Tryz.pinned (.plain (OpenSpec.ofChange cacheKnownSpec)) cacheKnownCard

/-- THE TIED CARD OF 'spinneylaw19.CacheKept'. -/
def cacheKeptCard : Claim7 := { stood := { row := cacheKeptRow, standIns := [], harness := (true, "866145c1685ac1b22509af7ea71891bfb94707a726ac9f3d3011cff389159e47"), looks := false }, kinds := [], alts := [], laidByText := true, laidKinds := [.data, .data], laidTests := true, laidLooks := .later }
def CacheKeptCardSaid : Prop := Claim7.holds Tryz.pinned (.plain (OpenSpec.ofChange cacheKeptSpec)) cacheKeptCard

/-- THE TIED CARD OF 'spinneylaw19.CacheBack'. -/
def cacheBackCard : Claim7 := { stood := { row := cacheBackRow, standIns := [], harness := (true, "866145c1685ac1b22509af7ea71891bfb94707a726ac9f3d3011cff389159e47"), looks := false }, kinds := [], alts := [], laidByText := true, laidKinds := [.data, .data], laidTests := true, laidLooks := .later }
def CacheBackCardSaid : Prop := Claim7.holds Tryz.pinned (.plain (OpenSpec.ofChange cacheBackSpec)) cacheBackCard

/-- THE SECOND FORM's CARD OF 'spinneylaw19.CachePlays'. -/
def cachePlaysUptoCard : Claim7 := { stood := { row := cachePlaysUptoRow, standIns := [], harness := (true, "866145c1685ac1b22509af7ea71891bfb94707a726ac9f3d3011cff389159e47"), looks := false }, kinds := [], alts := [], laidByText := true, laidKinds := [.data, .data], laidTests := true, laidLooks := .later }
def CachePlaysUptoCardSaid : Prop := Claim7.holds Tryz.pinned (.plain (OpenSpec.upto cachePlaysSpec)) cachePlaysUptoCard

/-- THE SECOND FORM's CARD OF 'spinneylaw19.CacheGets'. -/
def cacheGetsUptoCard : Claim7 := { stood := { row := cacheGetsUptoRow, standIns := [], harness := (true, "866145c1685ac1b22509af7ea71891bfb94707a726ac9f3d3011cff389159e47"), looks := false }, kinds := [], alts := [], laidByText := true, laidKinds := [.data, .data], laidTests := true, laidLooks := .later }
def CacheGetsUptoCardSaid : Prop := Claim7.holds Tryz.pinned (.plain (OpenSpec.upto cacheGetsSpec)) cacheGetsUptoCard

/-- THE SECOND FORM's CARD OF 'spinneylaw19.CacheKnown'. -/
def cacheKnownUptoCard : Claim7 := { stood := { row := cacheKnownUptoRow, standIns := [], harness := (true, "866145c1685ac1b22509af7ea71891bfb94707a726ac9f3d3011cff389159e47"), looks := false }, kinds := [], alts := [], laidByText := true, laidKinds := [.data, .data], laidTests := true, laidLooks := .later }
def CacheKnownUptoCardSaid : Prop := Claim7.holds Tryz.pinned (.plain (OpenSpec.upto cacheKnownSpec)) cacheKnownUptoCard

/-- THE SECOND FORM's CARD OF 'spinneylaw19.CacheKept'. -/
def cacheKeptUptoCard : Claim7 := { stood := { row := cacheKeptUptoRow, standIns := [], harness := (true, "866145c1685ac1b22509af7ea71891bfb94707a726ac9f3d3011cff389159e47"), looks := false }, kinds := [], alts := [], laidByText := true, laidKinds := [.data, .data], laidTests := true, laidLooks := .later }
def CacheKeptUptoCardSaid : Prop := Claim7.holds Tryz.pinned (.plain (OpenSpec.upto cacheKeptSpec)) cacheKeptUptoCard

/-- THE SECOND FORM's CARD OF 'spinneylaw19.CacheBack'. -/
def cacheBackUptoCard : Claim7 := { stood := { row := cacheBackUptoRow, standIns := [], harness := (true, "866145c1685ac1b22509af7ea71891bfb94707a726ac9f3d3011cff389159e47"), looks := false }, kinds := [], alts := [], laidByText := true, laidKinds := [.data, .data], laidTests := true, laidLooks := .later }
def CacheBackUptoCardSaid : Prop := Claim7.holds Tryz.pinned (.plain (OpenSpec.upto cacheBackSpec)) cacheBackUptoCard
end Rows
end Go.Proofs.YtefkjiedgecjpaaGreatDoor
