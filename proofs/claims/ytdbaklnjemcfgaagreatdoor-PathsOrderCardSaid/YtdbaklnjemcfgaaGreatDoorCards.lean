/-
  DERIVED. GIVEN WITH THE SEED: THE CARDS: each row of YtdbaklnjemcfgaaGreatDoorRows.lean that lists a variable, with what it lists TIED to the program's text (the seventh form; the later family's looks); each row that meets fmt, with fmt's text TOLD by the authors' own Lean function (tested against real Go, not proved from fmt's source: count such statements apart). THE CARD IS WHAT COUNTS. Prove the row's statement (the work); the ties are given (YtdbaklnjemcfgaaGreatDoorTie.lean); close each card by the builder's one call (the guide's Derived/Test/ToyasCard.lean, 'card_holds'). Laid BY PROGRAM, IN A SANDBOX (cutbox-door.mjs). By AI agents, Wed Nov 11 2026. No macro, syntax, notation, axiom, sorry.
-/
import Derived.Test.YtdbaklnjemcfgaaGreatDoorRows
import GoSem.ClaimSeven
namespace Go.Proofs.YtdbaklnjemcfgaaGreatDoor
namespace Rows

/-- THE TIED CARD OF 'bridlewaylaw26.PathsOrder'. -/
def pathsOrderCard : Claim7 := { stood := { row := pathsOrderRow, standIns := [], harness := (true, "2b997c9d5d3425fd170f726f77c6bb4b521f7acfc58e52eaf5f0b171a878eac7"), looks := false }, kinds := [], alts := [], laidByText := true, laidKinds := [.data, .data, .data], laidTests := true, laidLooks := .later }
def PathsOrderCardSaid : Prop := Claim7.holds Tryz.pinned (.plain (OpenSpec.ofChange pathsOrderSpec)) pathsOrderCard

/-- THE SECOND FORM's CARD OF 'bridlewaylaw26.PathsOrder'. -/
def pathsOrderUptoCard : Claim7 := { stood := { row := pathsOrderUptoRow, standIns := [], harness := (true, "2b997c9d5d3425fd170f726f77c6bb4b521f7acfc58e52eaf5f0b171a878eac7"), looks := false }, kinds := [], alts := [], laidByText := true, laidKinds := [.data, .data, .data], laidTests := true, laidLooks := .later }
def PathsOrderUptoCardSaid : Prop := Claim7.holds Tryz.pinned (.plain (OpenSpec.upto pathsOrderSpec)) pathsOrderUptoCard
end Rows
end Go.Proofs.YtdbaklnjemcfgaaGreatDoor
