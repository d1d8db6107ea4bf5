/-
  DERIVED. GIVEN WITH THE SEED: THE CARDS: each row of YtfmhfpbdhfdopaaGreatDoorRows.lean that lists a variable, with what it lists TIED to the program's text (the seventh form; the later family's looks); each row that meets fmt, with fmt's text TOLD by the authors' own Lean function (tested against real Go, not proved from fmt's source: count such statements apart). THE CARD IS WHAT COUNTS. Prove the row's statement (the work); the ties are given (YtfmhfpbdhfdopaaGreatDoorTie.lean); close each card by the builder's one call (the guide's Derived/Test/ToyasCard.lean, 'card_holds'). Laid BY PROGRAM, IN A SANDBOX (cutbox-door.mjs). By AI agents, Wed Nov 11 2026. No macro, syntax, notation, axiom, sorry.
-/
import Derived.Test.YtfmhfpbdhfdopaaGreatDoorRows
import GoSem.ClaimSeven
namespace Go.Proofs.YtfmhfpbdhfdopaaGreatDoor
namespace Rows

/-- THE TIED CARD OF 'bridlewaylaw26.PathsNone'. -/
def pathsNoneCard : Claim7 := { stood := { row := pathsNoneRow, standIns := [], harness := (true, "db62a2875a042abba67d55dd109185689938073f0019f06e9310566beedf4adc"), looks := false }, kinds := [], alts := [], laidByText := true, laidKinds := [.data, .data, .data], laidTests := true, laidLooks := .later }
def PathsNoneCardSaid : Prop := Claim7.holds Tryz.pinned (.plain (OpenSpec.ofChange pathsNoneSpec)) pathsNoneCard

/-- THE SECOND FORM's CARD OF 'bridlewaylaw26.PathsNone'. -/
def pathsNoneUptoCard : Claim7 := { stood := { row := pathsNoneUptoRow, standIns := [], harness := (true, "db62a2875a042abba67d55dd109185689938073f0019f06e9310566beedf4adc"), looks := false }, kinds := [], alts := [], laidByText := true, laidKinds := [.data, .data, .data], laidTests := true, laidLooks := .later }
def PathsNoneUptoCardSaid : Prop := Claim7.holds Tryz.pinned (.plain (OpenSpec.upto pathsNoneSpec)) pathsNoneUptoCard
end Rows
end Go.Proofs.YtfmhfpbdhfdopaaGreatDoor
