/-
  DERIVED. GIVEN WITH THE SEED: THE CARDS: each row of YtnlodeadhnonpaaDoorRows.lean that lists a variable, with what it lists TIED to the program's text (the seventh form; the later family's looks); each row that meets fmt, with fmt's text TOLD by the authors' own Lean function (tested against real Go, not proved from fmt's source: count such statements apart). THE CARD IS WHAT COUNTS. Prove the row's statement (the work); the ties are given (YtnlodeadhnonpaaDoorTie.lean); close each card by the builder's one call (the guide's Derived/Test/ToyasCard.lean, 'card_holds'). Laid BY PROGRAM, IN A SANDBOX (cutbox-door.mjs). By AI agents, Wed Nov 11 2026. No macro, syntax, notation, axiom, sorry.
-/
import Derived.Test.YtnlodeadhnonpaaDoorRows
import GoSem.ClaimSeven
namespace Go.Proofs.YtnlodeadhnonpaaDoor
namespace Rows

/-- THE TIED CARD OF 'bridlewaylaw38.MeterJoins'. -/
def meterJoinsCard : Claim7 := { stood := { row := meterJoinsRow, standIns := [], harness := (true, "4c78b3620a32162c1e34933f387077f71ab389630bd46c500e42d0eca20bc508"), looks := true }, kinds := [], alts := [], laidByText := true, laidKinds := [.data, .data, .data], laidTests := true, laidLooks := .later }
def MeterJoinsCardSaid : Prop := Claim7.holds Tryd.pinned (.plain (OpenSpec.ofChange meterJoinsSpec)) meterJoinsCard

/-- THE TIED CARD OF 'bridlewaylaw38.MeterPlays'. -/
def meterPlaysCard : Claim7 := { stood := { row := meterPlaysRow, standIns := [], harness := (true, "4c78b3620a32162c1e34933f387077f71ab389630bd46c500e42d0eca20bc508"), looks := true }, kinds := [], alts := [], laidByText := true, laidKinds := [.data, .data, .data], laidTests := true, laidLooks := .later }
def MeterPlaysCardSaid : Prop := Claim7.holds Tryd.pinned (.plain (OpenSpec.ofChange meterPlaysSpec)) meterPlaysCard

/-- THE TIED CARD OF 'bridlewaylaw38.MeterNone'. -/
def meterNoneCard : Claim7 := { stood := { row := meterNoneRow, standIns := [], harness := (true, "4c78b3620a32162c1e34933f387077f71ab389630bd46c500e42d0eca20bc508"), looks := true }, kinds := [], alts := [], laidByText := true, laidKinds := [.data, .data, .data], laidTests := true, laidLooks := .later }
def MeterNoneCardSaid : Prop := Claim7.holds Tryd.pinned (.plain (OpenSpec.ofChange meterNoneSpec)) meterNoneCard

/-- THE TIED CARD OF 'bridlewaylaw06.GraphReads'. -/
def graphReadsCard : Claim7 := { stood := { row := graphReadsRow, standIns := [], harness := (true, "4c78b3620a32162c1e34933f387077f71ab389630bd46c500e42d0eca20bc508"), looks := true }, kinds := [], alts := [], laidByText := true, laidKinds := [.data, .data, .data, .data, .sentinel, .sentinel, .pinned], laidTests := true, laidLooks := .later }
def GraphReadsCardSaid : Prop := Claim7.holds Tryd.pinned (.plain (OpenSpec.ofChange graphReadsSpec)) graphReadsCard

/-- THE TIED CARD OF 'bridlewaylaw06.GraphChecks'. -/
def graphChecksCard : Claim7 := { stood := { row := graphChecksRow, standIns := [], harness := (true, "4c78b3620a32162c1e34933f387077f71ab389630bd46c500e42d0eca20bc508"), looks := true }, kinds := [], alts := [], laidByText := true, laidKinds := [.data, .data, .data, .data, .sentinel, .sentinel, .pinned], laidTests := true, laidLooks := .later }
def GraphChecksCardSaid : Prop := Claim7.holds Tryd.pinned (.plain (OpenSpec.ofChange graphChecksSpec)) graphChecksCard

/-- THE SECOND FORM's CARD OF 'bridlewaylaw38.MeterJoins'. -/
def meterJoinsUptoCard : Claim7 := { stood := { row := meterJoinsUptoRow, standIns := [], harness := (true, "4c78b3620a32162c1e34933f387077f71ab389630bd46c500e42d0eca20bc508"), looks := true }, kinds := [], alts := [], laidByText := true, laidKinds := [.data, .data, .data], laidTests := true, laidLooks := .later }
def MeterJoinsUptoCardSaid : Prop := Claim7.holds Tryd.pinned (.plain (OpenSpec.upto meterJoinsSpec)) meterJoinsUptoCard

/-- THE SECOND FORM's CARD OF 'bridlewaylaw38.MeterPlays'. -/
def meterPlaysUptoCard : Claim7 := { stood := { row := meterPlaysUptoRow, standIns := [], harness := (true, "4c78b3620a32162c1e34933f387077f71ab389630bd46c500e42d0eca20bc508"), looks := true }, kinds := [], alts := [], laidByText := true, laidKinds := [.data, .data, .data], laidTests := true, laidLooks := .later }
def MeterPlaysUptoCardSaid : Prop := Claim7.holds Tryd.pinned (.plain (OpenSpec.upto meterPlaysSpec)) meterPlaysUptoCard

/-- THE SECOND FORM's CARD OF 'bridlewaylaw38.MeterNone'. -/
def meterNoneUptoCard : Claim7 := { stood := { row := meterNoneUptoRow, standIns := [], harness := (true, "4c78b3620a32162c1e34933f387077f71ab389630bd46c500e42d0eca20bc508"), looks := true }, kinds := [], alts := [], laidByText := true, laidKinds := [.data, .data, .data], laidTests := true, laidLooks := .later }
def MeterNoneUptoCardSaid : Prop := Claim7.holds Tryd.pinned (.plain (OpenSpec.upto meterNoneSpec)) meterNoneUptoCard

/-- THE SECOND FORM's CARD OF 'bridlewaylaw06.GraphReads'. -/
def graphReadsUptoCard : Claim7 := { stood := { row := graphReadsUptoRow, standIns := [], harness := (true, "4c78b3620a32162c1e34933f387077f71ab389630bd46c500e42d0eca20bc508"), looks := true }, kinds := [], alts := [], laidByText := true, laidKinds := [.data, .data, .data, .data, .sentinel, .sentinel, .pinned], laidTests := true, laidLooks := .later }
def GraphReadsUptoCardSaid : Prop := Claim7.holds Tryd.pinned (.plain (OpenSpec.upto graphReadsSpec)) graphReadsUptoCard

/-- THE SECOND FORM's CARD OF 'bridlewaylaw06.GraphChecks'. -/
def graphChecksUptoCard : Claim7 := { stood := { row := graphChecksUptoRow, standIns := [], harness := (true, "4c78b3620a32162c1e34933f387077f71ab389630bd46c500e42d0eca20bc508"), looks := true }, kinds := [], alts := [], laidByText := true, laidKinds := [.data, .data, .data, .data, .sentinel, .sentinel, .pinned], laidTests := true, laidLooks := .later }
def GraphChecksUptoCardSaid : Prop := Claim7.holds Tryd.pinned (.plain (OpenSpec.upto graphChecksSpec)) graphChecksUptoCard
end Rows
end Go.Proofs.YtnlodeadhnonpaaDoor
