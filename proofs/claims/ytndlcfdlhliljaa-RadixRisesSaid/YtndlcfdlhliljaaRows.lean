/-
  No cell of these rows narrows 'for every input' (looked for: loops, veiled, ifaces, maps, wideKeys, modest, calm, conditions, laid).
  DERIVED. THE GIVEN ROWS OF THIS SEAT. 8 by the template 'for every input the law returns true; each argument reads behind the call as it read before'; 0 by the template 'total and deterministic' (their statements: YtndlcfdlhliljaaTotals.lean).
  GIVEN WITH THE SEED: the statements are not yours to turn. If you find one false, say at which input.
  Laid BY PROGRAM, IN A SANDBOX (cutbox-rows.mjs): the forced cells as the released guide's own fill.sh prints them over the translation 435ed29bb14c670e… (all of the seat's roots in one cut). By AI agents, Wed Nov 11 2026. No macro, syntax, notation, axiom, sorry.
-/
import Derived.Test.YtndlcfdlhliljaaChecked
import GoSem.Claim
import GoSem.ClaimJoined
import GoSem.ClaimMapViews
import Derived.JoinedTies
import Derived.KernelRfl
namespace Go.Proofs.Ytndlcfdlhliljaa
/- THE CELL 'sum', in the pinned program and in every row, IS THE sha256 OF THE DUMP (.gsa) THAT YtndlcfdlhliljaaProg.lean LOADS. Nothing in Lean hashes anything: it is a label: what it is worth is what the hold of that sum in a sandbox is worth. -/
noncomputable def Try.pinned : Pinned := { name := "ytndlcfdlhliljaa", sum := "435ed29bb14c670ebd834fd683d597fe29b93357e0e01c6f900f284875f405d3", checked := Try.checked }
namespace Rows
def none {H : Type} : Left H := { results := [], args := [] }

/-- 'bridlewaylaw02.VarintSigned': WHATEVER THE INPUT: true; the input reads as it did. -/
def varintSignedSpec : ChangeSpec := { name := "varintSigned", fn := fun _ => fun
  | [d1, d2, d3] => { results := [.lit (.bool true)], args := [d1, d2, d3] }
  | _ => none }
def varintSignedRow : OpenClaim := { program := "ytndlcfdlhliljaa", sum := "435ed29bb14c670ebd834fd683d597fe29b93357e0e01c6f900f284875f405d3", func := "bridleway/bridlewaylaw02.VarintSigned", spec := "varintSigned", recurses := true, apart := false }
def VarintSignedSaid : Prop := varintSignedRow.holds Try.pinned (OpenSpec.ofChange varintSignedSpec)

/-- ITS FALSE NEIGHBOUR: 'it returns false'. Refute it at one input. -/
def varintSignedWrong : ChangeSpec := { name := "varintSigned", fn := fun _ => fun
  | [d1, d2, d3] => { results := [.lit (.bool false)], args := [d1, d2, d3] }
  | _ => none }
def VarintSignedWrongFalsely : Prop := varintSignedRow.holds Try.pinned (OpenSpec.ofChange varintSignedWrong)

/-- 'bridlewaylaw02.VarintTexts': WHATEVER THE INPUT: true; the input reads as it did. -/
def varintTextsSpec : ChangeSpec := { name := "varintTexts", fn := fun _ => fun
  | [d1, d2, d3] => { results := [.lit (.bool true)], args := [d1, d2, d3] }
  | _ => none }
def varintTextsRow : OpenClaim := { program := "ytndlcfdlhliljaa", sum := "435ed29bb14c670ebd834fd683d597fe29b93357e0e01c6f900f284875f405d3", func := "bridleway/bridlewaylaw02.VarintTexts", spec := "varintTexts", recurses := true, apart := false }
def VarintTextsSaid : Prop := varintTextsRow.holds Try.pinned (OpenSpec.ofChange varintTextsSpec)

/-- ITS FALSE NEIGHBOUR: 'it returns false'. Refute it at one input. -/
def varintTextsWrong : ChangeSpec := { name := "varintTexts", fn := fun _ => fun
  | [d1, d2, d3] => { results := [.lit (.bool false)], args := [d1, d2, d3] }
  | _ => none }
def VarintTextsWrongFalsely : Prop := varintTextsRow.holds Try.pinned (OpenSpec.ofChange varintTextsWrong)

/-- 'bridlewaylaw02.VarintGets': WHATEVER THE INPUT: true; the input reads as it did. -/
def varintGetsSpec : ChangeSpec := { name := "varintGets", fn := fun _ => fun
  | [d1, d2] => { results := [.lit (.bool true)], args := [d1, d2] }
  | _ => none }
def varintGetsRow : OpenClaim := { program := "ytndlcfdlhliljaa", sum := "435ed29bb14c670ebd834fd683d597fe29b93357e0e01c6f900f284875f405d3", func := "bridleway/bridlewaylaw02.VarintGets", spec := "varintGets", recurses := true, apart := false }
def VarintGetsSaid : Prop := varintGetsRow.holds Try.pinned (OpenSpec.ofChange varintGetsSpec)

/-- ITS FALSE NEIGHBOUR: 'it returns false'. Refute it at one input. -/
def varintGetsWrong : ChangeSpec := { name := "varintGets", fn := fun _ => fun
  | [d1, d2] => { results := [.lit (.bool false)], args := [d1, d2] }
  | _ => none }
def VarintGetsWrongFalsely : Prop := varintGetsRow.holds Try.pinned (OpenSpec.ofChange varintGetsWrong)

/-- 'bridlewaylaw02.VarintPuts': WHATEVER THE INPUT: true; the input reads as it did. -/
def varintPutsSpec : ChangeSpec := { name := "varintPuts", fn := fun _ => fun
  | [d1, d2] => { results := [.lit (.bool true)], args := [d1, d2] }
  | _ => none }
def varintPutsRow : OpenClaim := { program := "ytndlcfdlhliljaa", sum := "435ed29bb14c670ebd834fd683d597fe29b93357e0e01c6f900f284875f405d3", func := "bridleway/bridlewaylaw02.VarintPuts", spec := "varintPuts", recurses := true, apart := false }
def VarintPutsSaid : Prop := varintPutsRow.holds Try.pinned (OpenSpec.ofChange varintPutsSpec)

/-- ITS FALSE NEIGHBOUR: 'it returns false'. Refute it at one input. -/
def varintPutsWrong : ChangeSpec := { name := "varintPuts", fn := fun _ => fun
  | [d1, d2] => { results := [.lit (.bool false)], args := [d1, d2] }
  | _ => none }
def VarintPutsWrongFalsely : Prop := varintPutsRow.holds Try.pinned (OpenSpec.ofChange varintPutsWrong)

/-- 'bridlewaylaw38.MeterWithin': WHATEVER THE INPUT: true; the input reads as it did. -/
def meterWithinSpec : ChangeSpec := { name := "meterWithin", fn := fun _ => fun
  | [d1, d2, d3] => { results := [.lit (.bool true)], args := [d1, d2, d3] }
  | _ => none }
def meterWithinRow : OpenClaim := { program := "ytndlcfdlhliljaa", sum := "435ed29bb14c670ebd834fd683d597fe29b93357e0e01c6f900f284875f405d3", func := "bridleway/bridlewaylaw38.MeterWithin", spec := "meterWithin", apart := false }
def MeterWithinSaid : Prop := meterWithinRow.holds Try.pinned (OpenSpec.ofChange meterWithinSpec)

/-- ITS FALSE NEIGHBOUR: 'it returns false'. Refute it at one input. -/
def meterWithinWrong : ChangeSpec := { name := "meterWithin", fn := fun _ => fun
  | [d1, d2, d3] => { results := [.lit (.bool false)], args := [d1, d2, d3] }
  | _ => none }
def MeterWithinWrongFalsely : Prop := meterWithinRow.holds Try.pinned (OpenSpec.ofChange meterWithinWrong)

/-- 'bridlewaylaw04.RadixSums': WHATEVER THE INPUT: true; the input reads as it did. -/
def radixSumsSpec : ChangeSpec := { name := "radixSums", fn := fun _ => fun
  | [d] => { results := [.lit (.bool true)], args := [d] }
  | _ => none }
def radixSumsRow : OpenClaim := { program := "ytndlcfdlhliljaa", sum := "435ed29bb14c670ebd834fd683d597fe29b93357e0e01c6f900f284875f405d3", func := "bridleway/bridlewaylaw04.RadixSums", spec := "radixSums", apart := false }
def RadixSumsSaid : Prop := radixSumsRow.holds Try.pinned (OpenSpec.ofChange radixSumsSpec)

/-- ITS FALSE NEIGHBOUR: 'it returns false'. Refute it at one input. -/
def radixSumsWrong : ChangeSpec := { name := "radixSums", fn := fun _ => fun
  | [d] => { results := [.lit (.bool false)], args := [d] }
  | _ => none }
def RadixSumsWrongFalsely : Prop := radixSumsRow.holds Try.pinned (OpenSpec.ofChange radixSumsWrong)

/-- 'bridlewaylaw04.RadixPairs': WHATEVER THE INPUT: true; the input reads as it did. -/
def radixPairsSpec : ChangeSpec := { name := "radixPairs", fn := fun _ => fun
  | [d] => { results := [.lit (.bool true)], args := [d] }
  | _ => none }
def radixPairsRow : OpenClaim := { program := "ytndlcfdlhliljaa", sum := "435ed29bb14c670ebd834fd683d597fe29b93357e0e01c6f900f284875f405d3", func := "bridleway/bridlewaylaw04.RadixPairs", spec := "radixPairs", apart := false }
def RadixPairsSaid : Prop := radixPairsRow.holds Try.pinned (OpenSpec.ofChange radixPairsSpec)

/-- ITS FALSE NEIGHBOUR: 'it returns false'. Refute it at one input. -/
def radixPairsWrong : ChangeSpec := { name := "radixPairs", fn := fun _ => fun
  | [d] => { results := [.lit (.bool false)], args := [d] }
  | _ => none }
def RadixPairsWrongFalsely : Prop := radixPairsRow.holds Try.pinned (OpenSpec.ofChange radixPairsWrong)

/-- 'bridlewaylaw04.RadixRises': WHATEVER THE INPUT: true; the input reads as it did. -/
def radixRisesSpec : ChangeSpec := { name := "radixRises", fn := fun _ => fun
  | [d1, d2, d3] => { results := [.lit (.bool true)], args := [d1, d2, d3] }
  | _ => none }
def radixRisesRow : OpenClaim := { program := "ytndlcfdlhliljaa", sum := "435ed29bb14c670ebd834fd683d597fe29b93357e0e01c6f900f284875f405d3", func := "bridleway/bridlewaylaw04.RadixRises", spec := "radixRises", apart := false }
def RadixRisesSaid : Prop := radixRisesRow.holds Try.pinned (OpenSpec.ofChange radixRisesSpec)

/-- ITS FALSE NEIGHBOUR: 'it returns false'. Refute it at one input. -/
def radixRisesWrong : ChangeSpec := { name := "radixRises", fn := fun _ => fun
  | [d1, d2, d3] => { results := [.lit (.bool false)], args := [d1, d2, d3] }
  | _ => none }
def RadixRisesWrongFalsely : Prop := radixRisesRow.holds Try.pinned (OpenSpec.ofChange radixRisesWrong)

/- THE SECOND FORM. 'bulk': how many values and letters a reading holds, each counted each time it is reached (what is shared counts as often as it is met; a slice's spare places count too). A statement '..UptoSaid' is the law's where the arguments, and the package variables that the reading takes, are together of bulk at most 1048576: NARROWER than '..Said'. Prove '..Said' where nothing that the law and all that it calls make is longer than what came in: it says more and counts as full. Else prove '..UptoSaid'. A law counts once. -/
mutual
def uptoBulk {H : Type} : DataW H → Nat
  | .lit (.string bytes) => bytes.length + 1
  | .lit _ => 1
  | .nil => 1
  | .ptr d => uptoBulk d + 1
  | .slice elems spare => uptoBulkAll elems + uptoBulkAll spare + 1
  | .agg parts => uptoBulkAll parts + 1
  | .iface _ d => uptoBulk d + 1
  | .map entries => uptoBulkEntries entries + 1
  | .held _ => 1
def uptoBulkAll {H : Type} : List (DataW H) → Nat
  | [] => 0
  | d :: r => uptoBulk d + uptoBulkAll r
def uptoBulkEntries {H : Type} : List (Lit × DataW H) → Nat
  | [] => 0
  | x :: r => uptoBulkEntry x + uptoBulkEntries r
def uptoBulkEntry {H : Type} : Lit × DataW H → Nat
  | (.string bytes, d) => bytes.length + uptoBulk d + 1
  | (_, d) => uptoBulk d + 1
 end
def uptoSmall : (H : Type) → List (DataW H) → Bool := fun _ ds => decide (uptoBulkAll ds ≤ 1048576)
def OpenSpec.upto (s : _root_.Go.ChangeSpec) : _root_.Go.OpenSpec := { _root_.Go.OpenSpec.ofChange s with cond := some uptoSmall }

/-- 'bridlewaylaw02.VarintSigned', WHERE WHAT IT READS IS OF BULK AT MOST 1048576: true; the input reads as it did. -/
def varintSignedUptoRow : OpenClaim := { program := "ytndlcfdlhliljaa", sum := "435ed29bb14c670ebd834fd683d597fe29b93357e0e01c6f900f284875f405d3", func := "bridleway/bridlewaylaw02.VarintSigned", spec := "varintSigned", recurses := true, apart := false, narrowed := true }
def VarintSignedUptoSaid : Prop := varintSignedUptoRow.holds Try.pinned (OpenSpec.upto varintSignedSpec)

/-- 'bridlewaylaw02.VarintTexts', WHERE WHAT IT READS IS OF BULK AT MOST 1048576: true; the input reads as it did. -/
def varintTextsUptoRow : OpenClaim := { program := "ytndlcfdlhliljaa", sum := "435ed29bb14c670ebd834fd683d597fe29b93357e0e01c6f900f284875f405d3", func := "bridleway/bridlewaylaw02.VarintTexts", spec := "varintTexts", recurses := true, apart := false, narrowed := true }
def VarintTextsUptoSaid : Prop := varintTextsUptoRow.holds Try.pinned (OpenSpec.upto varintTextsSpec)

/-- 'bridlewaylaw02.VarintGets', WHERE WHAT IT READS IS OF BULK AT MOST 1048576: true; the input reads as it did. -/
def varintGetsUptoRow : OpenClaim := { program := "ytndlcfdlhliljaa", sum := "435ed29bb14c670ebd834fd683d597fe29b93357e0e01c6f900f284875f405d3", func := "bridleway/bridlewaylaw02.VarintGets", spec := "varintGets", recurses := true, apart := false, narrowed := true }
def VarintGetsUptoSaid : Prop := varintGetsUptoRow.holds Try.pinned (OpenSpec.upto varintGetsSpec)

/-- 'bridlewaylaw02.VarintPuts', WHERE WHAT IT READS IS OF BULK AT MOST 1048576: true; the input reads as it did. -/
def varintPutsUptoRow : OpenClaim := { program := "ytndlcfdlhliljaa", sum := "435ed29bb14c670ebd834fd683d597fe29b93357e0e01c6f900f284875f405d3", func := "bridleway/bridlewaylaw02.VarintPuts", spec := "varintPuts", recurses := true, apart := false, narrowed := true }
def VarintPutsUptoSaid : Prop := varintPutsUptoRow.holds Try.pinned (OpenSpec.upto varintPutsSpec)

/-- 'bridlewaylaw38.MeterWithin', WHERE WHAT IT READS IS OF BULK AT MOST 1048576: true; the input reads as it did. -/
def meterWithinUptoRow : OpenClaim := { program := "ytndlcfdlhliljaa", sum := "435ed29bb14c670ebd834fd683d597fe29b93357e0e01c6f900f284875f405d3", func := "bridleway/bridlewaylaw38.MeterWithin", spec := "meterWithin", apart := false, narrowed := true }
def MeterWithinUptoSaid : Prop := meterWithinUptoRow.holds Try.pinned (OpenSpec.upto meterWithinSpec)

/-- 'bridlewaylaw04.RadixSums', WHERE WHAT IT READS IS OF BULK AT MOST 1048576: true; the input reads as it did. -/
def radixSumsUptoRow : OpenClaim := { program := "ytndlcfdlhliljaa", sum := "435ed29bb14c670ebd834fd683d597fe29b93357e0e01c6f900f284875f405d3", func := "bridleway/bridlewaylaw04.RadixSums", spec := "radixSums", apart := false, narrowed := true }
def RadixSumsUptoSaid : Prop := radixSumsUptoRow.holds Try.pinned (OpenSpec.upto radixSumsSpec)

/-- 'bridlewaylaw04.RadixPairs', WHERE WHAT IT READS IS OF BULK AT MOST 1048576: true; the input reads as it did. -/
def radixPairsUptoRow : OpenClaim := { program := "ytndlcfdlhliljaa", sum := "435ed29bb14c670ebd834fd683d597fe29b93357e0e01c6f900f284875f405d3", func := "bridleway/bridlewaylaw04.RadixPairs", spec := "radixPairs", apart := false, narrowed := true }
def RadixPairsUptoSaid : Prop := radixPairsUptoRow.holds Try.pinned (OpenSpec.upto radixPairsSpec)

/-- 'bridlewaylaw04.RadixRises', WHERE WHAT IT READS IS OF BULK AT MOST 1048576: true; the input reads as it did. -/
def radixRisesUptoRow : OpenClaim := { program := "ytndlcfdlhliljaa", sum := "435ed29bb14c670ebd834fd683d597fe29b93357e0e01c6f900f284875f405d3", func := "bridleway/bridlewaylaw04.RadixRises", spec := "radixRises", apart := false, narrowed := true }
def RadixRisesUptoSaid : Prop := radixRisesUptoRow.holds Try.pinned (OpenSpec.upto radixRisesSpec)

end Rows
end Go.Proofs.Ytndlcfdlhliljaa
