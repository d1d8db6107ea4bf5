/- A world in which package-level tables lie as the program's text lays them. Conditions: none. -/
import Derived.Test.YtdbaklnjemcfgaaGreatDoorRows
import Derived.LaidLaws
import Derived.LaidHandle
import Derived.ChangeVars
import Derived.JoinedOf
import Derived.RowKit
import Derived.RowKitTokens
import Derived.Stop.Joined
namespace Go.Proofs.YtdbaklnjemcfgaaGreatDoor.Laid
open Go.RowKit
/-- The cells of a table's row. -/
def cellsOf1 : DataW Unit → List Value
  | .lit (.int k n) => [.int k n]
  | .agg l => l.flatMap fun
    | .lit (.int k n) => [.int k n]
    | _ => []
  | _ => []
def tab : DataW Unit → Array Value
  | .agg l => (l.flatMap cellsOf1).toArray
  | _ => #[]
def lay (g : Nat) (d : DataW Unit) (h : Array Obj) : Array Obj := h.modify g fun
  | .cells _ t frozen => .cells (tab d) t frozen
  | o => o
end Go.Proofs.YtdbaklnjemcfgaaGreatDoor.Laid
