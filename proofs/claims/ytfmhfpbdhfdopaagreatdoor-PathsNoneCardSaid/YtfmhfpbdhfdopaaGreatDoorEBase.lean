/- What of the world every call may lean on: cells of package variables. Here: none. -/
import Derived.Test.YtfmhfpbdhfdopaaGreatDoorDVal
namespace Go.Proofs.YtfmhfpbdhfdopaaGreatDoor.D
def BaseOk (F : Facts) : Prop := True
theorem BaseOk.mono {F F' : Facts} (h : BaseOk F) (hs : F.sub F') : BaseOk F' := h
end Go.Proofs.YtfmhfpbdhfdopaaGreatDoor.D
