/- What of the world every call may lean on: the first package variable is a number. -/
import Derived.Test.YtnlodeadhnonpaaDoorDVal
namespace Go.Proofs.YtnlodeadhnonpaaDoor.D
def BaseOk (F : Facts) : Prop := ∃ m : Int, F 0 0 (.int .i64 m)
theorem BaseOk.mono {F F' : Facts} (h : BaseOk F) (hs : F.sub F') : BaseOk F' := h.elim fun m hm => ⟨m, hs _ _ _ hm⟩
end Go.Proofs.YtnlodeadhnonpaaDoor.D
