/- What of the world every call may lean on: the table of powers of ten lies as it is. -/
import Derived.Test.YtdbaklnjemcfgaaGreatDoorDVal
import Derived.Lib.ItoaNum
namespace Go.Proofs.YtdbaklnjemcfgaaGreatDoor.D
set_option linter.unusedVariables false
def tab10 : Array Value := (Lib.pow10Tab.map fun z => Value.int .u64 z).toArray
def BaseOk (F : Facts) (w : World) : Prop := (∃ t fr, w.heap[0]? = some (.cells tab10 t fr)) ∧ F 0 0 (.int .u64 1)
theorem BaseOk.keep {F F' : Facts} {w w' : World} (h : BaseOk F w) (hs : F.sub F') (hk : ∀ b, b < w.heap.size → (∃ off x, F b off x) → w'.heap[b]? = w.heap[b]?) : BaseOk F' w' := by
  obtain ⟨⟨t, fr, h1⟩, h2⟩ := h
  refine ⟨⟨t, fr, ?_⟩, hs _ _ _ h2⟩
  rw [hk _ (Array.getElem?_eq_some_iff.1 h1).1 ⟨_, _, h2⟩]
  exact h1
end Go.Proofs.YtdbaklnjemcfgaaGreatDoor.D
