/- The law's small living call: a graph is read. Conditions: none. -/
import Derived.Test.YtnlodeadhnonpaaDoorEStrs
import Derived.Test.YtnlodeadhnonpaaDoorELaw
import Derived.Test.YtnlodeadhnonpaaDoorGD13
import Derived.Test.YtnlodeadhnonpaaDoorDArgs
namespace Go.Proofs.YtnlodeadhnonpaaDoor.D
open Go.RowKit Go.Proofs.YtnlodeadhnonpaaDoor.Mem Go.Proofs.YtnlodeadhnonpaaDoor.E
set_option linter.unusedVariables false
theorem lives_run : yes (evCall Tryd.prog libT 100 31 [] .nil 0) = true := by kernel_rfl
theorem lives06_fn : FnD Tryd.prog 31 [] (bv true) :=
  fn_of_calls_base Tryd.func31 (by kernel_rfl) rfl rfl fun w F hF hB =>
    calls_of_run (P := Tryd.prog) (by kernel_rfl) libT_ok lives_run F w hF hB #[] rfl (fun j x y h => by simp at h)
end Go.Proofs.YtnlodeadhnonpaaDoor.D
