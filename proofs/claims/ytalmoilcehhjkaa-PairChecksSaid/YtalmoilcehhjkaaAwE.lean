/- The check that is made whatever the input is (chapter 4): a closed run. -/
import Derived.Test.YtalmoilcehhjkaaEv
set_option linter.unusedVariables false
set_option linter.unusedSimpArgs false
set_option maxHeartbeats 4000000
namespace Go.Proofs.Ytalmoilcehhjkaa
open Go hiding Expr
open Go.AM hiding get
theorem awakeE : e15 100 (eV 100 10) Heap0 (fun s _ => s = true) = (true = true) := by kernel_rfl
end Go.Proofs.Ytalmoilcehhjkaa
