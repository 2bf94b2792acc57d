/- The fixed calls of the law's package, run. -/
import Derived.Test.YtnmobjhmohcjfaaK1
import Derived.Test.YtnmobjhmohcjfaaAW
set_option linter.unusedSimpArgs false
set_option linter.unusedVariables false
set_option linter.unnecessarySimpa false
namespace Go.A.V.S
open Go Go.A
theorem alive18 : (A.callN tbl (fun _ _ _ => none) 100 18 [] []).map (·.1) = some (ab true) := by kernel_rfl
end Go.A.V.S
