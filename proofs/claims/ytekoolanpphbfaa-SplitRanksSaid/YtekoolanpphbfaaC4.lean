import Derived.Test.YtekoolanpphbfaaC2
set_option linter.unusedSimpArgs false
set_option linter.unusedVariables false
set_option linter.unnecessarySimpa false
namespace Go.A.Seat
open Go.Proofs
theorem alive29c : (callN tbl X0 40 10 [] []).map (·.1) = some (.c (.bool true)) := by kernel_rfl
end Go.A.Seat
