import Derived.Test.YtgjjmhmaomcnaaaB1
namespace Go.A.SeatB
theorem alive8c : (callN tbl X0 100 8 [] []).map (·.1) = some (.c (.bool true)) := by kernel_rfl
end Go.A.SeatB
