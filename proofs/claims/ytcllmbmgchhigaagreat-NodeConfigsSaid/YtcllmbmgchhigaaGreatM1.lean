/- Node 1: NodeConfigs by the abstract run. Printed by mkconfigs.py. -/
import Derived.Test.YtcllmbmgchhigaaGreatC0
namespace Go.Proofs.YtcllmbmgchhigaaGreat
open Go.RowKit

theorem run_fine_1_true : goC [numA 1 16, numA 0 4, numA 1 1048576, numA 1 1048576, numA 2 8, .int .i64 1, .bool true] = true := by kernel_rfl
theorem run_fine_1_false : goC [numA 1 16, numA 0 4, numA 1 1048576, numA 1 1048576, numA 2 8, .int .i64 1, .bool false] = true := by kernel_rfl
end Go.Proofs.YtcllmbmgchhigaaGreat
