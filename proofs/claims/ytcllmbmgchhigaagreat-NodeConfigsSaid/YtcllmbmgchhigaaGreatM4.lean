/- Node 4: NodeConfigs by the abstract run. Printed by mkconfigs.py. -/
import Derived.Test.YtcllmbmgchhigaaGreatC0
namespace Go.Proofs.YtcllmbmgchhigaaGreat
open Go.RowKit

theorem run_fine_4_true : goC [numA 1 16, numA 0 4, numA 1 1048576, numA 1 1048576, numA 5 8, .int .i64 4, .bool true] = true := by kernel_rfl
theorem run_fine_4_false : goC [numA 1 16, numA 0 4, numA 1 1048576, numA 1 1048576, numA 5 8, .int .i64 4, .bool false] = true := by kernel_rfl
end Go.Proofs.YtcllmbmgchhigaaGreat
