/- Configurations that may not be, or nodes: NodeConfigs by the abstract run. Printed by mkconfigs.py. -/
import Derived.Test.YtcllmbmgchhigaaGreatKW
import Derived.Test.YtcllmbmgchhigaaGreatXQ
namespace Go.Proofs.YtcllmbmgchhigaaGreat
open Go.RowKit

noncomputable def goC (l : List Value) : Bool := isTrue (funcD (ovTrue 12) Tryz.prog 100000 60 (.func 3) l ⟨0, .leaf⟩)
noncomputable def anyA : Value := numA (-9223372036854775808) 9223372036854775807
noncomputable def lowA (n : Int) : Value := numA (-9223372036854775808) n
noncomputable def topA (n : Int) : Value := numA n 9223372036854775807
theorem run_k_low : goC [lowA (0), anyA, anyA, anyA, anyA, anyA, ubV] = true := by kernel_rfl
theorem run_k_top : goC [topA 17, anyA, anyA, anyA, anyA, anyA, ubV] = true := by kernel_rfl
theorem run_h_low : goC [numA 1 16, lowA (-1), anyA, anyA, anyA, anyA, ubV] = true := by kernel_rfl
theorem run_h_top : goC [numA 1 16, topA 5, anyA, anyA, anyA, anyA, ubV] = true := by kernel_rfl
theorem run_a_low : goC [numA 1 16, numA 0 4, lowA (0), anyA, anyA, anyA, ubV] = true := by kernel_rfl
theorem run_a_top_low : goC [numA 1 16, numA 0 4, topA 1048577, lowA (0), anyA, anyA, ubV] = true := by kernel_rfl
theorem run_a_top_top : goC [numA 1 16, numA 0 4, topA 1048577, topA 1, anyA, anyA, ubV] = true := by kernel_rfl
theorem run_l_low : goC [numA 1 16, numA 0 4, numA 1 1048576, lowA (0), anyA, anyA, ubV] = true := by kernel_rfl
theorem run_l_top : goC [numA 1 16, numA 0 4, numA 1 1048576, topA 1048577, anyA, anyA, ubV] = true := by kernel_rfl
theorem run_n_low : goC [numA 1 16, numA 0 4, numA 1 1048576, numA 1 1048576, lowA (0), anyA, ubV] = true := by kernel_rfl
theorem run_n_top : goC [numA 1 16, numA 0 4, numA 1 1048576, numA 1 1048576, topA 9, anyA, ubV] = true := by kernel_rfl
theorem run_m_low : goC [numA 1 16, numA 0 4, numA 1 1048576, numA 1 1048576, numA 1 8, lowA (-1), ubV] = true := by kernel_rfl
theorem run_m_top1 : goC [numA 1 16, numA 0 4, numA 1 1048576, numA 1 1048576, .int .i64 1, topA 1, ubV] = true := by kernel_rfl
theorem run_m_top2 : goC [numA 1 16, numA 0 4, numA 1 1048576, numA 1 1048576, .int .i64 2, topA 2, ubV] = true := by kernel_rfl
theorem run_m_top3 : goC [numA 1 16, numA 0 4, numA 1 1048576, numA 1 1048576, .int .i64 3, topA 3, ubV] = true := by kernel_rfl
theorem run_m_top4 : goC [numA 1 16, numA 0 4, numA 1 1048576, numA 1 1048576, .int .i64 4, topA 4, ubV] = true := by kernel_rfl
theorem run_m_top5 : goC [numA 1 16, numA 0 4, numA 1 1048576, numA 1 1048576, .int .i64 5, topA 5, ubV] = true := by kernel_rfl
theorem run_m_top6 : goC [numA 1 16, numA 0 4, numA 1 1048576, numA 1 1048576, .int .i64 6, topA 6, ubV] = true := by kernel_rfl
theorem run_m_top7 : goC [numA 1 16, numA 0 4, numA 1 1048576, numA 1 1048576, .int .i64 7, topA 7, ubV] = true := by kernel_rfl
theorem run_m_top8 : goC [numA 1 16, numA 0 4, numA 1 1048576, numA 1 1048576, .int .i64 8, topA 8, ubV] = true := by kernel_rfl
end Go.Proofs.YtcllmbmgchhigaaGreat
