/- The program's types are laid out, by parts (in one theorem it takes too much memory). Printed. -/
import GoSem.ClaimDataLaid
import Derived.KernelRfl
import Derived.Test.YtimlldedpbbeoaaGreatProg
namespace Go.Proofs.YtimlldedpbbeoaaGreat

theorem laidS256 : (List.range' 256 64).all (rowFine Tryz.prog) = true := by kernel_rfl
theorem laidS320 : (List.range' 320 64).all (rowFine Tryz.prog) = true := by kernel_rfl
theorem laidS384 : (List.range' 384 64).all (rowFine Tryz.prog) = true := by kernel_rfl
theorem laidS448 : (List.range' 448 64).all (rowFine Tryz.prog) = true := by kernel_rfl
end Go.Proofs.YtimlldedpbbeoaaGreat
