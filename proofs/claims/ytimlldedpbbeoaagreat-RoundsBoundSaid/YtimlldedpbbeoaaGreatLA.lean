/- The program's types are laid out, by parts (in one theorem it takes too much memory). Printed. -/
import GoSem.ClaimDataLaid
import Derived.KernelRfl
import Derived.Test.YtimlldedpbbeoaaGreatProg
namespace Go.Proofs.YtimlldedpbbeoaaGreat

theorem laidS0 : (List.range' 0 64).all (rowFine Tryz.prog) = true := by kernel_rfl
theorem laidS64 : (List.range' 64 64).all (rowFine Tryz.prog) = true := by kernel_rfl
theorem laidS128 : (List.range' 128 64).all (rowFine Tryz.prog) = true := by kernel_rfl
theorem laidS192 : (List.range' 192 64).all (rowFine Tryz.prog) = true := by kernel_rfl
end Go.Proofs.YtimlldedpbbeoaaGreat
