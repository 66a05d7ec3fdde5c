/- The program's types are laid out, by parts (in one theorem it takes too much memory). Printed. -/
import GoSem.ClaimDataLaid
import Derived.KernelRfl
import Derived.Test.YtimlldedpbbeoaaGreatProg
namespace Go.Proofs.YtimlldedpbbeoaaGreat

theorem laidS512 : (List.range' 512 64).all (rowFine Tryz.prog) = true := by kernel_rfl
theorem laidS576 : (List.range' 576 64).all (rowFine Tryz.prog) = true := by kernel_rfl
theorem laidS640 : (List.range' 640 64).all (rowFine Tryz.prog) = true := by kernel_rfl
theorem laidN : Tryz.prog.types.size = 704 := by kernel_rfl
theorem laidG : Tryz.prog.globals.all (fun g => decide (g.type < Tryz.prog.types.size)) = true := by kernel_rfl
theorem laidF : Tryz.prog.funcs.all (fun f => f.params.all fun t => decide (t < Tryz.prog.types.size)) = true := by kernel_rfl
end Go.Proofs.YtimlldedpbbeoaaGreat
