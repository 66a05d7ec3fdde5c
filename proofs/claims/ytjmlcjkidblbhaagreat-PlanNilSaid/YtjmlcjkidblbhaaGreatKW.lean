/- The law's knows: run whole. -/
import Derived.Test.YtjmlcjkidblbhaaGreatXO
import Derived.Test.YtjmlcjkidblbhaaGreatProg
import Derived.KernelRfl
namespace Go.Proofs.YtjmlcjkidblbhaaGreat
open Go.RowKit

theorem knows_any (w : World) : Calls Tryz.prog 7 #[] w fun e w' => e = .returned (.bool true) ∧ Below w.heap.size w w' :=
  closed_true (draw_ok Tryz.prog) (fuel := 100000) (d := 60) (by kernel_rfl) w
end Go.Proofs.YtjmlcjkidblbhaaGreat
