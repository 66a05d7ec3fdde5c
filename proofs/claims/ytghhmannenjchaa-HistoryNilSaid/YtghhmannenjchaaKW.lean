/- The law's knows: run whole. -/
import Derived.Test.YtghhmannenjchaaXO
import Derived.Test.YtghhmannenjchaaProg
import Derived.KernelRfl
namespace Go.Proofs.Ytghhmannenjchaa
open Go.RowKit

theorem knows_any (w : World) : Calls Try.prog 6 #[] w fun e w' => e = .returned (.bool true) ∧ Below w.heap.size w w' :=
  closed_true (draw_ok Try.prog) (fuel := 100000) (d := 60) (by kernel_rfl) w
end Go.Proofs.Ytghhmannenjchaa
