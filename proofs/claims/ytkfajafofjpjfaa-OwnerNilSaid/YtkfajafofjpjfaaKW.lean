/- The law's knows: run whole. -/
import Derived.Test.YtkfajafofjpjfaaXO
import Derived.Test.YtkfajafofjpjfaaProg
import Derived.KernelRfl
namespace Go.Proofs.Ytkfajafofjpjfaa
open Go.RowKit

theorem knows_any (w : World) : Calls Try.prog 7 #[] w fun e w' => e = .returned (.bool true) ∧ Below w.heap.size w w' :=
  closed_true (draw_ok Try.prog) (fuel := 100000) (d := 60) (by kernel_rfl) w
end Go.Proofs.Ytkfajafofjpjfaa
