/- RoundsNil: no world, and one that nobody made, by the abstract run. -/
import Derived.Test.YtimlldedpbbeoaaGreatKR
import Derived.Test.YtimlldedpbbeoaaGreatCK
import Derived.Test.YtimlldedpbbeoaaGreatXQ
namespace Go.Proofs.YtimlldedpbbeoaaGreat
open Go.RowKit

theorem run_nil : isTrue (funcS (ovTrue 19) (drawS Tryz.prog) Tryz.prog 100000 60 (.func 5) [.complex .f64 0 18446744073709551615] ⟨0, .leaf⟩) = true := by kernel_rfl
theorem rnil_walk (w : World) (most : Int) (hm : (Lit.int .i64 most).wf = true) :
    Calls Tryz.prog 5 #[.int .i64 most] w fun e w' => e = .returned (.bool true) ∧ Below w.heap.size w w' :=
  run_true (draw_ok Tryz.prog) (fun _ => undef) (fun _ _ _ _ h => nomatch h) (ovTrue_ok knowsR_any) (VRs.cons (.ivl _ _ most (by have := wf_i64 hm; omega) (by have := wf_i64 hm; omega)) (VRs.nil _)) run_nil
end Go.Proofs.YtimlldedpbbeoaaGreat
