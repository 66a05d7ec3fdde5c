/- The law's knows: run by its pieces. -/
import Derived.Test.YtimlldedpbbeoaaGreatR1
import Derived.Test.YtimlldedpbbeoaaGreatR2
namespace Go.Proofs.YtimlldedpbbeoaaGreat
open Go.RowKit

noncomputable def ovR : OvF := ovOr (ovLit litNew) (ovLit litRun)
theorem knowsR_any (w : World) : Calls Tryz.prog 19 #[] w fun e w' => e = .returned (.bool true) ∧ Below w.heap.size w w' :=
  run_true (draw_ok Tryz.prog) (ov := ovR) (fuel := 100000) (d := 60) (fun _ => undef) (fun _ _ _ _ h => nomatch h) (ovOr_ok (ovLit_ok (draw_ok _) noOv_ok litNew_ok) (ovLit_ok (draw_ok _) noOv_ok litRun_ok)) (VRs.nil _) (by kernel_rfl)
end Go.Proofs.YtimlldedpbbeoaaGreat
