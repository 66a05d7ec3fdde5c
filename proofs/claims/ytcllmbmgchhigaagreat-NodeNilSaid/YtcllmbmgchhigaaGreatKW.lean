/- The law's knows: run by its pieces. -/
import Derived.Test.YtcllmbmgchhigaaGreatL1
import Derived.Test.YtcllmbmgchhigaaGreatL2
import Derived.Test.YtcllmbmgchhigaaGreatL3
namespace Go.Proofs.YtcllmbmgchhigaaGreat
open Go.RowKit

noncomputable def ovK : OvF := ovOr (ovLit litOne) (ovOr (ovLit litAsk0) (ovLit litAsk1))
theorem knows_any (w : World) : Calls Tryz.prog 12 #[] w fun e w' => e = .returned (.bool true) ∧ Below w.heap.size w w' :=
  run_trueD (ov := ovK) (fuel := 100000) (d := 60) (fun _ => undef) (fun _ _ _ _ h => nomatch h) (ovOr_ok (ovLit_okD noOv_ok litOne_ok) (ovOr_ok (ovLit_okD noOv_ok litAsk0_ok) (ovLit_okD noOv_ok litAsk1_ok))) (VRs.nil _) (by kernel_rfl)
end Go.Proofs.YtcllmbmgchhigaaGreat
