/- No atlas, and one that nobody made: RouteNil, by the abstract run. -/
import Derived.Test.YtgahbmcibocclaaGreatKW
import Derived.Test.YtgahbmcibocclaaGreatCK
import Derived.Test.YtgahbmcibocclaaGreatXQ
namespace Go.Proofs.YtgahbmcibocclaaGreat
open Go.RowKit

noncomputable def goR (a b c d : Int) : Bool := isTrue (funcS (ovTrue 8) (drawS Tryz.prog) Tryz.prog 100000 60 (.func 4) [.chan none, .agg #[numA a b, numA c d]] ⟨0, .leaf⟩)
theorem run_in : goR 0 3 0 3 = true := by kernel_rfl
theorem run_left : goR (-9223372036854775808) (-1) (-9223372036854775808) 9223372036854775807 = true := by kernel_rfl
theorem run_right : goR 4 9223372036854775807 (-9223372036854775808) 9223372036854775807 = true := by kernel_rfl
theorem run_up : goR 0 3 (-9223372036854775808) (-1) = true := by kernel_rfl
theorem run_down : goR 0 3 4 9223372036854775807 = true := by kernel_rfl
theorem nil_walk (w : World) (me : Int) (_ : (Lit.int .i64 me).wf = true) (c : Array Value) (q : D_api_Point) (h : D_api_Point.k.K w q c.toList) :
    Calls Tryz.prog 4 #[.int .i64 me, .agg c] w fun e w' => e = .returned (.bool true) ∧ Below w.heap.size w w' := by
  obtain ⟨e1, hx, hy⟩ := D_api_Point.cells h
  obtain rfl : c = (D_api_Point.cs q).toArray := Array.ext' (by simpa using e1)
  have hx := wf_i64 hx
  have hy := wf_i64 hy
  have go : ∀ {a b c d : Int}, goR a b c d = true → -9223372036854775808 ≤ a → a ≤ q.x → q.x ≤ b → -9223372036854775808 ≤ c → c ≤ q.y → q.y ≤ d → Calls Tryz.prog 4 #[.int .i64 me, .agg (D_api_Point.cs q).toArray] w fun e w' => e = .returned (.bool true) ∧ Below w.heap.size w w' := fun hr h1 h2 h3 h4 h5 h6 =>
    run_true (draw_ok Tryz.prog) (fun _ => undef) (fun _ _ _ _ h => nomatch h) (ovTrue_ok knows_any) (VRs.cons (.any _ rfl) (VRs.cons (VR.agg' (c := [_, _]) (VRs.cons (VR.num h1 h2 h3) (VRs.cons (VR.num h4 h5 h6) (VRs.nil _)))) (VRs.nil _))) hr
  by_cases x1 : q.x < 0
  · exact go run_left (by omega) (by omega) (by omega) (by omega) (by omega) (by omega)
  by_cases x2 : 3 < q.x
  · exact go run_right (by omega) (by omega) (by omega) (by omega) (by omega) (by omega)
  by_cases y1 : q.y < 0
  · exact go run_up (by omega) (by omega) (by omega) (by omega) (by omega) (by omega)
  by_cases y2 : 3 < q.y
  · exact go run_down (by omega) (by omega) (by omega) (by omega) (by omega) (by omega)
  exact go run_in (by omega) (by omega) (by omega) (by omega) (by omega) (by omega)
end Go.Proofs.YtgahbmcibocclaaGreat
