/- No shelf, and one that nobody made: ShelfNil, by the abstract run. -/
import Derived.Test.YtpfhgammojdddaaGreatKW
import Derived.Test.YtpfhgammojdddaaGreatLI
namespace Go.Proofs.YtpfhgammojdddaaGreat
open Go.RowKit

theorem nil_walk (w : World) (c0 : Array Value) (r : D_gleberef07_Op) (h0 : D_gleberef07_Op.k.K w r c0.toList) (c1 : Array Value) (q : D_gleberef04_Rect) (h1 : D_gleberef04_Rect.k.K w q c1.toList) :
    Calls Tryz.prog 7 #[.agg c0, .agg c1] w fun e w' => e = .returned (.bool true) ∧ Below w.heap.size w w' := by
  obtain ⟨e0, _⟩ := D_gleberef07_Op.cells h0
  obtain ⟨e1, _⟩ := D_gleberef04_Rect.cells h1
  obtain rfl : c0 = (D_gleberef07_Op.cs r).toArray := Array.ext' (by simpa using e0)
  obtain rfl : c1 = (D_gleberef04_Rect.cs q).toArray := Array.ext' (by simpa using e1)
  clear h0 h1 e0 e1
  have ha : VRs (ctx0 (fun i => (D_gleberef07_Op.cs r ++ D_gleberef04_Rect.cs q).getD i undef) w).σ [.agg (outs 0 7).toArray, .agg (outs 7 4).toArray] #[.agg (D_gleberef07_Op.cs r).toArray, .agg (D_gleberef04_Rect.cs q).toArray].toList :=
    VRs.cons (VR.agg' (outs_at [] (D_gleberef07_Op.cs r) (D_gleberef04_Rect.cs q) (by rfl) (by simp [D_gleberef07_Op.cs, Value.oneCell'])))
      (VRs.cons (VR.agg' (outs_at (D_gleberef07_Op.cs r) (D_gleberef04_Rect.cs q) [] (by simp [ctx0]) (by simp [D_gleberef04_Rect.cs, Value.oneCell']))) (VRs.nil _))
  have hov : OvOK Tryz.prog (ctx0 (fun i => (D_gleberef07_Op.cs r ++ D_gleberef04_Rect.cs q).getD i undef) w) (ovOr (ovTrue 10) (ovOne 9 7 (!bigOne r.key r.value))) :=
    ovOr_ok (ovTrue_ok knows_any) <| ovOne_ok fun w bl c cur e hb hj => light_one w bl c r.key r.value cur e hb (hj 3 (by decide)) (hj 4 (by decide))
  cases hb : bigOne r.key r.value with
  | true =>
    rw [hb] at hov
    exact run_true (draw_ok Tryz.prog) _ hov (fuel := 100000) (d := 60) ha (by kernel_rfl)
  | false =>
    rw [hb] at hov
    exact run_true (draw_ok Tryz.prog) _ hov (fuel := 100000) (d := 60) ha (by kernel_rfl)
end Go.Proofs.YtpfhgammojdddaaGreat
