/- No node, and one that nobody made: NodeNil, by the abstract run. -/
import Derived.Test.YtcllmbmgchhigaaGreatKW
import Derived.Test.YtcllmbmgchhigaaGreatCK
import Derived.Test.YtcllmbmgchhigaaGreatXQ
namespace Go.Proofs.YtcllmbmgchhigaaGreat
open Go.RowKit

noncomputable def goB (c : Nat) : Bool := isTrue (funcS (ovTrue 12) (drawS Tryz.prog) Tryz.prog 100000 60 (.func 7) [.agg (junk 2).toArray, .complex .f32 0 c, .chan none] ⟨0, .leaf⟩)
theorem run_small : goB (cls 0 5000) = true := by kernel_rfl
theorem run_large : goB (cls 5001 9223372036854775807) = true := by kernel_rfl
theorem nil_walk (w : World) (c0 : Array Value) (q : D_api_Point) (h0 : D_api_Point.k.K w q c0.toList) (v : Value) (l : List Int) (hl : RdK (RK.int .u8) w v l) (about : Int) (_ : (Lit.int .i64 about).wf = true) :
    Calls Tryz.prog 7 #[.agg c0, v, .int .i64 about] w fun e w' => e = .returned (.bool true) ∧ Below w.heap.size w w' := by
  obtain ⟨ep, _⟩ := D_api_Point.cells h0
  obtain rfl : c0 = (D_api_Point.cs q).toArray := Array.ext' (by simpa using ep)
  obtain ⟨A, c, rfl⟩ := hl.slice
  have hrd : Rds (fun _ => .slice A l.length c) w := by
    intro j a n c' h
    cases h
    exact opq_one hl (fun n => .int .u8 n) (fun x cs hk => hk.1) (fun _ => rfl) rfl
  have ha : ∀ lo hi, lo ≤ l.length → l.length ≤ hi → hi < 18446744073709551616 → VRs (ctx0 (fun _ => .slice A l.length c) w hrd).σ [.agg (junk 2).toArray, .complex .f32 0 (cls lo hi), .chan none] #[.agg (D_api_Point.cs q).toArray, .slice A l.length c, .int .i64 about].toList := fun lo hi q1 q2 q3 =>
    VRs.cons (VR.agg' (junk_all rfl (by simp [D_api_Point.cs, Value.oneCell']))) (VRs.cons (VR.slice rfl q1 q2 q3) (VRs.cons (.any _ rfl) (VRs.nil _)))
  by_cases hn : l.length ≤ 5000
  · exact run_true (draw_ok Tryz.prog) _ hrd (ovTrue_ok knows_any) (ha 0 5000 (by omega) hn (by omega)) run_small
  · have := hl.le
    unfold maxLen at this
    exact run_true (draw_ok Tryz.prog) _ hrd (ovTrue_ok knows_any) (ha 5001 9223372036854775807 (by omega) (by omega) (by omega)) run_large
end Go.Proofs.YtcllmbmgchhigaaGreat
