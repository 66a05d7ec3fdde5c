/- No atlas, and one that nobody made: PlanNil, by the abstract run. -/
import Derived.Test.YtjmlcjkidblbhaaGreatKW
import Derived.Test.YtjmlcjkidblbhaaGreatCK
import Derived.Test.YtjmlcjkidblbhaaGreatXQ
namespace Go.Proofs.YtjmlcjkidblbhaaGreat
open Go.RowKit

noncomputable def goP (lo hi : Nat) : Bool := isTrue (funcS (ovTrue 7) (drawS Tryz.prog) Tryz.prog 100000 60 (.func 4) [.agg (junk 4 ++ [Value.complex .f32 0 (cls lo hi)]).toArray, numA (-9223372036854775808) 9223372036854775807, .agg (junk 8).toArray] ⟨0, .leaf⟩)
theorem run_few : goP 0 30 = true := by kernel_rfl
theorem run_many : goP 31 9223372036854775807 = true := by kernel_rfl
theorem nil_walk (w : World) (c0 : Array Value) (r : D_gleberef13_Zone) (h0 : D_gleberef13_Zone.k.K w r c0.toList) (most : Int) (hm : (Lit.int .i64 most).wf = true) (c1 : Array Value) (q : List Bool) (h1 : (RK.bools 8).K w q c1.toList) :
    Calls Tryz.prog 4 #[.agg c0, .int .i64 most, .agg c1] w fun e w' => e = .returned (.bool true) ∧ Below w.heap.size w w' := by
  obtain ⟨s0, e0, hr, _⟩ := D_gleberef13_Zone.cells h0
  have hm := wf_i64 hm
  obtain rfl : c0 = (D_gleberef13_Zone.cs r s0).toArray := Array.ext' (by simpa using e0)
  obtain rfl : c1 = (q.map Value.bool).toArray := Array.ext' (by simpa using h1.2)
  obtain ⟨A, c, rfl⟩ := hr.slice
  have hrd : Rds (fun _ => .slice A r.chain.length c) w := by
    intro j a n c' h
    cases h
    exact opq_one hr (fun n => .int .i64 n) (fun x cs hk => hk.1) (fun _ => rfl) rfl
  have ha : ∀ lo hi, lo ≤ r.chain.length → r.chain.length ≤ hi → hi < 18446744073709551616 → VRs (ctx0 (fun _ => .slice A r.chain.length c) w hrd).σ [.agg (junk 4 ++ [Value.complex .f32 0 (cls lo hi)]).toArray, numA (-9223372036854775808) 9223372036854775807, .agg (junk 8).toArray] #[.agg (D_gleberef13_Zone.cs r (.slice A r.chain.length c)).toArray, .int .i64 most, .agg (q.map Value.bool).toArray].toList := fun lo hi q1 q2 q3 =>
    VRs.cons (VR.agg' (VRs.append (a' := [_, _, _, _]) (junk_all rfl (by simp [Value.oneCell'])) (VRs.cons (VR.slice rfl q1 q2 q3) (VRs.nil _)))) (VRs.cons (VR.num (by omega) hm.1 hm.2) (VRs.cons (VR.agg' (junk_all (by rw [List.length_map]; exact h1.1) (by intro v hv; obtain ⟨b, _, rfl⟩ := List.mem_map.1 hv; rfl))) (VRs.nil _)))
  by_cases hn : r.chain.length ≤ 30
  · exact run_true (draw_ok Tryz.prog) _ hrd (ovTrue_ok knows_any) (ha 0 30 (by omega) hn (by omega)) run_few
  · have := hr.le
    unfold maxLen at this
    exact run_true (draw_ok Tryz.prog) _ hrd (ovTrue_ok knows_any) (ha 31 9223372036854775807 (by omega) (by omega) (by omega)) run_many
end Go.Proofs.YtjmlcjkidblbhaaGreat
