/- No atlas, and one that nobody made: AtlasNil, by the abstract run. -/
import Derived.Test.YtjlgifcopjidaaaGreatKW
import Derived.Test.YtjlgifcopjidaaaGreatCK
import Derived.Test.YtjlgifcopjidaaaGreatXQ
namespace Go.Proofs.YtjlgifcopjidaaaGreat
open Go.RowKit

def argS (lo hi : Nat) : List Value := [.agg (junk 5 ++ [Value.complex .f32 0 (cls lo hi)]).toArray, .agg (junk 2).toArray]
theorem run_few : isTrue (funcS (ovTrue 6) (drawS Tryz.prog) Tryz.prog 100000 60 (.func 4) (argS 0 30) ⟨0, .leaf⟩) = true := by kernel_rfl
theorem run_many : isTrue (funcS (ovTrue 6) (drawS Tryz.prog) Tryz.prog 100000 60 (.func 4) (argS 31 9223372036854775807) ⟨0, .leaf⟩) = true := by kernel_rfl
theorem nil_walk (w : World) (c0 : Array Value) (r : D_glebelaw14_Act) (h0 : D_glebelaw14_Act.k.K w r c0.toList) (c1 : Array Value) (q : D_api_Point) (h1 : D_api_Point.k.K w q c1.toList) :
    Calls Tryz.prog 4 #[.agg c0, .agg c1] w fun e w' => e = .returned (.bool true) ∧ Below w.heap.size w w' := by
  obtain ⟨s0, e0, hr, _⟩ := D_glebelaw14_Act.cells h0
  obtain ⟨e1, _⟩ := D_api_Point.cells h1
  obtain rfl : c0 = (D_glebelaw14_Act.cs r s0).toArray := Array.ext' (by simpa using e0)
  obtain rfl : c1 = (D_api_Point.cs q).toArray := Array.ext' (by simpa using e1)
  obtain ⟨A, c, rfl⟩ := hr.slice
  have hrd : Rds (fun _ => .slice A r.z.chain.length c) w := by
    intro j a n c' h
    cases h
    exact opq_one hr (fun n => .int .i64 n) (fun x cs hk => hk.1) (fun _ => rfl) rfl
  have ha : ∀ lo hi, lo ≤ r.z.chain.length → r.z.chain.length ≤ hi → hi < 18446744073709551616 → VRs (ctx0 (fun _ => .slice A r.z.chain.length c) w hrd).σ (argS lo hi) #[.agg (D_glebelaw14_Act.cs r (.slice A r.z.chain.length c)).toArray, .agg (D_api_Point.cs q).toArray].toList := fun lo hi q1 q2 q3 =>
    VRs.cons (VR.agg' (VRs.append (a' := [_, _, _, _, _]) (junk_all rfl (by simp [Value.oneCell'])) (VRs.cons (VR.slice rfl q1 q2 q3) (VRs.nil _)))) (VRs.cons (VR.agg' (junk_all rfl (by simp [D_api_Point.cs, Value.oneCell']))) (VRs.nil _))
  by_cases hn : r.z.chain.length ≤ 30
  · exact run_true (draw_ok Tryz.prog) _ hrd (ovTrue_ok knows_any) (ha 0 30 (by omega) hn (by omega)) run_few
  · have := hr.le
    unfold maxLen at this
    exact run_true (draw_ok Tryz.prog) _ hrd (ovTrue_ok knows_any) (ha 31 9223372036854775807 (by omega) (by omega) (by omega)) run_many
end Go.Proofs.YtjlgifcopjidaaaGreat
