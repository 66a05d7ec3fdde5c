/- No track, and one that nobody made: OwnerNil, by the abstract run. -/
import Derived.Test.YtkfajafofjpjfaaKW
import Derived.Test.YtkfajafofjpjfaaOW
import Derived.Test.YtkfajafofjpjfaaXQ
namespace Go.Proofs.Ytkfajafofjpjfaa
open Go.RowKit

def argS (lo hi : Nat) : List Value := [.agg (.complex .f32 0 (cls lo hi) :: junk 8).toArray, .agg (junk 2).toArray]
def ovs : OvF := ovOr (ovTrue 7) (ovSome 10 0)
theorem run_few : isTrue (funcS ovs (drawS Try.prog) Try.prog 100000 60 (.func 4) (argS 0 70) ⟨0, .leaf⟩) = true := by kernel_rfl
theorem run_many : isTrue (funcS noOv (drawS Try.prog) Try.prog 100000 60 (.func 4) (argS 71 9223372036854775807) ⟨0, .leaf⟩) = true := by kernel_rfl
theorem nil_walk (w : World) (c0 : Array Value) (r : D_glebelaw26_Step) (h0 : D_glebelaw26_Step.k.K w r c0.toList) (c1 : Array Value) (q : D_api_Point) (h1 : D_api_Point.k.K w q c1.toList) :
    Calls Try.prog 4 #[.agg c0, .agg c1] w fun e w' => e = .returned (.bool true) ∧ Below w.heap.size w w' := by
  obtain ⟨s0, e0, hr, _⟩ := D_glebelaw26_Step.cells h0
  obtain ⟨e1, _⟩ := D_api_Point.cells h1
  obtain rfl : c0 = (D_glebelaw26_Step.cs r s0).toArray := Array.ext' (by simpa using e0)
  obtain rfl : c1 = (D_api_Point.cs q).toArray := Array.ext' (by simpa using e1)
  obtain ⟨A, c, rfl⟩ := hr.slice
  have hrd : Rds (fun _ => .slice A r.l.length c) w := by
    intro j a n c' h
    cases h
    have := hr.flat D_gleberef26_Hold.cs (fun x cs hk => (D_gleberef26_Hold.cells hk).1) (fun x => rfl) (by decide)
    refine opq_rd this ?_ fun u hu => ?_
    · have : ∀ m : List D_gleberef26_Hold, (m.flatMap D_gleberef26_Hold.cs).length = m.length * 3 := fun m => by
        induction m with
        | nil => rfl
        | cons x m ih => rw [List.flatMap_cons, List.length_append, ih]; simp [D_gleberef26_Hold.cs]; omega
      rw [this]; omega
    · rw [List.mem_flatMap] at hu
      obtain ⟨x, _, hx⟩ := hu
      simp [D_gleberef26_Hold.cs] at hx
      rcases hx with rfl | rfl | rfl <;> rfl
  have ha : ∀ lo hi, lo ≤ r.l.length → r.l.length ≤ hi → hi < 18446744073709551616 → VRs (ctx0 (fun _ => .slice A r.l.length c) w hrd).σ (argS lo hi) #[.agg (D_glebelaw26_Step.cs r (.slice A r.l.length c)).toArray, .agg (D_api_Point.cs q).toArray].toList := fun lo hi q1 q2 q3 =>
    VRs.cons (VR.agg' (VRs.cons (VR.slice rfl q1 q2 q3) (junk_all rfl (by simp [Value.oneCell'])))) (VRs.cons (VR.agg' (junk_all rfl (by simp [D_api_Point.cs, Value.oneCell']))) (VRs.nil _))
  by_cases hn : r.l.length ≤ 70
  · exact run_true (draw_ok Try.prog) _ hrd (ovOr_ok (ovTrue_ok knows_any) (ovSome_ok fun w' hb => own_any A c r.l w' (hr.below hb) (by omega))) (ha 0 70 (by omega) hn (by omega)) run_few
  · have := hr.le
    unfold maxLen at this
    exact run_true (draw_ok Try.prog) _ hrd noOv_ok (ha 71 9223372036854775807 (by omega) (by omega) (by omega)) run_many
end Go.Proofs.Ytkfajafofjpjfaa
