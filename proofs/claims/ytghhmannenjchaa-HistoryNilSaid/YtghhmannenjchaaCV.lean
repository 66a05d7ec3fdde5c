/- The walks through the small conversions of the law: Op, Rect, Ans, Rec. -/
import Derived.Test.YtghhmannenjchaaLL
import Derived.Test.YtghhmannenjchaaCE
namespace Go.Proofs.Ytghhmannenjchaa
open Go.RowKit

set_option maxHeartbeats 1000000 in
theorem op_any (x : D_gleberef07_Op) (w : World) :
    Calls Try.prog 20 #[.agg (D_gleberef07_Op.cs x).toArray] w fun e w' => e = .returned (.agg (D_gleberef07_Op.cs x).toArray) ∧ Below w.heap.size w w' := by
  unfold D_gleberef07_Op.cs
  go_enter Try.func20, Try.ntmps20
  go_wp2
  refine bodyPost_ret (v := .agg #[.int .i64 x.kind, .int .i64 x.at_.x, .int .i64 x.at_.y, .string x.key, .string x.value, .int .i64 x.client, .int .i64 x.seq]) (by simp [results, Try.results20, go_sem]) rfl ⟨rfl, ((Below.refl _ w).alloc (Nat.le_refl _) _).alloc (by simp) _⟩
set_option maxHeartbeats 1000000 in
theorem rect_any (x : D_gleberef04_Rect) (w : World) :
    Calls Try.prog 21 #[.agg (D_gleberef04_Rect.cs x).toArray] w fun e w' => e = .returned (.agg (D_gleberef04_Rect.cs x).toArray) ∧ Below w.heap.size w w' := by
  unfold D_gleberef04_Rect.cs
  go_enter Try.func21, Try.ntmps21
  go_wp2
  refine bodyPost_ret (v := .agg #[.int .i64 x.x, .int .i64 x.y, .int .i64 x.w, .int .i64 x.h]) (by simp [results, Try.results21, go_sem]) rfl ⟨rfl, ((Below.refl _ w).alloc (Nat.le_refl _) _).alloc (by simp) _⟩
set_option maxHeartbeats 1000000 in
theorem ans_any (x : D_gleberef07_Ans) (w : World) :
    Calls Try.prog 22 #[.agg (D_gleberef07_Ans.cs x).toArray] w fun e w' => e = .returned (.agg (D_gleberef07_Ans.cs x).toArray) ∧ Below w.heap.size w w' := by
  unfold D_gleberef07_Ans.cs
  go_enter Try.func22, Try.ntmps22
  go_wp2
  refine bodyPost_ret (v := .agg #[.int .i64 x.e, .bool x.found, .string x.value, .int .i64 x.ver]) (by simp [results, Try.results22, go_sem]) rfl ⟨rfl, ((Below.refl _ w).alloc (Nat.le_refl _) _).alloc (by simp) _⟩
set_option maxHeartbeats 1000000 in
theorem rec_any (x : D_gleberef07_Rec) (w : World) :
    Calls Try.prog 39 #[.agg (D_gleberef07_Rec.cs x).toArray] w fun e w' => e = .returned (.agg (D_gleberef07_Rec.cs x).toArray) ∧ Below w.heap.size w w' := by
  unfold D_gleberef07_Rec.cs
  go_enter Try.func39, Try.ntmps39
  go_wp2
  refine bodyPost_ret (v := .agg #[.int .i64 x.at_.x, .int .i64 x.at_.y, .string x.key, .string x.value, .int .i64 x.ver]) (by simp [results, Try.results39, go_sem]) rfl ⟨rfl, ((Below.refl _ w).alloc (Nat.le_refl _) _).alloc (by simp) _⟩
end Go.Proofs.Ytghhmannenjchaa
