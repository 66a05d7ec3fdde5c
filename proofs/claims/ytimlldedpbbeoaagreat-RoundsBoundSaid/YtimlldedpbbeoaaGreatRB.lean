/- RoundsBound: how many rounds are enough, of any numbers. -/
import Derived.Laws.Cover1
import Derived.Test.YtimlldedpbbeoaaGreatKR
import Derived.Test.YtimlldedpbbeoaaGreatCE
namespace Go.Proofs.YtimlldedpbbeoaaGreat
open Go.RowKit

def mn (a b : Int) : Int := if b < a then b else a
theorem run_min4 {P : Program} (ts : Array TypeId) (t : TypeId) (a b c d : Int) : ∃ m : Int, (∀ w, (Builtin.min_ ts t #[.int .i64 a, .int .i64 b, .int .i64 c, .int .i64 d]).run P w = .ok (.int .i64 m) w) ∧ (m < 0 ↔ a < 0 ∨ b < 0 ∨ c < 0 ∨ d < 0) := by
  have key : ∀ x y : Int, mn x y < 0 ↔ x < 0 ∨ y < 0 := fun x y => by
    unfold mn
    split <;> omega
  refine ⟨mn (mn (mn a b) c) d, fun w => by unfold mn; simp [Builtin.min_, Builtin.min2], ?_⟩
  rw [key, key, key]
  omega
def cap (x : Int) : Int := if 1048576 < x then 1048576 else x
def bv (n z f k : Int) : Int := wrap64 (wrap64 (wrap64 (200 + wrap64 (60 * wrap64 (cap n + cap z))) + wrap64 (Int.tdiv (cap f) 4)) + wrap64 (8 * cap k))
theorem bounds_any (n z f k : Int) : ∃ v : Int, (∀ w, Calls Tryz.prog 17 #[.int .i64 n, .int .i64 z, .int .i64 f, .int .i64 k] w fun e w' => e = .returned (.int .i64 v) ∧ w' = w) ∧ ∀ w, Calls Tryz.prog 18 #[.int .i64 n, .int .i64 z, .int .i64 f, .int .i64 k] w fun e w' => e = .returned (.int .i64 v) ∧ w' = w := by
  obtain ⟨m, hm, hm2⟩ := run_min4 (P := Tryz.prog) #[3, 3, 3, 3] 3 n z f k
  by_cases h1 : n < 0
  · have hd : decide (m < 0) = true := decide_eq_true (hm2.2 (by omega))
    have e1 : decide (n < 0) = true := decide_eq_true h1
    clear hm2
    refine ⟨0, fun w => ?_, fun w => ?_⟩
    · go_enter Tryz.func17, Tryz.ntmps17
      go_wp2
      go_ret
      exact ⟨rfl, rfl⟩
    · go_enter Tryz.func18, Tryz.ntmps18
      go_wp2
      go_ret
      exact ⟨rfl, rfl⟩
  have e1 : decide (n < 0) = false := decide_eq_false h1
  by_cases h2 : z < 0
  · have hd : decide (m < 0) = true := decide_eq_true (hm2.2 (by omega))
    have e2 : decide (z < 0) = true := decide_eq_true h2
    clear hm2
    refine ⟨0, fun w => ?_, fun w => ?_⟩
    · go_enter Tryz.func17, Tryz.ntmps17
      go_wp2
      go_ret
      exact ⟨rfl, rfl⟩
    · go_enter Tryz.func18, Tryz.ntmps18
      go_wp2
      go_ret
      exact ⟨rfl, rfl⟩
  have e2 : decide (z < 0) = false := decide_eq_false h2
  by_cases h3 : f < 0
  · have hd : decide (m < 0) = true := decide_eq_true (hm2.2 (by omega))
    have e3 : decide (f < 0) = true := decide_eq_true h3
    clear hm2
    refine ⟨0, fun w => ?_, fun w => ?_⟩
    · go_enter Tryz.func17, Tryz.ntmps17
      go_wp2
      go_ret
      exact ⟨rfl, rfl⟩
    · go_enter Tryz.func18, Tryz.ntmps18
      go_wp2
      go_ret
      exact ⟨rfl, rfl⟩
  have e3 : decide (f < 0) = false := decide_eq_false h3
  by_cases h4 : k < 0
  · have hd : decide (m < 0) = true := decide_eq_true (hm2.2 (by omega))
    have e4 : decide (k < 0) = true := decide_eq_true h4
    clear hm2
    refine ⟨0, fun w => ?_, fun w => ?_⟩
    · go_enter Tryz.func17, Tryz.ntmps17
      go_wp2
      go_ret
      exact ⟨rfl, rfl⟩
    · go_enter Tryz.func18, Tryz.ntmps18
      go_wp2
      go_ret
      exact ⟨rfl, rfl⟩
  have e4 : decide (k < 0) = false := decide_eq_false h4
  have hd : decide (m < 0) = false := decide_eq_false (fun h => by have := hm2.1 h; omega)
  clear hm2 h1 h2 h3 h4
  refine ⟨bv n z f k, fun w => ?_, fun w => ?_⟩
  · go_enter Tryz.func17, Tryz.ntmps17
    go_wp2
    all_goals (go_ret; refine ⟨?_, rfl⟩; unfold bv cap; (repeat' split) <;> first | (exfalso; omega) | simp)
  · go_enter Tryz.func18, Tryz.ntmps18
    go_wp2
    all_goals (go_ret; refine ⟨?_, rfl⟩; unfold bv cap; (repeat' split) <;> first | (exfalso; omega) | simp)
theorem bound_walk (w : World) (n : Int) (_ : (Lit.int .i64 n).wf = true) (z : Int) (_ : (Lit.int .i64 z).wf = true) (f : Int) (_ : (Lit.int .i64 f).wf = true) (k : Int) (_ : (Lit.int .i64 k).wf = true) :
    Calls Tryz.prog 4 #[.int .i64 n, .int .i64 z, .int .i64 f, .int .i64 k] w fun e w' => e = .returned (.bool true) ∧ Below w.heap.size w w' := by
  obtain ⟨v, hv1, hv2⟩ := bounds_any n z f k
  replace hv1 := Lib.hid hv1
  replace hv2 := Lib.hid hv2
  have hvv : (v == v) = true := by simp
  go_enter Tryz.func4, Tryz.ntmps4
  go_wp2_with (first
    | (go_at_call 17; refine (hv1.out _).mono ?_; rintro e w ⟨rfl, rfl⟩)
    | (go_at_call 18; refine (hv2.out _).mono ?_; rintro e w ⟨rfl, rfl⟩)
    | (go_at_call 19; refine (knowsR_any _).mono ?_; rintro e w2 ⟨rfl, hB⟩; replace hB := Lib.hid hB))
  go_ret
  exact ⟨rfl, hB.out⟩
end Go.Proofs.YtimlldedpbbeoaaGreat
