/- Sorting at most one record. -/
import Derived.Test.YtghhmannenjchaaNO
namespace Go.Proofs.Ytghhmannenjchaa
open Go.RowKit

set_option maxHeartbeats 2000000 in
set_option maxRecDepth 100000 in
theorem len_small (n : Nat) (hn : n ≤ 1) (w : World) : Calls Try.prog 41 #[.int .u64 n] w fun e w' => (∃ m : Int, e = .returned (.int .i64 m)) ∧ w' = w := by
  have h : n = 0 ∨ n = 1 := by omega
  rcases h with rfl | rfl
  · go_enter Try.func41, Try.ntmps41
    go_wp2
    go_ret
    exact ⟨⟨_, rfl⟩, rfl⟩
  · go_enter Try.func41, Try.ntmps41
    go_wp2
    go_ret
    exact ⟨⟨_, rfl⟩, rfl⟩
theorem insertion_small (A : Option Addr) (n c : Nat) (hn : n ≤ 1) (fv : Value) (w : World) : Calls Try.prog 48 #[.slice A n c, .int .i64 0, .int .i64 n, fv] w fun e w' => e = .returned (.tuple #[]) ∧ w' = w := by
  have h1 : decide ((1 : Int) < (n : Int)) = false := decide_eq_false (by omega)
  have h2 : ¬ (1 : Int) < (n : Int) := by omega
  have h3 : decide (1 < n) = false := decide_eq_false (by omega)
  go_enter Try.func48, Try.ntmps48
  go_wp2
  refine wp_loop_once ?_
  go_wp2
  go_end0
  exact ⟨rfl, rfl⟩
theorem pdq_small (A : Option Addr) (n c : Nat) (hn : n ≤ 1) (m : Int) (fv : Value) (w : World) : Calls Try.prog 40 #[.slice A n c, .int .i64 0, .int .i64 n, .int .i64 m, fv] w fun e w' => e = .returned (.tuple #[]) ∧ w' = w := by
  have h1 : decide ((n : Int) ≤ 12) = true := decide_eq_true (by omega)
  have h2 : (n : Int) ≤ 12 := by omega
  go_enter Try.func40, Try.ntmps40
  go_wp2
  refine wp_loop_once ?_
  go_wp2_with (go_at_call 48; refine (insertion_small A n c hn fv _).mono ?_; rintro e w1 ⟨rfl, rfl⟩)
  (try simp only [Exit.inBlock, Exit.then]); refine bodyPost_ret (results_none rfl _ _ _) rfl ?_
  exact ⟨rfl, rfl⟩
theorem sort_small (A : Option Addr) (n c : Nat) (hn : n ≤ 1) (fv : Value) (w : World) : Calls Try.prog 29 #[.slice A n c, fv] w fun e w' => e = .returned (.tuple #[]) ∧ w' = w := by
  have hu : (n : Int) % 18446744073709551616 = n := by omega
  go_enter Try.func29, Try.ntmps29
  go_wp2_with (first
    | (go_at_call 41; refine (len_small n hn _).mono ?_; rintro e w1 ⟨⟨m, rfl⟩, rfl⟩)
    | (go_at_call 40; refine (pdq_small A n c hn _ fv _).mono ?_; rintro e w1 ⟨rfl, rfl⟩))
  go_end0
  exact ⟨rfl, rfl⟩
theorem compact_small (A : Option Addr) (n c : Nat) (hn : n ≤ 1) (fv : Value) (w : World) : Calls Try.prog 30 #[.slice A n c, fv] w fun e w' => e = .returned (.slice A n c) ∧ w' = w := by
  have h1 : decide ((n : Int) < 2) = true := decide_eq_true (by omega)
  have h2 : (n : Int) < 2 := by omega
  go_enter Try.func30, Try.ntmps30
  go_wp2
  go_ret
  exact ⟨rfl, rfl⟩
theorem names_no {w : World} {q : Option Addr} (h : NoH w q) : Calls Try.prog 14 #[.pointer q] w fun e w' => e = .returned (.slice none 0 0) ∧ w' = w := by
  replace h := Lib.hid h
  go_enter Try.func14, Try.ntmps14
  go_wp2_with (go_at_call 10; refine (events_no h.out).mono ?_; rintro e w2 ⟨rfl, rfl⟩)
  refine wp_loop_once ?_
  go_wp2_with (first
    | (go_at_call 29; refine (sort_small none 0 0 (by decide) _ _).mono ?_; rintro e w1 ⟨rfl, rfl⟩)
    | (go_at_call 30; refine (compact_small none 0 0 (by decide) _ _).mono ?_; rintro e w1 ⟨rfl, rfl⟩))
  go_ret
  exact ⟨rfl, rfl⟩
end Go.Proofs.Ytghhmannenjchaa
