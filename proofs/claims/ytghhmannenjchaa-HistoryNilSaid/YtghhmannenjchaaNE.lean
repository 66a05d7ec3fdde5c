/- The walks through torus.New and history.New. -/
import Derived.Test.YtghhmannenjchaaOW
namespace Go.Proofs.Ytghhmannenjchaa
open Go.RowKit

theorem ok_any (n : Int) (h1 : 1 ≤ n) (h2 : n ≤ 16) (w : World) : Calls Try.prog 38 #[.agg #[.int .i64 n]] w fun e w' => e = .returned (.bool true) ∧ Below w.heap.size w w' := by
  have d1 : decide (1 ≤ n) = true := decide_eq_true h1
  have d2 : decide (n ≤ 16) = true := decide_eq_true h2
  go_enter Try.func38, Try.ntmps38
  go_wp2
  go_ret
  exact ⟨rfl, (Below.refl _ w).alloc (Nat.le_refl _) _⟩
theorem torus_new (n : Int) (h1 : 1 ≤ n) (h2 : n ≤ 16) (w : World) : Calls Try.prog 19 #[.int .i64 n] w fun e w' => e = .returned (.tuple #[.agg #[.int .i64 n], .int .i64 0]) ∧ Below w.heap.size w w' := by
  go_enter Try.func19, Try.ntmps19
  go_wp2_with (fail)
  refine (ok_any n h1 h2 _).mono ?_
  rintro e w2 ⟨rfl, hb2⟩
  have hb0 : Below w.heap.size w ((w.alloc (.cells #[.int .i64 0] 72)).alloc (.cells #[.int .i64 n] 72)) := ((Below.refl _ w).alloc (Nat.le_refl _) _).alloc (by simp) _
  have p0 := block_kept (block_alloc (alloc_new w (.cells #[.int .i64 0] 72)) (.cells #[.int .i64 n] 72)) hb2
  have p1 := alloc_new (w.alloc (.cells #[.int .i64 0] 72)) (.cells #[.int .i64 n] 72)
  rw [World.size_alloc] at p1
  replace p1 := block_kept p1 hb2
  have c0 : w2.cell? ⟨w.heap.size, 0, none⟩ = some (.int .i64 0) := cell_of_block p0 0
  have f0 := free_of_block p0 0
  have c1 : w2.cell? ⟨w.heap.size + 1, 0, none⟩ = some (.int .i64 n) := cell_of_block p1 0
  have hB := hb0.trans (hb2.mono hb0.size)
  have hs := lt_of_block p0
  replace hB := Lib.hid hB
  clear hb2 p1 p0
  go_wp2_with (fail)
  refine bodyPost_ret (v := .tuple #[.agg #[.int .i64 n], .int .i64 0]) (by simp [results, Try.results19, go_sem, *]) rfl ⟨rfl, ?_⟩
  exact hB.out.trans (((Fr.refl (fun j => j = w.heap.size) w2).setCell (p := ⟨w.heap.size, 0, none⟩) (fun _ => rfl) _).below hB.out.size (fun k hk e => by omega))
theorem new_any (n : Int) (h1 : 1 ≤ n) (h2 : n ≤ 16) (w : World) : Calls Try.prog 7 #[.int .i64 n] w fun e w' => ∃ b, e = .returned (.tuple #[.pointer (some ⟨b, 0, none⟩), .int .i64 0]) ∧ w.heap.size ≤ b ∧ w'.heap[b]? = some (.cells #[.int .i64 n, .slice none 0 0] 74 (0, 0)) ∧ Below w.heap.size w w' := by
  go_enter Try.func7, Try.ntmps7
  go_wp2_with (fail)
  refine (torus_new n h1 h2 _).mono ?_
  rintro e w2 ⟨rfl, hb2⟩
  have hs := hb2.size
  replace hb2 := Lib.hid hb2
  go_wp2_with (fail)
  go_ret2
  exact ⟨w2.heap.size + 1, rfl, by omega, by
    have := alloc_new (w2.alloc (.cells #[.int .i64 n] 72)) (.cells #[.int .i64 n, .slice none 0 0] 74)
    rw [World.size_alloc] at this
    exact this, (hb2.out.alloc hb2.out.size _).alloc (by simp; omega) _⟩
end Go.Proofs.Ytghhmannenjchaa
