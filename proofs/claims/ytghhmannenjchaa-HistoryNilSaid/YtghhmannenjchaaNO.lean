/- No history, and one that nobody made: its methods. -/
import Derived.Test.YtghhmannenjchaaRC
namespace Go.Proofs.Ytghhmannenjchaa
open Go.RowKit

def zeroHC : Array Value := #[.int .i64 0, .slice none 0 0]
def NoH (w : World) (q : Option Addr) : Prop := q = none ∨ ∃ b, q = some ⟨b, 0, none⟩ ∧ w.heap[b]? = some (.cells zeroHC 74 (0, 0))
theorem NoH.below {w w' : World} {q : Option Addr} (h : NoH w q) (hb : Below w.heap.size w w') : NoH w' q := by
  rcases h with h | ⟨b, rfl, hh⟩
  · exact .inl h
  · exact .inr ⟨b, rfl, block_kept hh hb⟩
theorem none_nil (w : World) : Calls Try.prog 24 #[.pointer none] w fun e w' => e = .returned (.bool true) ∧ w' = w := by
  go_enter Try.func24, Try.ntmps24
  go_wp2
  go_ret
  exact ⟨rfl, rfl⟩
theorem none_at (b : Nat) (k : Int) (w : World) (h : w.cell? ⟨b, 0, none⟩ = some (.int .i64 k)) : Calls Try.prog 24 #[.pointer (some ⟨b, 0, none⟩)] w fun e w' => e = .returned (.bool (k == 0)) ∧ w' = w := by
  go_enter Try.func24, Try.ntmps24
  go_wp2
  go_ret
  exact ⟨rfl, rfl⟩
theorem none_no {w : World} {q : Option Addr} (h : NoH w q) : Calls Try.prog 24 #[.pointer q] w fun e w' => e = .returned (.bool true) ∧ w' = w := by
  rcases h with rfl | ⟨b, rfl, hh⟩
  · exact none_nil w
  · exact none_at b 0 w (cell_of_block hh 0)
theorem begin_no {w : World} {q : Option Addr} (h : NoH w q) (n t : Int) (c : Array Value) : Calls Try.prog 11 #[.pointer q, .int .i64 n, .int .i64 t, .agg c] w fun e w' => e = .returned (.int .i64 (-1)) ∧ Below w.heap.size w w' := by
  have hb := h.below ((Below.refl _ w).alloc (Nat.le_refl _) (.cells c 48))
  replace h := Lib.hid h
  replace hb := Lib.hid hb
  go_enter Try.func11, Try.ntmps11
  go_wp2_with (go_at_call 24; refine (none_no hb.out).mono ?_; rintro e w1 ⟨rfl, rfl⟩)
  go_ret
  exact ⟨rfl, (Below.refl _ w).alloc (Nat.le_refl _) _⟩
theorem end_no {w : World} {q : Option Addr} (h : NoH w q) (n t : Int) (c : Array Value) : Calls Try.prog 12 #[.pointer q, .int .i64 n, .int .i64 t, .agg c] w fun e w' => e = .returned (.bool false) ∧ Below w.heap.size w w' := by
  have hb0 : Below w.heap.size w ((w.alloc (.cells #[.int .i64 n] 3)).alloc (.cells c 53)) := ((Below.refl _ w).alloc (Nat.le_refl _) _).alloc (by simp) _
  have hb := h.below hb0
  replace h := Lib.hid h
  replace hb := Lib.hid hb
  go_enter Try.func12, Try.ntmps12
  go_wp2_with (go_at_call 24; refine (none_no hb.out).mono ?_; rintro e w1 ⟨rfl, rfl⟩)
  go_ret
  exact ⟨rfl, hb0⟩
theorem events_no {w : World} {q : Option Addr} (h : NoH w q) : Calls Try.prog 10 #[.pointer q] w fun e w' => e = .returned (.slice none 0 0) ∧ w' = w := by
  replace h := Lib.hid h
  go_enter Try.func10, Try.ntmps10
  go_wp2_with (go_at_call 24; refine (none_no h.out).mono ?_; rintro e w1 ⟨rfl, rfl⟩)
  go_ret
  exact ⟨rfl, rfl⟩
theorem len_no {w : World} {q : Option Addr} (h : NoH w q) : Calls Try.prog 17 #[.pointer q] w fun e w' => e = .returned (.int .i64 0) ∧ w' = w := by
  replace h := Lib.hid h
  go_enter Try.func17, Try.ntmps17
  go_wp2_with (go_at_call 24; refine (none_no h.out).mono ?_; rintro e w1 ⟨rfl, rfl⟩)
  go_ret
  exact ⟨rfl, rfl⟩
theorem waiting_no {w : World} {q : Option Addr} (h : NoH w q) : Calls Try.prog 13 #[.pointer q] w fun e w' => e = .returned (.int .i64 0) ∧ w' = w := by
  replace h := Lib.hid h
  go_enter Try.func13, Try.ntmps13
  go_wp2_with (go_at_call 10; refine (events_no h.out).mono ?_; rintro e w2 ⟨rfl, rfl⟩)
  refine wp_loop_once ?_
  go_wp2
  go_ret
  exact ⟨rfl, rfl⟩
theorem items_no {w : World} {q : Option Addr} (h : NoH w q) (x y : Int) (s : ByteArray) : Calls Try.prog 16 #[.pointer q, .agg #[.int .i64 x, .int .i64 y], .string s] w fun e w' => e = .returned (.slice none 0 0) ∧ Below w.heap.size w w' := by
  have hb0 : Below w.heap.size w ((w.alloc (.cells #[.int .i64 x, .int .i64 y] 24)).alloc (.cells #[.string s] 9)) := ((Below.refl _ w).alloc (Nat.le_refl _) _).alloc (by simp) _
  have hb := h.below hb0
  replace h := Lib.hid h
  replace hb := Lib.hid hb
  go_enter Try.func16, Try.ntmps16
  go_wp2_with (go_at_call 10; refine (events_no hb.out).mono ?_; rintro e w2 ⟨rfl, rfl⟩)
  refine wp_loop_once ?_
  go_wp2
  go_ret
  exact ⟨rfl, hb0⟩
end Go.Proofs.Ytghhmannenjchaa
