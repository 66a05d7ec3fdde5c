/- The walk through the law's knows: what must come, comes. -/
import Derived.Test.YthfhigcenmcmaaaS
namespace Go.Proofs.Ythfhigcenmcmaaa
open Go.RowKit

def k1 : WS := (WS.init 3).stopS 1
def k2 : WS := k1.tellS 0 1
theorem k_stop : (WS.init 3).stopR 1 = 0 := by decide
theorem k_due : k1.due = [(0, 1), (2, 1)] := by decide
theorem k_tell : k1.tellR 0 1 = 0 := by decide
theorem k_knows : k2.knows 0 1 = true := by decide
theorem k_due2 : k2.due = [(2, 1)] := by decide
theorem k_runs : k2.runs 1 = false := by decide

set_option maxHeartbeats 1000000 in
theorem knows_true (w : World) :
    Calls Try.prog 6 #[] w fun e w' => e = .returned (.bool true) ∧ Below w.heap.size w w' := by
  go_enter Try.func6, Try.ntmps6
  go_wp2_with fail
  refine (new_ok 3 _ (by omega) (by omega)).mono ?_
  rintro e w1 ⟨rfl, hW, hB1⟩
  have H1 := Lib.hid hW
  have hlt := hW.lt
  clear hW
  go_wp2_with fail
  refine (stop_any _ _ 1 _ H1.out).mono ?_
  rintro e w2 ⟨rfl, hW, hF⟩
  rw [k_stop]
  have H2 : Hid (IsW w2 w.heap.size k1) := hW
  have hB2 : Below w.heap.size w w2 := hB1.trans (hF.below hB1.size (fun k hk h => by omega))
  clear hW hF hB1 H1 hlt
  go_wp2_with (go_at_call 8; refine (num_any _ _).mono ?_; rintro e w' ⟨rfl, rfl⟩)
  refine (due_any _ _ _ H2.out).mono ?_
  rintro e w3 ⟨v, rfl, hown, hB⟩
  rw [k_due] at hown
  have hR := Lib.hid (Rd.of_own hown)
  have H3 : Hid (IsW w3 w.heap.size k1) := H2.out.fr (Fr.of_below hB (S := fun _ => False)) (fun h => h)
  have hB3 : Below w.heap.size w w3 := hB2.trans (hB.mono hB2.size)
  clear hown hB hB2 H2
  go_wp2_with fail
  have hB4 : Below w3.heap.size w3 (w3.alloc (.cells #[.int .i64 0, .int .i64 1, .int .i64 2, .int .i64 1] 37)) := (Below.refl _ _).alloc (Nat.le_refl _) _
  have hR4 : Rd (w3.alloc (.cells #[.int .i64 0, .int .i64 1, .int .i64 2, .int .i64 1] 37)) (.slice (some ⟨w3.heap.size, 0, none⟩) 2 2) 2 (pairV [(0, 1), (2, 1)]) :=
    .inr ⟨_, 0, 2, rfl, by simp, fun j u hj => by
      have := cells_new w3 (pairV [(0, 1), (2, 1)]) 37 j u hj
      rw [Nat.zero_add]
      rw [show ((⟨w3.heap.size, 0, none⟩ : Addr).add j) = ⟨w3.heap.size, j, none⟩ by unfold Addr.add; split <;> simp_all] at this
      exact this⟩
  refine (same_any v _ [(0, 1), (2, 1)] [(0, 1), (2, 1)] _ (hR.out.below hB4) hR4 (by simp)).mono ?_
  rintro e w4 ⟨rfl, hB⟩
  have hB5 : Below w.heap.size w w4 := hB3.trans ((hB4.trans (hB.mono hB4.size)).mono hB3.size)
  have H4 : Hid (IsW w4 w.heap.size k1) := H3.out.fr (Fr.of_below (hB4.trans (hB.mono hB4.size)) (S := fun _ => False)) (fun h => h)
  clear hB hR4 hB4 hB3 H3 hR
  rw [show (decide (([(0, 1), (2, 1)] : List (Nat × Nat)) = [(0, 1), (2, 1)])) = true by decide]
  go_wp2_with fail
  refine (tell_any _ _ 0 1 _ H4.out).mono ?_
  rintro e w5 ⟨rfl, hW, hF⟩
  rw [k_tell]
  have H5 : Hid (IsW w5 w.heap.size k2) := hW
  have hB6 : Below w.heap.size w w5 := hB5.trans (hF.below hB5.size (fun k hk h => by omega))
  clear hW hF hB5 H4
  go_wp2_with (go_at_call 8; refine (num_any _ _).mono ?_; rintro e w' ⟨rfl, rfl⟩)
  refine (knows_any _ _ 0 1 _ H5.out).mono ?_
  rintro e w' ⟨rfl, rfl⟩
  rw [k_knows]
  go_wp2_with fail
  refine (due_any _ _ _ H5.out).mono ?_
  rintro e w6 ⟨v6, rfl, hown, hB⟩
  rw [k_due2] at hown
  obtain ⟨A6, c6, rfl, _⟩ := own_slice hown
  have H6 : Hid (IsW w6 w.heap.size k2) := H5.out.fr (Fr.of_below hB (S := fun _ => False)) (fun h => h)
  have hB7 : Below w.heap.size w w6 := hB6.trans (hB.mono hB6.size)
  clear hown hB hB6 H5
  go_wp2_with fail
  refine (runs_any _ _ 1 _ H6.out).mono ?_
  rintro e w' ⟨rfl, rfl⟩
  rw [k_runs]
  go_wp2
  go_ret
  exact ⟨rfl, hB7⟩
end Go.Proofs.Ythfhigcenmcmaaa
