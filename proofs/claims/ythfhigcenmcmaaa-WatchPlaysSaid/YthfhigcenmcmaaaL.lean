/- The walk through Running. -/
import Derived.Test.YthfhigcenmcmaaaW
namespace Go.Proofs.Ythfhigcenmcmaaa
open Go.RowKit

theorem info_int : (Try.prog.info? 3).map (fun i => (i.zero, i.size, i.bytes)) = some (some (.int .i64 0), 1, 8) := by kernel_rfl

set_option maxHeartbeats 400000 in
theorem running_any (b : Nat) (s : WS) (w : World) (h : IsW w b s) :
    Calls Try.prog 20 #[.pointer (some ⟨b, 0, none⟩)] w fun e w' =>
      ∃ v, e = .returned v ∧ w'.ownsRow w.heap.size 3 1 v (s.runL 8).length (intV (s.runL 8)) ∧ Below w.heap.size w w' := by
  obtain ⟨i0, hi, hz0, hz1, hz2⟩ := info_parts info_int
  have H := Lib.hid h
  clear h
  go_enter Try.func20, Try.ntmps20
  go_wp2
  go_loopw [3, 5] (fun v i wr => ∃ k : Nat, k ≤ 8 ∧ i = .int .i64 k ∧ wr.ownsRow w.heap.size 3 1 v (s.runL k).length (intV (s.runL k)) ∧ Below w.heap.size w wr)
    (fun _ i _ => 8 - (intOf i).toNat)
  case atStart => exact ⟨0, Nat.zero_le _, rfl, World.ownsRow_nil _ _ _ _, Below.refl _ _⟩
  case round =>
    obtain ⟨k, hk, rfl, hown, hnx⟩ := hrel
    have Hr : Hid (IsW wr b s) := H.out.fr (Fr.of_below hnx (S := fun _ => False)) (fun h => h)
    by_cases hlt : k < 8
    · cases hru : s.runs (k : Int)
      · have e1 := Lib.hid (WS.runL_no hru)
        go_wp2_with (go_at_call 12; refine (runs_any b s _ _ Hr.out).mono ?_; rintro e w' ⟨rfl, rfl⟩)
        go_roundw
        case rel => exact ⟨k + 1, by omega, by go_num, by rw [e1.out]; exact hown, hnx⟩
        case measure => simp [intOf]; omega
      · have e1 := Lib.hid (WS.runL_yes hru)
        go_wp2_with (first
          | (go_at_call 12; refine (runs_any b s _ _ Hr.out).mono ?_; rintro e w' ⟨rfl, rfl⟩)
          | (at_builtin; refine wpList_append_own _ rfl _ _ 44 rfl w.heap.size 3 i0 (.int .i64 0) 1 8 Try.underlying44 hi hz0 hz1 hz2 rfl (by decide) _ _ _ rfl (hown.alloc _) ⟨wr.heap.size, 0, none⟩ 1 1 [.int .i64 k] rfl rfl ?c1 ?c2 ?c3 ?c4 ?c5 ?_))
        case c1 => exact cell_one_new _ _ _
        case c2 => intro u hu; simp at hu; subst hu; rfl
        case c3 => have := WS.runL_le s k; unfold maxLen; omega
        case c4 => have := WS.runL_le s k; omega
        case c5 => have := hnx.size; simp; omega
        intro v' w1 hown' hgrow _
        have hb1 : Below w.heap.size w w1 := (hnx.alloc hnx.size _).grown hgrow (by have := hnx.size; simp; omega) (own_base hown)
        go_wp2
        go_roundw
        case rel => exact ⟨k + 1, by omega, by go_num, by rw [e1.out]; simpa [intV] using hown', hb1⟩
        case measure => simp [intOf]; omega
    · go_wp2
      go_ret
      obtain rfl : k = 8 := by omega
      exact ⟨_, rfl, hown, hnx⟩
end Go.Proofs.Ythfhigcenmcmaaa
