/- The walks through the document's Running and Due: the same lists as the program's. -/
import Derived.Test.YthfhigcenmcmaaaX
namespace Go.Proofs.Ythfhigcenmcmaaa
open Go.RowKit

theorem WS.runL_all {s : WS} (hw : s.wf) : s.runL s.N.toNat = s.runL 8 := by
  have hN : s.N.toNat ≤ 8 := by have := hw.2; omega
  have h : ∀ d, s.runL (s.N.toNat + d) = s.runL s.N.toNat := by
    intro d
    induction d with
    | zero => rfl
    | succ d ih =>
      rw [← Nat.add_assoc, WS.runL_no, ih]
      unfold WS.runs
      rw [if_neg]
      unfold WS.ok; omega
  have := h (8 - s.N.toNat)
  rw [show s.N.toNat + (8 - s.N.toNat) = 8 by omega] at this
  exact this.symm

set_option maxHeartbeats 1000000 in
theorem rrunning_any (b : Nat) (s : WS) (w : World) (h : IsR w b s) :
    Calls Try.prog 21 #[.pointer (some ⟨b, 0, none⟩)] w fun e w' =>
      ∃ v, e = .returned v ∧ w'.ownsRow w.heap.size 3 1 v (s.runL 8).length (intV (s.runL 8)) ∧ Below w.heap.size w w' := by
  obtain ⟨i0, hi, hz0, hz1, hz2⟩ := info_parts info_int
  obtain ⟨Nn, hN⟩ : ∃ Nn : Nat, s.N = (Nn : Int) := ⟨s.N.toNat, by have := h.wf.1; omega⟩
  have hN8 : Nn ≤ 8 := by have := h.wf.2; omega
  have HN := Lib.hid hN
  have H := Lib.hid h
  clear h hN
  go_enter Try.func21, Try.ntmps21
  go_wp2
  go_loopw [3, 4] (fun v i wr => ∃ k : Nat, k ≤ Nn ∧ i = .int .i64 k ∧ wr.ownsRow w.heap.size 3 1 v (s.runL k).length (intV (s.runL k)) ∧ Below w.heap.size w wr)
    (fun _ i _ => Nn - (intOf i).toNat)
  case atStart => exact ⟨0, Nat.zero_le _, rfl, World.ownsRow_nil _ _ _ _, Below.refl _ _⟩
  case round =>
    obtain ⟨k, hk, rfl, hown, hnx⟩ := hrel
    have Hr : Hid (IsR wr b s) := H.out.fr (Fr.of_below hnx (S := fun _ => False)) (fun h => h)
    have hc := Hr.out.n
    rw [HN.out] at hc
    by_cases hlt : k < Nn
    · have hc1 := Hr.out.st k (by omega)
      have hk8 : (k : Int) < 8 := by omega
      have hok : s.ok (k : Int) := by unfold WS.ok; have := HN.out; omega
      cases hru : s.st k
      · have e1 := Lib.hid (WS.runL_yes (s := s) (k := k) (by simp [WS.runs, hok, hru]))
        rw [hru] at hc1
        clear hok hru
        go_wp2_with (at_builtin; refine wpList_append_own _ rfl _ _ 44 rfl w.heap.size 3 i0 (.int .i64 0) 1 8 Try.underlying44 hi hz0 hz1 hz2 rfl (by decide) _ _ _ rfl (hown.alloc _) ⟨wr.heap.size, 0, none⟩ 1 1 [.int .i64 k] rfl rfl ?c1 ?c2 ?c3 ?c4 ?c5 ?_)
        case c1 => exact cell_one_new _ _ _
        case c2 => intro u hu; simp at hu; subst hu; rfl
        case c3 => have := WS.runL_le s k; unfold maxLen; omega
        case c4 => have := WS.runL_le s k; omega
        case c5 => have := hnx.size; simp; omega
        intro v' w1 hown' hgrow _
        have hb1 : Below w.heap.size w w1 := (hnx.alloc hnx.size _).grown hgrow (by have := hnx.size; simp; omega) (own_base hown)
        go_wp2
        go_roundw
        case rel => exact ⟨k + 1, by omega, by go_num, by rw [e1.out]; simpa [intV] using hown', hb1⟩
        case measure => simp [intOf]; omega
      · have e1 := Lib.hid (WS.runL_no (s := s) (k := k) (by simp [WS.runs, hok, hru]))
        rw [hru] at hc1
        clear hok hru
        go_wp2
        go_roundw
        case rel => exact ⟨k + 1, by omega, by go_num, by rw [e1.out]; exact hown, hnx⟩
        case measure => simp [intOf]; omega
    · have e1 := Lib.hid (WS.runL_all H.out.wf)
      have hkN : Hid (k = s.N.toNat) := by show k = _; rw [HN.out]; omega
      go_wp2
      go_ret
      rw [hkN.out, e1.out] at hown
      exact ⟨_, rfl, hown, hnx⟩

set_option maxHeartbeats 2000000 in
theorem rdue_any (b : Nat) (s : WS) (w : World) (h : IsR w b s) :
    Calls Try.prog 27 #[.pointer (some ⟨b, 0, none⟩)] w fun e w' =>
      ∃ v, e = .returned v ∧ w'.ownsRow w.heap.size 37 2 v s.due.length (pairV s.due) ∧ Below w.heap.size w w' := by
  obtain ⟨i0, hi, hz0, hz1, hz2⟩ := info_parts info_pair
  obtain ⟨Nn, hN⟩ : ∃ Nn : Nat, s.N = (Nn : Int) := ⟨s.N.toNat, by have := h.wf.1; omega⟩
  have hN8 : Nn ≤ 8 := by have := h.wf.2; omega
  have HN := Lib.hid hN
  have H := Lib.hid h
  clear h hN
  go_enter Try.func27, Try.ntmps27
  go_wp2
  go_loopw [3, 4] (fun v i wr => ∃ k : Nat, k ≤ Nn ∧ i = .int .i64 k ∧ wr.ownsRow w.heap.size 37 2 v (s.dueF (pairsTo Nn k 0)).length (pairV (s.dueF (pairsTo Nn k 0))) ∧ Below w.heap.size w wr)
    (fun _ i _ => Nn - (intOf i).toNat)
  case atStart => exact ⟨0, Nat.zero_le _, rfl, by rw [pairsTo_zero]; exact World.ownsRow_nil _ _ _ _, Below.refl _ _⟩
  case round =>
    obtain ⟨i, hi', rfl, hown0, hnx0⟩ := hrel
    have hc0 := (H.out.fr (Fr.of_below hnx0 (S := fun _ => False)) (fun h => h)).n
    rw [HN.out] at hc0
    by_cases hlt : i < Nn
    · go_wp2
      go_loopw [3, 5] (fun v j wr => ∃ (v0 : Value) (k : Nat), k ≤ Nn ∧ v = v0 ∧ j = .int .i64 k ∧ wr.ownsRow w.heap.size 37 2 v0 (s.dueF (pairsTo Nn i k)).length (pairV (s.dueF (pairsTo Nn i k))) ∧ Below w.heap.size w wr)
        (fun _ j _ => Nn - (intOf j).toNat)
      case atStart => exact ⟨_, 0, Nat.zero_le _, rfl, rfl, hown0, hnx0⟩
      case round =>
        clear hown0 hnx0 hc0
        obtain ⟨v0, k, hk, rfl, rfl, hown, hnx⟩ := hrel
        have Hr : Hid (IsR wr b s) := H.out.fr (Fr.of_below hnx (S := fun _ => False)) (fun h => h)
        have hc := Hr.out.n
        rw [HN.out] at hc
        by_cases hlt2 : k < Nn
        · have c1 := Hr.out.st i (by omega)
          have c2 := Hr.out.st k (by omega)
          have c3 := Hr.out.td i k (by omega) (by omega)
          have hi8 : (i : Int) < 8 := by omega
          have hk8 : (k : Int) < 8 := by omega
          have oi : s.ok (i : Int) := by unfold WS.ok; have := HN.out; omega
          have ok : s.ok (k : Int) := by unfold WS.ok; have := HN.out; omega
          have hlen : (s.dueF (pairsTo Nn i k)).length ≤ 64 := by
            have h1 := WS.dueF_le s (pairsTo Nn i k)
            have h2 := pairsTo_len Nn i k
            have h3 : i * Nn ≤ 7 * 8 := Nat.mul_le_mul (by omega) hN8
            omega
          have NO : Hid (s.dueB (i, k) = false → wr.ownsRow w.heap.size 37 2 u3 (s.dueF (pairsTo Nn i (k + 1))).length (pairV (s.dueF (pairsTo Nn i (k + 1))))) := fun hd => by
            by_cases e : k = i
            · subst e; rw [pairsTo_eq]; exact hown
            · rw [pairsTo_ne e, WS.dueF_no hd]; exact hown
          cases h1 : s.st i
          · cases h2 : s.st k
            · rw [h1] at c1
              rw [h2] at c2
              have hd : Hid (s.dueB (i, k) = false) := by show _ = _; simp [WS.dueB, WS.runs, WS.knows, oi, ok, h1, h2]
              clear oi ok hown
              go_wp2
              go_roundw
              case rel => exact ⟨_, k + 1, by omega, rfl, by go_num, NO.out hd.out, hnx⟩
              case measure => simp [intOf]; omega
            · cases h3 : s.td i k
              · have hne : k ≠ i := fun e => by subst e; rw [h1] at h2; cases h2
                have e1 : Hid (s.dueF (pairsTo Nn i (k + 1)) = s.dueF (pairsTo Nn i k) ++ [(i, k)]) := by
                  show _ = _
                  rw [pairsTo_ne hne]
                  exact WS.dueF_yes (by simp [WS.dueB, WS.runs, WS.knows, oi, ok, h1, h2, h3])
                rw [h1] at c1
                rw [h2] at c2
                rw [h3] at c3
                clear oi ok hne h1 h2 h3 NO
                go_wp2_with (at_builtin; refine wpList_append_own _ rfl _ _ 35 rfl w.heap.size 37 i0 (.agg #[.int .i64 0, .int .i64 0]) 2 16 Try.underlying35 hi hz0 hz1 hz2 rfl (by decide) _ _ _ rfl (hown.alloc _) ⟨wr.heap.size, 0, none⟩ 1 1 [.int .i64 (i : Int), .int .i64 (k : Int)] rfl rfl ?c1 ?c2 ?c3 ?c4 ?c5 ?_)
                case c1 => exact cells_new _ _ _
                case c2 => intro u hu; simp at hu; rcases hu with rfl | rfl <;> rfl
                case c3 => unfold maxLen; omega
                case c4 => omega
                case c5 => have := hnx.size; simp; omega
                intro v' w1 hown' hgrow _
                have hb1 : Below w.heap.size w w1 := (hnx.alloc hnx.size _).grown hgrow (by have := hnx.size; simp; omega) (own_base hown)
                go_wp2
                go_roundw
                case rel => exact ⟨_, k + 1, by omega, rfl, by go_num, by rw [e1.out, pairV_snoc, List.length_append]; exact hown', hb1⟩
                case measure => simp [intOf]; omega
              · rw [h1] at c1
                rw [h2] at c2
                rw [h3] at c3
                have hd : Hid (s.dueB (i, k) = false) := by show _ = _; simp [WS.dueB, WS.runs, WS.knows, oi, ok, h1, h2, h3]
                clear oi ok hown
                go_wp2
                go_roundw
                case rel => exact ⟨_, k + 1, by omega, rfl, by go_num, NO.out hd.out, hnx⟩
                case measure => simp [intOf]; omega
          · rw [h1] at c1
            have hd : Hid (s.dueB (i, k) = false) := by show _ = _; simp [WS.dueB, WS.runs, WS.knows, oi, ok, h1]
            clear oi ok hown
            go_wp2
            go_roundw
            case rel => exact ⟨_, k + 1, by omega, rfl, by go_num, NO.out hd.out, hnx⟩
            case measure => simp [intOf]; omega
        · obtain rfl : k = Nn := by omega
          have hown3 : Hid (wr.ownsRow w.heap.size 37 2 u3 (s.dueF (pairsTo k (i + 1) 0)).length (pairV (s.dueF (pairsTo k (i + 1) 0)))) := by show World.ownsRow _ _ _ _ _ _ _; rw [pairsTo_next]; exact hown
          go_wp2
          go_roundw
          case rel => exact ⟨i + 1, by omega, by go_num, hown3, hnx⟩
          case measure => simp [intOf]; omega
    · obtain rfl : i = Nn := by omega
      have e : Hid (s.due = s.dueF (pairsTo i i 0)) := by show _ = _; unfold WS.due; rw [HN.out]; rfl
      go_wp2
      go_ret
      rw [← e.out] at hown0
      exact ⟨_, rfl, hown0, hnx0⟩
end Go.Proofs.Ythfhigcenmcmaaa
