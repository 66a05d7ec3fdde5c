/- The iterator over all pairs of two nodes: what it hands to its body, in which order. -/
import Derived.RangeFuncNested
import Derived.RangeFuncBound
import Derived.RangeFuncCalls
import Derived.RangeFuncLeaves
import Derived.RangeFuncBox
import Derived.Shelf.Abstract
import Derived.Shelf.RegionOpen
import Derived.OwnWalkIn
import Derived.TacticsInMore
import Derived.LoopNIn
import Derived.LoopIn
import Derived.Test.YthfhigcenmcmaaaW
namespace Go.Proofs.Ythfhigcenmcmaaa
open Go.RowKit Go.Shelf
attribute [local go_sem] Oper.semAt_some

theorem wpIn_scope_wide {n : Nat} {P : Program} {c : Code} {Q : Exit → Act → World → Prop} {a : Act} {w : World} (h : c.wpIn Fence.wide n P (Exit.noGoto Q) a w) : (Code.scope c).wpIn Fence.wide n P Q a w :=
  wpIn_wide.2 (wp_scope_straight ((wpIn_wide (n := n)).1 h))

def pairsTo (N i k : Nat) : List (Nat × Nat) :=
  (List.range i).flatMap (fun a => ((List.range N).filter fun c => decide (c ≠ a)).map fun c => (a, c)) ++ ((List.range k).filter fun c => decide (c ≠ i)).map fun c => (i, c)
theorem pairsTo_ne {N i k : Nat} (h : k ≠ i) : pairsTo N i (k + 1) = pairsTo N i k ++ [(i, k)] := by
  simp [pairsTo, List.range_succ, List.filter_append, h]
theorem pairsTo_eq {N i : Nat} : pairsTo N i (i + 1) = pairsTo N i i := by
  simp [pairsTo, List.range_succ, List.filter_append]
theorem pairsTo_next {N i : Nat} : pairsTo N (i + 1) 0 = pairsTo N i N := by
  simp [pairsTo, List.range_succ, List.flatMap_append]
theorem pairsTo_zero {N : Nat} : pairsTo N 0 0 = [] := by simp [pairsTo]
theorem pairsTo_len (N i k : Nat) : (pairsTo N i k).length ≤ i * N + k := by
  induction i generalizing k with
  | zero =>
    have := List.length_filter_le (fun c => decide (c ≠ 0)) (List.range k)
    simp only [List.length_range] at this
    simp only [pairsTo, List.range_zero, List.flatMap_nil, List.nil_append, List.length_map]; omega
  | succ i ih =>
    have h1 := ih N
    have h2 := List.length_filter_le (fun c => decide (c ≠ (i + 1))) (List.range k)
    simp only [List.length_range] at h2
    rw [← pairsTo_next] at h1
    have : (pairsTo N (i + 1) k).length = (pairsTo N (i + 1) 0).length + ((List.range k).filter fun c => decide (c ≠ (i + 1))).length := by
      simp [pairsTo]
    rw [this, Nat.add_mul]; omega

abbrev encP (p : Nat × Nat) : Array Value := #[.int .i64 (p.1 : Int), .int .i64 (p.2 : Int)]
def Kp2 (b B : Nat) (W W' : World) : Prop := W'.heap[b]? = W.heap[b]? ∧ W'.heap[B]? = W.heap[B]?

set_option maxRecDepth 100000 in
set_option maxHeartbeats 1000000 in
theorem pairs1_in (n : Nat) (l Bp b Nn : Nat) (s : WS) (hN : s.N = (Nn : Int)) (J Jx : List (Nat × Nat) → World → Prop)
    (hY : ∀ pre x W, J pre W → pre.length < 64 → YieldAt Fence.wide (n - 1) Try.prog l (encP x) W fun e W' =>
      (e = .returned (.bool true) ∧ J (pre ++ [x]) W' ∧ Kp2 b Bp W W') ∨ (e = .returned (.bool false) ∧ Jx (pre ++ [x]) W'))
    (W : World) (hB : W.heap[Bp]? = some (.cells #[.pointer (some ⟨b, 0, none⟩)] 24 (0, 0))) (hw : IsW W b s) (h0 : J [] W) :
    CallsIn Fence.wide n Try.prog 31 #[.func (.yield l) #[] #[], .pointer (some ⟨Bp, 0, none⟩)] W fun e W' => (∃ v, e = .returned v) ∧
      ((∃ ys, ys = pairsTo Nn Nn 0 ∧ J ys W') ∨ (∃ pre, True ∧ Jx pre W')) := by
  have hN8 : Nn ≤ 8 := by have := hw.wf.2; omega
  have HN := Lib.hid hN
  have HB := Lib.hid hB
  have Hw := Lib.hid hw
  have hb1 := cell_of_block hB 0
  have hn1 := hw.n
  rw [hN] at hn1
  simp only [List.getElem?_toArray, List.getElem?_cons_zero] at hb1
  clear hN hB hw
  refine callsIn_of_wp Try.func31 rfl trivial ?_ rfl
  simp only [Try.ntmps31, List.size_toArray, List.length_cons, List.length_nil, Nat.reduceAdd, Nat.reduceSub, Array.replicate_succ, Array.replicate_zero, List.push_toArray, List.append_toArray, List.nil_append, List.cons_append]
  gi_wp2
  refine wpIn_scope_wide ?_
  gi_wp2
  refine wpIn_label ?_
  gi_wp2
  gi_loopw [3, 4, 11, 14, 15, 16, 17, 18] (fun _ _ i _ _ _ _ _ wr => ∃ k : Nat, k ≤ Nn ∧ i = .int .i64 k ∧ J (pairsTo Nn k 0) wr ∧ Hid (Kp2 b Bp W wr))
    (fun _ _ i _ _ _ _ _ _ => Nn - (intOf i).toNat)
  case atStart => exact ⟨0, Nat.zero_le _, rfl, by rw [pairsTo_zero]; exact h0, ⟨rfl, rfl⟩⟩
  case round =>
    obtain ⟨i, hi, rfl, hJ, HK⟩ := hrel
    by_cases hlt : i < Nn
    · have HBr := Lib.hid (HK.out.2.trans HB.out)
      have Hwr : Hid (IsW wr b s) := ⟨Hw.out.wf, HK.out.1.trans Hw.out.at_⟩
      have hb2 := cell_of_block HBr.out 0
      have hn2 := Hwr.out.n
      rw [HN.out] at hn2
      simp only [List.getElem?_toArray, List.getElem?_cons_zero] at hb2
      gi_wp2
      gi_loopw [4, 18] (fun _ i2 wr2 => ∃ k : Nat, k ≤ Nn ∧ i2 = .int .i64 k ∧ J (pairsTo Nn i k) wr2 ∧ Hid (Kp2 b Bp W wr2))
        (fun _ i2 _ => Nn - (intOf i2).toNat)
      case atStart => exact ⟨0, Nat.zero_le _, rfl, hJ, HK⟩
      case round =>
        obtain ⟨k, hk, rfl, hJ2, HK2⟩ := hrel
        by_cases hlt2 : k < Nn
        · by_cases he : k = i
          · have hne : ((i : Int) != (k : Int)) = false := by rw [he]; simp
            have hJ3 : Hid (J (pairsTo Nn i (k + 1)) wr) := by subst he; show J _ _; rw [pairsTo_eq]; exact hJ2
            gi_wp2
            refine ⟨fun _ h => (by cases h), ?_⟩
            gi_wp2
            go_roundw
            case rel => exact ⟨k + 1, by omega, by go_num, hJ3, HK2⟩
            case measure => simp [intOf]; omega
          · have hne : ((i : Int) != (k : Int)) = true := by rw [bne_iff_ne]; omega
            have hJ4 : ∀ wx, J (pairsTo Nn i k ++ [(i, k)]) wx → Hid (J (pairsTo Nn i (k + 1)) wx) := fun wx h => by show J _ _; rw [pairsTo_ne he]; exact h
            obtain ⟨fn, tmps, assign, body, hy, hR⟩ := hY _ (i, k) _ hJ2 (by
              have h1 := pairsTo_len Nn i k
              have h2 : i * Nn ≤ 7 * Nn := Nat.mul_le_mul_right _ (by omega)
              omega)
            dsimp only [encP] at hy
            have HJ4 := Lib.hid hJ4
            clear hJ4
            gi_wp2
            refine ⟨fun h => (by cases h), hR.mono ?_⟩
            rintro e W3 (⟨rfl, hJ3, hk3⟩ | ⟨rfl, hJx3⟩)
            · have HK3 : Hid (Kp2 b Bp W W3) := ⟨hk3.1.trans HK2.out.1, hk3.2.trans HK2.out.2⟩
              have hJ5 := HJ4.out _ hJ3
              clear hk3
              gi_wp2
              go_roundw
              case rel => exact ⟨k + 1, by omega, by go_num, hJ5, HK3⟩
              case measure => simp [intOf]; omega
            · gi_wp2
              rw [Exit.noGoto_normal]
              go_end0
              exact ⟨⟨_, rfl⟩, .inr ⟨_, trivial, hJx3⟩⟩
        · obtain rfl : k = Nn := by omega
          have hJ3 : Hid (J (pairsTo k (i + 1) 0) wr) := by show J _ _; rw [pairsTo_next]; exact hJ2
          gi_wp2
          go_roundw
          case rel => exact ⟨i + 1, by omega, by go_num, hJ3, HK2⟩
          case measure => simp [intOf]; omega
    · obtain rfl : i = Nn := by omega
      gi_wp2
      rw [Exit.noGoto_normal]
      go_end0
      exact ⟨⟨_, rfl⟩, .inl ⟨_, rfl, hJ⟩⟩
end Go.Proofs.Ythfhigcenmcmaaa
