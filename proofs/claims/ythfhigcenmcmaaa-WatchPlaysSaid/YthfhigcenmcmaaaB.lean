/- The watch of nodes as plain data, and its block of cells. -/
import Derived.Test.YthfhigcenmcmaaaRows
import Derived.Test.YthfhigcenmcmaaaG
namespace Go.Proofs.Ythfhigcenmcmaaa
open Go.RowKit

/-! ### the watch as data -/
structure WS where
  N : Int
  st : Nat → Bool
  td : Nat → Nat → Bool
  la : Nat → Int

def WS.ok (s : WS) (n : Int) : Prop := 0 ≤ n ∧ n < s.N
instance (s : WS) (n : Int) : Decidable (s.ok n) := inferInstanceAs (Decidable (_ ∧ _))
def WS.wf (s : WS) : Prop := 1 ≤ s.N ∧ s.N ≤ 8
def WS.init (N : Int) : WS := ⟨N, fun _ => false, fun _ _ => false, fun _ => 0⟩
def WS.stop (s : WS) (n : Nat) : WS := { s with st := fun i => if i = n then true else s.st i }
def WS.tell (s : WS) (n k : Nat) : WS := { s with td := fun i j => if i = n ∧ j = k then true else s.td i j }
def WS.hear (s : WS) (n : Nat) (t : Int) : WS := { s with la := fun i => if i = n then t else s.la i }

def WS.stopR (s : WS) (n : Int) : Int := if s.ok n then (if s.st n.toNat then 4 else 0) else 1
def WS.stopS (s : WS) (n : Int) : WS := if s.ok n ∧ s.st n.toNat = false then s.stop n.toNat else s
def WS.runs (s : WS) (n : Int) : Bool := if s.ok n then !s.st n.toNat else false
def WS.knows (s : WS) (a b : Int) : Bool := if s.ok a ∧ s.ok b then s.td a.toNat b.toNat else false
def WS.tellR (s : WS) (a b : Int) : Int :=
  if s.ok a ∧ s.ok b ∧ a ≠ b then (if s.st b.toNat then (if s.st a.toNat then 43 else if s.td a.toNat b.toNat then 4 else 0) else 40) else 1
def WS.tellS (s : WS) (a b : Int) : WS := if s.tellR a b = 0 then s.tell a.toNat b.toNat else s
def WS.hearR (s : WS) (n t : Int) : Int := if s.ok n ∧ ¬ t < s.la n.toNat then 0 else 1
def WS.hearS (s : WS) (n t : Int) : WS := if s.ok n ∧ ¬ t < s.la n.toNat then s.hear n.toNat t else s
def WS.quiet (s : WS) (n now most : Int) : Bool := if s.ok n ∧ s.la n.toNat < now then decide (most < wrap64 (now - s.la n.toNat)) else false

theorem WS.ok_lt {s : WS} {n : Int} (hw : s.wf) (h : s.ok n) : n.toNat < 8 := by unfold WS.ok at h; unfold WS.wf at hw; omega

def WS.runL (s : WS) (k : Nat) : List Nat := (List.range k).filter fun i => s.runs (i : Int)
theorem WS.runL_yes {s : WS} {k : Nat} (h : s.runs (k : Int) = true) : s.runL (k + 1) = s.runL k ++ [k] := by
  simp [WS.runL, List.range_succ, List.filter_append, h]
theorem WS.runL_no {s : WS} {k : Nat} (h : s.runs (k : Int) = false) : s.runL (k + 1) = s.runL k := by
  simp [WS.runL, List.range_succ, List.filter_append, h]
theorem WS.runL_le (s : WS) (k : Nat) : (s.runL k).length ≤ k := by
  have := List.length_filter_le (fun i : Nat => s.runs (i : Int)) (List.range k)
  simpa [WS.runL] using this
def intV (l : List Nat) : List Value := l.map fun (i : Nat) => Value.int .i64 (Int.ofNat i)

/-! ### the program's block: number, then ten cells a node -/
def cellW (s : WS) (i : Nat) : Value :=
  if i = 0 then .int .i64 s.N else if (i - 1) % 10 = 0 then .bool (s.st ((i - 1) / 10)) else if (i - 1) % 10 = 9 then .int .i64 (s.la ((i - 1) / 10)) else .bool (s.td ((i - 1) / 10) ((i - 1) % 10 - 1))

structure IsW (w : World) (b : Nat) (s : WS) : Prop where
  wf : s.wf
  at_ : w.heap[b]? = some (.cells (Array.ofFn (n := 81) fun i => cellW s i) 53 (0, 0))

namespace IsW
variable {w : World} {b : Nat} {s : WS}
theorem cell (h : IsW w b s) (i : Nat) (hi : i < 81) : w.cell? ⟨b, i, none⟩ = some (cellW s i) := by
  rw [cell_of_block h.at_]; simp [hi]
theorem n (h : IsW w b s) : w.cell? ⟨b, 0, none⟩ = some (.int .i64 s.N) := h.cell 0 (by omega)
theorem st (h : IsW w b s) (n : Nat) (hn : n < 8) : w.cell? ⟨b, 1 + n * 10, none⟩ = some (.bool (s.st n)) := by
  rw [h.cell _ (by omega)]; unfold cellW
  rw [if_neg (by omega), if_pos (by omega), show (1 + n * 10 - 1) / 10 = n by omega]
theorem td (h : IsW w b s) (n k : Nat) (hn : n < 8) (hk : k < 8) : w.cell? ⟨b, 1 + n * 10 + 1 + k, none⟩ = some (.bool (s.td n k)) := by
  rw [h.cell _ (by omega)]; unfold cellW
  rw [if_neg (by omega), if_neg (by omega), if_neg (by omega), show (1 + n * 10 + 1 + k - 1) / 10 = n by omega, show (1 + n * 10 + 1 + k - 1) % 10 - 1 = k by omega]
theorem la (h : IsW w b s) (n : Nat) (hn : n < 8) : w.cell? ⟨b, 1 + n * 10 + 9, none⟩ = some (.int .i64 (s.la n)) := by
  rw [h.cell _ (by omega)]; unfold cellW
  rw [if_neg (by omega), if_neg (by omega), if_pos (by omega), show (1 + n * 10 + 9 - 1) / 10 = n by omega]
theorem free (h : IsW w b s) (i : Nat) : w.frozen? ⟨b, i, none⟩ = false := free_of_block h.at_ i
theorem ok_lt' (h : IsW w b s) {n : Int} (hn : s.ok n) : n.toNat < 8 := WS.ok_lt h.wf hn
theorem lt (h : IsW w b s) : b < w.heap.size := (Array.getElem?_eq_some_iff.1 h.at_).1
theorem fr {S : Nat → Prop} {w' : World} (h : IsW w b s) (hf : Fr S w w') (hS : ¬ S b) : IsW w' b s := ⟨h.wf, (hf.block b h.lt hS).trans h.at_⟩
theorem set {s' : WS} (h : IsW w b s) (i : Nat) (v : Value) (hwf : s'.wf) (h1 : cellW s' i = v) (h2 : ∀ j, j < 81 → j ≠ i → cellW s' j = cellW s j) : IsW (w.setCell ⟨b, i, none⟩ v) b s' :=
  ⟨hwf, by rw [block_setCell h.at_, set_ofFn _ (cellW s') i v h1 h2]⟩
theorem stop (h : IsW w b s) (n : Nat) (hn : n < 8) : IsW (w.setCell ⟨b, 1 + n * 10, none⟩ (.bool true)) b (s.stop n) := by
  refine h.set _ _ h.wf ?_ ?_
  · unfold cellW WS.stop
    rw [if_neg (by omega), if_pos (by omega), show (1 + n * 10 - 1) / 10 = n by omega]; simp
  · intro j hj hne
    unfold cellW WS.stop
    by_cases e0 : j = 0
    · simp [e0]
    · by_cases e1 : (j - 1) % 10 = 0
      · rw [if_neg e0, if_neg e0, if_pos e1, if_pos e1]
        simp only
        rw [if_neg (by omega)]
      · rw [if_neg e0, if_neg e0, if_neg e1, if_neg e1]
theorem tell (h : IsW w b s) (n k : Nat) (hn : n < 8) (hk : k < 8) : IsW (w.setCell ⟨b, 1 + n * 10 + 1 + k, none⟩ (.bool true)) b (s.tell n k) := by
  refine h.set _ _ h.wf ?_ ?_
  · unfold cellW WS.tell
    rw [if_neg (by omega), if_neg (by omega), if_neg (by omega), show (1 + n * 10 + 1 + k - 1) / 10 = n by omega, show (1 + n * 10 + 1 + k - 1) % 10 - 1 = k by omega]; simp
  · intro j hj hne
    unfold cellW WS.tell
    by_cases e0 : j = 0
    · simp [e0]
    · by_cases e1 : (j - 1) % 10 = 0
      · rw [if_neg e0, if_neg e0, if_pos e1, if_pos e1]
      · by_cases e2 : (j - 1) % 10 = 9
        · rw [if_neg e0, if_neg e0, if_neg e1, if_neg e1, if_pos e2, if_pos e2]
        · rw [if_neg e0, if_neg e0, if_neg e1, if_neg e1, if_neg e2, if_neg e2]
          simp only
          rw [if_neg (by omega)]
theorem hear (h : IsW w b s) (n : Nat) (t : Int) (hn : n < 8) : IsW (w.setCell ⟨b, 1 + n * 10 + 9, none⟩ (.int .i64 t)) b (s.hear n t) := by
  refine h.set _ _ h.wf ?_ ?_
  · unfold cellW WS.hear
    rw [if_neg (by omega), if_neg (by omega), if_pos (by omega), show (1 + n * 10 + 9 - 1) / 10 = n by omega]; simp
  · intro j hj hne
    unfold cellW WS.hear
    by_cases e0 : j = 0
    · simp [e0]
    · by_cases e1 : (j - 1) % 10 = 0
      · rw [if_neg e0, if_neg e0, if_pos e1, if_pos e1]
      · by_cases e2 : (j - 1) % 10 = 9
        · rw [if_neg e0, if_neg e0, if_neg e1, if_neg e1, if_pos e2, if_pos e2]
          simp only
          rw [if_neg (by omega)]
        · rw [if_neg e0, if_neg e0, if_neg e1, if_neg e1, if_neg e2, if_neg e2]
end IsW
end Go.Proofs.Ythfhigcenmcmaaa
