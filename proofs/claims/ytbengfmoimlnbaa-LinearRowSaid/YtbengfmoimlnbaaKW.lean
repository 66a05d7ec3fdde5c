/- The walk through knows: a Get that misses what was put before it does not fit; one that began as the put ended does. -/
import Derived.Deep.DeepCutAuto
import Derived.Deep.CutBlock
import Derived.Deep.RegionHeld3
import Derived.Deep.RegionLaw
import Derived.Test.YtbengfmoimlnbaaOW
import Derived.Test.YtbengfmoimlnbaaOR
import Derived.Test.YtbengfmoimlnbaaPL
namespace Go.Proofs.Ytbengfmoimlnbaa
open Go.RowKit

def putI : It := ⟨2, 1, 2, false, ⟨#[118]⟩, An.none⟩
def missI (b : Int) : It := ⟨1, b, 4, false, ⟨#[]⟩, An.none⟩
theorem knows_no : okR [putI, missI 3] = false := by
  have e0 : S [putI, missI 3] 1 ⟨1, ⟨#[118]⟩⟩ = none := by
    rw [S_eq]
    simp [left, mustP, itm, List.range, List.range.loop, can, before, aheadP, ahead, putI, missI, fits, doesA, readA, anEq, An.none, Nat.testBit]
  unfold okR
  rw [S_eq]
  simp [left, mustP, itm, List.range, List.range.loop, can, before, aheadP, ahead, putI, missI, fits, doesA, readA, putA, anEq, An.none, Nat.testBit, St.zero]
  refine Eq.trans (congrArg (S _ 1) ?_) e0
  simp [play, doesS, itm, wrap64]
theorem knows_yes : okR [putI, missI 2] = true := by
  unfold okR
  refine S_complete _ [1, 0] 0 _ (by decide) (by intro i hi; simp at hi; rcases hi with rfl | rfl <;> simp) (by intro i hi; simp at hi; simp; omega) ?_ ?_
  · simp [ahead, itm, putI, missI]
  · simp [Chain, fits, itm, missI, putI, play, doesA, readA, putA, doesS, anEq, An.none, St.zero]

theorem rd_new {w : World} {n c : Nat} {vs : List Value} {o : Obj} {t : TypeId} {A : Option Addr} (hA : A = some ⟨w.heap.size, 0, none⟩) (ho : o = .cells vs.toArray t) : Rd (w.alloc o) (.slice A n c) n vs := by
  subst hA ho
  refine .inr ⟨_, 0, c, rfl, by simp, fun j u hj => ?_⟩
  rw [Nat.zero_add, cell_of_block (alloc_new w _)]
  simpa using hj
theorem block_kept {w w' : World} {b : Nat} {o : Obj} (h : w.heap[b]? = some o) (hb : Below w.heap.size w w') : w'.heap[b]? = some o := (hb.block b (lt_of_block h)).trans h
theorem block_alloc {w : World} {b : Nat} {o : Obj} (h : w.heap[b]? = some o) (o' : Obj) : (w.alloc o').heap[b]? = some o := (Below.heap_alloc w o' _ (lt_of_block h)).trans h

set_option maxHeartbeats 1000000 in
theorem knows_any (w : World) : Calls Try.prog 9 #[] w fun e w' => e = .returned (.bool true) ∧ Below w.heap.size w w' := by
  have k1 := Lib.hid knows_no
  have k2 := Lib.hid knows_yes
  go_enter Try.func9, Try.ntmps9
  go_wp2_with (fail)
  have P0 := block_alloc (block_alloc (alloc_new w (.cells #[.int .i64 2, .int .i64 1, .int .i64 2, .bool false, .string ⟨#[118]⟩, .int .i64 0, .bool false, .string ⟨#[]⟩, .int .i64 0] 53)) (.cells #[.int .i64 1, .int .i64 3, .int .i64 4, .bool false, .string ⟨#[]⟩, .int .i64 0, .bool false, .string ⟨#[]⟩, .int .i64 0] 53)) (.cells #[.int .i64 2, .int .i64 1, .int .i64 2, .bool false, .string ⟨#[118]⟩, .int .i64 0, .bool false, .string ⟨#[]⟩, .int .i64 0, .int .i64 1, .int .i64 3, .int .i64 4, .bool false, .string ⟨#[]⟩, .int .i64 0, .bool false, .string ⟨#[]⟩, .int .i64 0] 53)
  have P1 := block_alloc (alloc_new (w.alloc (.cells #[.int .i64 2, .int .i64 1, .int .i64 2, .bool false, .string ⟨#[118]⟩, .int .i64 0, .bool false, .string ⟨#[]⟩, .int .i64 0] 53)) (.cells #[.int .i64 1, .int .i64 3, .int .i64 4, .bool false, .string ⟨#[]⟩, .int .i64 0, .bool false, .string ⟨#[]⟩, .int .i64 0] 53)) (.cells #[.int .i64 2, .int .i64 1, .int .i64 2, .bool false, .string ⟨#[118]⟩, .int .i64 0, .bool false, .string ⟨#[]⟩, .int .i64 0, .int .i64 1, .int .i64 3, .int .i64 4, .bool false, .string ⟨#[]⟩, .int .i64 0, .bool false, .string ⟨#[]⟩, .int .i64 0] 53)
  refine (check_any _ 2 [putI, missI 3] _ (rd_new (by simp) rfl) (by decide)).mono ?_
  rintro e w1 ⟨rfl, hb1⟩
  have Q0 := block_kept P0 hb1
  have Q1 := block_kept P1 hb1
  have hs1 := hb1.size
  have hB : Below w.heap.size w w1 := (((Below.refl _ w).alloc (Nat.le_refl _) _).alloc (by simp) _ |>.alloc (by simp <;> omega) _).trans (hb1.mono (by simp <;> omega))
  clear P0 P1 hb1
  simp only [World.size_alloc] at Q0 Q1 hs1
  rw [k1.out]
  have hf1 : w1.frozen? ⟨w.heap.size + 1, 1, none⟩ = false := free_of_block Q1 1
  have c0 : w1.cell? ⟨w.heap.size, 0, none⟩ = some (.int .i64 2) := cell_of_block Q0 0
  have c1 : w1.cell? ⟨w.heap.size, 1, none⟩ = some (.int .i64 1) := cell_of_block Q0 1
  have c2 : w1.cell? ⟨w.heap.size, 2, none⟩ = some (.int .i64 2) := cell_of_block Q0 2
  have c3 : w1.cell? ⟨w.heap.size, 3, none⟩ = some (.bool false) := cell_of_block Q0 3
  have c4 : w1.cell? ⟨w.heap.size, 4, none⟩ = some (.string ⟨#[118]⟩) := cell_of_block Q0 4
  have c5 : w1.cell? ⟨w.heap.size, 5, none⟩ = some (.int .i64 0) := cell_of_block Q0 5
  have c6 : w1.cell? ⟨w.heap.size, 6, none⟩ = some (.bool false) := cell_of_block Q0 6
  have c7 : w1.cell? ⟨w.heap.size, 7, none⟩ = some (.string ⟨#[]⟩) := cell_of_block Q0 7
  have c8 : w1.cell? ⟨w.heap.size, 8, none⟩ = some (.int .i64 0) := cell_of_block Q0 8
  have d0 : w1.cell? ⟨w.heap.size + 1, 0, none⟩ = some (.int .i64 1) := cell_of_block Q1 0
  have d1 : w1.cell? ⟨w.heap.size + 1, 1, none⟩ = some (.int .i64 3) := cell_of_block Q1 1
  have d2 : w1.cell? ⟨w.heap.size + 1, 2, none⟩ = some (.int .i64 4) := cell_of_block Q1 2
  have d3 : w1.cell? ⟨w.heap.size + 1, 3, none⟩ = some (.bool false) := cell_of_block Q1 3
  have d4 : w1.cell? ⟨w.heap.size + 1, 4, none⟩ = some (.string ⟨#[]⟩) := cell_of_block Q1 4
  have d5 : w1.cell? ⟨w.heap.size + 1, 5, none⟩ = some (.int .i64 0) := cell_of_block Q1 5
  have d6 : w1.cell? ⟨w.heap.size + 1, 6, none⟩ = some (.bool false) := cell_of_block Q1 6
  have d7 : w1.cell? ⟨w.heap.size + 1, 7, none⟩ = some (.string ⟨#[]⟩) := cell_of_block Q1 7
  have d8 : w1.cell? ⟨w.heap.size + 1, 8, none⟩ = some (.int .i64 0) := cell_of_block Q1 8
  replace Q0 := Lib.hid Q0
  replace Q1 := Lib.hid Q1
  go_wp2_with (fail)
  refine (check_any _ 2 [putI, missI 2] _ (rd_new (by simp) rfl) (by decide)).mono ?_
  rintro e w2 ⟨rfl, hb2⟩
  have hB2 : Below w.heap.size w w2 := ((hB.setCell (p := ⟨w.heap.size + 1, 1, none⟩) (by simp) _).alloc (by simp; omega) _).trans (hb2.mono (by simp; omega))
  rw [k2.out]
  clear k1 k2
  go_wp2_with (go_at_call 14; refine (num_any _ _).mono ?_; rintro e w' ⟨rfl, rfl⟩)
  go_ret
  exact ⟨rfl, hB2⟩
end Go.Proofs.Ytbengfmoimlnbaa
