/- The walks through slices.Clone of bytes and apart. -/
import Derived.Test.YtjfbiifcjiidfaaB
namespace Go.Proofs.Ytjfbiifcjiidfaa
open Go.RowKit

theorem info_byte : (Try.prog.info? 5).map (fun i => (i.zero, i.size, i.bytes)) = some (some (.int .u8 0), 1, 1) := by kernel_rfl
theorem bytes_nil (n c : Nat) (w : World) : (Go.binOp .eql 30 (.slice none n c) (.slice none 0 0)).run Try.prog w = .ok (.bool true) w := by kernel_rfl
theorem bytes_some (a : Addr) (n c : Nat) (w : World) : (Go.binOp .eql 30 (.slice (some a) n c) (.slice none 0 0)).run Try.prog w = .ok (.bool false) w := by kernel_rfl
set_option maxHeartbeats 1000000 in
theorem clone_bytes (A : Option Addr) (n c : Nat) (xs : List Value) (w : World) (h : Rd w (.slice A n c) n xs) (hx : xs.length = n) (hn : n ≤ 1000000) (h1 : ∀ u ∈ xs, u.oneCell' = true) :
    Calls Try.prog 33 #[.slice A n c] w fun e w' => ∃ v', e = .returned v' ∧ w'.ownsRow w.heap.size 5 1 v' n xs ∧ Below w.heap.size w w' := by
  obtain ⟨i0, hi, hz0, hz1, hz2⟩ := info_parts info_byte
  cases A with
  | none =>
    have hn0 : n = 0 ∧ xs = [] := by
      rcases h with ⟨h0, h1, _⟩ | ⟨g, o, c', he, _⟩
      · exact ⟨h0, h1⟩
      · cases he
    obtain ⟨rfl, rfl⟩ := hn0
    have hnl := bytes_nil 0 c
    clear h
    go_enter Try.func33, Try.ntmps33
    go_wp2
    go_ret
    exact ⟨_, rfl, World.ownsRow_nil _ _ _ _, Below.refl _ _⟩
  | some a =>
    have hcell : ∀ j u, xs[j]? = some u → (w.alloc (.cells #[] 5)).cell? (a.add j) = some u := by
      intro j u hu
      rcases h with ⟨_, h1, _⟩ | ⟨g, o, c', he, hg, hc⟩
      · rw [h1] at hu; cases hu
      · cases he
        have h2 := (((Below.refl _ w).alloc (Nat.le_refl _) (.cells #[] 5)).cell (p := ⟨g, o + j, none⟩) hg).trans (hc j u hu)
        unfold Addr.add
        split
        · rename_i h0; subst h0; exact h2
        · exact h2
    have hown := World.ownsRow_made (base := w.heap.size) (e := 5) (size := 1) w #[] 0 (Nat.le_refl _) (by unfold maxLen; omega) rfl
    clear h
    have hnl := bytes_some a n c
    go_enter Try.func33, Try.ntmps33
    go_wp2_with (at_builtin; refine wpList_append_own _ rfl _ _ 30 rfl w.heap.size 5 i0 (.int .u8 0) 1 1 Try.underlying30 hi hz0 hz1 hz2 rfl (by decide) _ _ _ rfl hown a n c xs rfl (by omega) hcell h1 ?c3 ?c4 ?c5 ?_)
    case c3 => unfold maxLen; omega
    case c4 => omega
    case c5 => simp
    intro v' w1 hown' hgrow _
    have hb1 : Below w.heap.size w w1 := ((Below.refl _ w).alloc (Nat.le_refl _) _).grown hgrow (by simp) (own_base hown)
    obtain ⟨A2, c2, rfl, _⟩ := own_slice hown'
    go_wp2
    go_ret
    exact ⟨_, rfl, by simpa using hown', hb1⟩

set_option maxHeartbeats 1000000 in
theorem apart_any (f t : Int) (A : Option Addr) (n c : Nat) (xs : List Value) (w : World) (h : Rd w (.slice A n c) n xs) (hx : xs.length = n) (hn : n ≤ 1000000) (h1 : ∀ u ∈ xs, u.oneCell' = true) :
    Calls Try.prog 31 #[.agg #[.int .i64 f, .int .i64 t, .slice A n c]] w fun e w' => ∃ v', e = .returned (.agg #[.int .i64 f, .int .i64 t, v']) ∧ w'.ownsRow w.heap.size 5 1 v' n xs ∧ Below w.heap.size w w' := by
  go_enter Try.func31, Try.ntmps31
  go_wp2_with (fail)
  have hbb : Below w.heap.size w ((w.alloc (.cells #[.int .i64 f, .int .i64 t, .slice A n c] 37)).alloc (.cells #[.int .i64 0, .int .i64 0, .slice none 0 0] 37)) := ((Below.refl _ w).alloc (Nat.le_refl _) _).alloc (by simp) _
  refine (clone_bytes A n c xs _ (h.below hbb) hx hn h1).mono ?_
  rintro e w1 ⟨v', rfl, hown, hb1⟩
  have P0 := block_kept (block_alloc (alloc_new w (.cells #[.int .i64 f, .int .i64 t, .slice A n c] 37)) (.cells #[.int .i64 0, .int .i64 0, .slice none 0 0] 37)) hb1
  have P1 := block_kept (alloc_new (w.alloc (.cells #[.int .i64 f, .int .i64 t, .slice A n c] 37)) (.cells #[.int .i64 0, .int .i64 0, .slice none 0 0] 37)) hb1
  simp only [World.size_alloc] at P1
  have c0 : w1.cell? ⟨w.heap.size, 0, none⟩ = some (.int .i64 f) := cell_of_block P0 0
  have c1 : w1.cell? ⟨w.heap.size, 1, none⟩ = some (.int .i64 t) := cell_of_block P0 1
  have c2 : w1.cell? ⟨w.heap.size, 2, none⟩ = some (.slice A n c) := cell_of_block P0 2
  have f2 := free_of_block P0 2
  have d0 : w1.cell? ⟨w.heap.size + 1, 0, none⟩ = some (.int .i64 0) := cell_of_block P1 0
  have d1 : w1.cell? ⟨w.heap.size + 1, 1, none⟩ = some (.int .i64 0) := cell_of_block P1 1
  have d2 : w1.cell? ⟨w.heap.size + 1, 2, none⟩ = some (.slice none 0 0) := cell_of_block P1 2
  have g0 := free_of_block P1 0
  have g1 := free_of_block P1 1
  have g2 := free_of_block P1 2
  have hB := hbb.trans (hb1.mono hbb.size)
  have hlow : w1.ownsRow w.heap.size 5 1 v' n xs := own_lower hown hbb.size
  obtain ⟨A2, c2', rfl, _⟩ := own_slice hown
  have hne : ∀ g, (Value.slice A2 n c2').ownBlock = some g → g ≠ w.heap.size ∧ g ≠ w.heap.size + 1 := fun g hg => by
    have := own_base hown g hg
    simp at this
    omega
  replace hown := Lib.hid hown
  replace hB := Lib.hid hB
  replace hlow := Lib.hid hlow
  replace hne := Lib.hid hne
  replace P0 := Lib.hid P0
  replace P1 := Lib.hid P1
  clear hbb hb1 h
  go_wp2_with (fail)
  have hF : Fr (fun k => k = w.heap.size ∨ k = w.heap.size + 1) w1 ((((w1.setCell ⟨w.heap.size, 2, none⟩ (.slice A2 n c2')).setCell ⟨w.heap.size + 1, 0, none⟩ (.int .i64 f)).setCell ⟨w.heap.size + 1, 1, none⟩ (.int .i64 t)).setCell ⟨w.heap.size + 1, 2, none⟩ (.slice A2 n c2')) := ((((Fr.refl _ w1).setCell (p := ⟨w.heap.size, 2, none⟩) (fun _ => .inl rfl) (.slice A2 n c2')).setCell (p := ⟨w.heap.size + 1, 0, none⟩) (fun _ => .inr rfl) (.int .i64 f)).setCell (p := ⟨w.heap.size + 1, 1, none⟩) (fun _ => .inr rfl) (.int .i64 t)).setCell (p := ⟨w.heap.size + 1, 2, none⟩) (fun _ => .inr rfl) (.slice A2 n c2')
  have hR := own_fr hlow.out hF (fun k hk h => by have := hne.out k hk; omega)
  have hB9 := hB.out.trans (hF.below hB.out.size (fun k hk h => by omega))
  have R9 : ((((w1.setCell ⟨w.heap.size, 2, none⟩ (.slice A2 n c2')).setCell ⟨w.heap.size + 1, 0, none⟩ (.int .i64 f)).setCell ⟨w.heap.size + 1, 1, none⟩ (.int .i64 t)).setCell ⟨w.heap.size + 1, 2, none⟩ (.slice A2 n c2')).heap[w.heap.size + 1]? = some (.cells #[.int .i64 f, .int .i64 t, .slice A2 n c2'] 37 (0, 0)) := blk_conv (block_setCell (block_setCell (block_setCell (later_set_other (by omega) P1.out) _) _) _) rfl
  generalize ((((w1.setCell ⟨w.heap.size, 2, none⟩ (.slice A2 n c2')).setCell ⟨w.heap.size + 1, 0, none⟩ (.int .i64 f)).setCell ⟨w.heap.size + 1, 1, none⟩ (.int .i64 t)).setCell ⟨w.heap.size + 1, 2, none⟩ (.slice A2 n c2')) = W9 at hR hB9 R9 ⊢
  have r0 : W9.cell? ⟨w.heap.size + 1, 0, none⟩ = some (.int .i64 f) := cell_of_block R9 0
  have r1 : W9.cell? ⟨w.heap.size + 1, 1, none⟩ = some (.int .i64 t) := cell_of_block R9 1
  have r2 : W9.cell? ⟨w.heap.size + 1, 2, none⟩ = some (.slice A2 n c2') := cell_of_block R9 2
  refine bodyPost_ret (by simp [results, Try.results31, go_sem, r0, r1, r2]) rfl ⟨_, rfl, hR, hB9⟩
end Go.Proofs.Ytjfbiifcjiidfaa
