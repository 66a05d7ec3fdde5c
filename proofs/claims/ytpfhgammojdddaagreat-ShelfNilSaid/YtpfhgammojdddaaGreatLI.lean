/- Light asked of one. -/
import Derived.Deep.DeepCutAuto
import Derived.Deep.CutBlock
import Derived.Deep.RegionHeld3
import Derived.Deep.RegionLaw
import Derived.StillTailTactics
import Derived.Laws.EntriesVeiled
import Derived.Test.YtpfhgammojdddaaGreatCK
import Derived.Test.YtpfhgammojdddaaGreatHX
import Derived.Test.YtpfhgammojdddaaGreatX1
namespace Go.Proofs.YtpfhgammojdddaaGreat
open Go.RowKit

def bigOne (s1 s2 : ByteArray) : Bool := decide ((300 : Int) < IntKind.i64.wrap ((s1.size : Int) + s2.size))
set_option linter.unusedSimpArgs false in
theorem light_one (w : World) (g c : Nat) (s1 s2 : ByteArray) (cur : Array Value) (e : TypeId) (hb : w.heap[g]? = some (.cells cur e (0, 0))) (h1 : cur[3]? = some (.string s1)) (h2 : cur[4]? = some (.string s2)) :
    Calls Tryz.prog 9 #[.slice (some ⟨g, 0, none⟩) 1 c] w fun e w' => e = .returned (.bool (!bigOne s1 s2)) ∧ Below w.heap.size w w' := by
  have hg := lt_of_block hb
  have c1 : w.cell? ⟨g, 3, none⟩ = some (.string s1) := by rw [cell_of_block hb]; exact h1
  have c2 : w.cell? ⟨g, 4, none⟩ = some (.string s2) := by rw [cell_of_block hb]; exact h2
  clear hb h1 h2
  replace c1 := Lib.hid c1
  replace c2 := Lib.hid c2
  go_enter Tryz.func9, Tryz.ntmps9
  go_wp2
  go_loopw [3] (fun i wr => ∃ k : Nat, k ≤ 1 ∧ (k = 1 → bigOne s1 s2 = false) ∧ i = .int .i64 k ∧ Hid (Below w.heap.size w wr)) (fun i _ => 100 - (intOf i).toNat)
  case atStart => exact ⟨0, Nat.zero_le _, by omega, rfl, Lib.hid (Below.refl _ _)⟩
  case round =>
    obtain ⟨k, hk, hk2, rfl, HB⟩ := hrel
    by_cases hlt : k = 0
    · subst hlt
      have r2 : wr.cell? ⟨g, 3, none⟩ = some (.string s1) := (HB.out.cell (p := ⟨g, 3, none⟩) hg).trans c1.out
      have r3 : wr.cell? ⟨g, 4, none⟩ = some (.string s2) := (HB.out.cell (p := ⟨g, 4, none⟩) hg).trans c2.out
      have HS : Hid (wr.drew.cell? ⟨g, 3, none⟩ = some (.string s1) ∧ wr.drew.cell? ⟨g, 4, none⟩ = some (.string s2)) := Lib.hid ⟨r2, r3⟩
      cases hbig : decide ((300 : Int) < IntKind.i64.wrap ((s1.size : Int) + s2.size))
      · go_upto_region 4 with (fail)
        refine region_x (fun W' => W'.cell? ⟨g, 3, none⟩ = some (.string s1) ∧ W'.cell? ⟨g, 4, none⟩ = some (.string s2)) 13 (by kernel_rfl) ?_
        -- 0: Op.move (Operand.tmp 0)
        apply x_take (i := 0) [12, 5, 4, 3, 2, 0] rfl (by kernel_rfl) (fun _ _ _ h => h) HS.out
        · refine .inl ⟨rfl, fun W' hS => ?_⟩
          obtain ⟨s0, s1⟩ := hS; go_simp <;> with_reducible rfl
        try simp only [Act.put, List.setIfInBounds_toArray, List.set_cons_zero, List.set_cons_succ, List.getElem_toArray, List.getElem_cons_zero, List.getElem_cons_succ]
        -- 1: Op.move (Operand.tmp 3)
        apply x_take (i := 1) [12, 5, 4, 3, 2, 1] rfl (by kernel_rfl) (fun _ _ _ h => h) HS.out
        · refine .inl ⟨rfl, fun W' hS => ?_⟩
          obtain ⟨s0, s1⟩ := hS; go_simp <;> with_reducible rfl
        try simp only [Act.put, List.setIfInBounds_toArray, List.set_cons_zero, List.set_cons_succ, List.getElem_toArray, List.getElem_cons_zero, List.getElem_cons_succ]
        -- 2: Op.indexAddr 24 (Operand.tmp 14) (Operand.tmp 15)
        apply x_take (i := 2) [12, 5, 4, 3, 2] rfl (by kernel_rfl) (fun _ _ _ h => h) HS.out
        · refine .inl ⟨rfl, fun W' hS => ?_⟩
          obtain ⟨s0, s1⟩ := hS; go_simp <;> with_reducible rfl
        try simp only [Act.put, List.setIfInBounds_toArray, List.set_cons_zero, List.set_cons_succ, List.getElem_toArray, List.getElem_cons_zero, List.getElem_cons_succ]
        -- 3: Op.fieldAddr 72 (Operand.tmp 16) 2
        apply x_take (i := 3) [12, 5, 4, 3] rfl (by kernel_rfl) (fun _ _ _ h => h) HS.out
        · refine .inl ⟨rfl, fun W' hS => ?_⟩
          obtain ⟨s0, s1⟩ := hS; go_simp <;> with_reducible rfl
        try simp only [Act.put, List.setIfInBounds_toArray, List.set_cons_zero, List.set_cons_succ, List.getElem_toArray, List.getElem_cons_zero, List.getElem_cons_succ]
        -- 4: Op.load 9 (Operand.tmp 17)
        apply x_take (i := 4) [12, 5, 4] rfl (by kernel_rfl) (fun _ _ _ h => h) HS.out
        · refine .inl ⟨rfl, fun W' hS => ?_⟩
          obtain ⟨s0, s1⟩ := hS; go_simp <;> with_reducible rfl
        try simp only [Act.put, List.setIfInBounds_toArray, List.set_cons_zero, List.set_cons_succ, List.getElem_toArray, List.getElem_cons_zero, List.getElem_cons_succ]
        -- 5: Op.call { callee := Callee.builtin Builtin.len, args := #[Operand.tmp 18], argTypes := #[9] }
        apply x_take (i := 5) [12, 5] rfl (by kernel_rfl) (fun _ _ _ h => h) HS.out
        · refine .inl ⟨rfl, fun W' hS => ?_⟩
          obtain ⟨s0, s1⟩ := hS; go_simp <;> with_reducible rfl
        try simp only [Act.put, List.setIfInBounds_toArray, List.set_cons_zero, List.set_cons_succ, List.getElem_toArray, List.getElem_cons_zero, List.getElem_cons_succ]
        -- 6: Op.move (Operand.tmp 0)
        apply x_take (i := 6) [12, 11, 10, 9, 8, 6] rfl (by kernel_rfl) (fun _ _ _ h => h) HS.out
        · refine .inl ⟨rfl, fun W' hS => ?_⟩
          obtain ⟨s0, s1⟩ := hS; go_simp <;> with_reducible rfl
        try simp only [Act.put, List.setIfInBounds_toArray, List.set_cons_zero, List.set_cons_succ, List.getElem_toArray, List.getElem_cons_zero, List.getElem_cons_succ]
        -- 7: Op.move (Operand.tmp 3)
        apply x_take (i := 7) [12, 11, 10, 9, 8, 7] rfl (by kernel_rfl) (fun _ _ _ h => h) HS.out
        · refine .inl ⟨rfl, fun W' hS => ?_⟩
          obtain ⟨s0, s1⟩ := hS; go_simp <;> with_reducible rfl
        try simp only [Act.put, List.setIfInBounds_toArray, List.set_cons_zero, List.set_cons_succ, List.getElem_toArray, List.getElem_cons_zero, List.getElem_cons_succ]
        -- 8: Op.indexAddr 24 (Operand.tmp 20) (Operand.tmp 21)
        apply x_take (i := 8) [12, 11, 10, 9, 8] rfl (by kernel_rfl) (fun _ _ _ h => h) HS.out
        · refine .inl ⟨rfl, fun W' hS => ?_⟩
          obtain ⟨s0, s1⟩ := hS; go_simp <;> with_reducible rfl
        try simp only [Act.put, List.setIfInBounds_toArray, List.set_cons_zero, List.set_cons_succ, List.getElem_toArray, List.getElem_cons_zero, List.getElem_cons_succ]
        -- 9: Op.fieldAddr 72 (Operand.tmp 22) 3
        apply x_take (i := 9) [12, 11, 10, 9] rfl (by kernel_rfl) (fun _ _ _ h => h) HS.out
        · refine .inl ⟨rfl, fun W' hS => ?_⟩
          obtain ⟨s0, s1⟩ := hS; go_simp <;> with_reducible rfl
        try simp only [Act.put, List.setIfInBounds_toArray, List.set_cons_zero, List.set_cons_succ, List.getElem_toArray, List.getElem_cons_zero, List.getElem_cons_succ]
        -- 10: Op.load 9 (Operand.tmp 23)
        apply x_take (i := 10) [12, 11, 10] rfl (by kernel_rfl) (fun _ _ _ h => h) HS.out
        · refine .inl ⟨rfl, fun W' hS => ?_⟩
          obtain ⟨s0, s1⟩ := hS; go_simp <;> with_reducible rfl
        try simp only [Act.put, List.setIfInBounds_toArray, List.set_cons_zero, List.set_cons_succ, List.getElem_toArray, List.getElem_cons_zero, List.getElem_cons_succ]
        -- 11: Op.call { callee := Callee.builtin Builtin.len, args := #[Operand.tmp 24], argTypes := #[9] }
        apply x_take (i := 11) [12, 11] rfl (by kernel_rfl) (fun _ _ _ h => h) HS.out
        · refine .inl ⟨rfl, fun W' hS => ?_⟩
          obtain ⟨s0, s1⟩ := hS; go_simp <;> with_reducible rfl
        try simp only [Act.put, List.setIfInBounds_toArray, List.set_cons_zero, List.set_cons_succ, List.getElem_toArray, List.getElem_cons_zero, List.getElem_cons_succ]
        -- 12: Op.binOp BinOp.add 3 (Operand.tmp 19) (Operand.tmp 25) 3
        apply x_take (i := 12) [12] rfl (by kernel_rfl) (fun _ _ _ h => h) HS.out
        · refine .inl ⟨rfl, fun W' hS => ?_⟩
          obtain ⟨s0, s1⟩ := hS; go_simp <;> with_reducible rfl
        try simp only [Act.put, List.setIfInBounds_toArray, List.set_cons_zero, List.set_cons_succ, List.getElem_toArray, List.getElem_cons_zero, List.getElem_cons_succ]
        -- EFF 13: slot 27 := Op.binOp BinOp.gtr 3 (Operand.tmp 26) (Operand.const (Value.int IntKind.i64 300)) 3
        refine x_one (i := 13) (by kernel_rfl) rfl rfl (fun K hK => ?_)
        unfold Oper.wp
        go_simp
        refine hK _ _ (.inr rfl) ?_; clear hK K
        try simp only [Act.put, List.setIfInBounds_toArray, List.set_cons_zero, List.set_cons_succ, List.getElem_toArray, List.getElem_cons_zero, List.getElem_cons_succ]
        refine x_done (by kernel_rfl) ?_
        go_wp2
        go_roundw
        case rel => exact ⟨1, by omega, fun _ => hbig, by go_num, Lib.hid HB.out.drew⟩
        case measure => simp [intOf]
      · go_upto_region 4 with (fail)
        refine region_x (fun W' => W'.cell? ⟨g, 3, none⟩ = some (.string s1) ∧ W'.cell? ⟨g, 4, none⟩ = some (.string s2)) 13 (by kernel_rfl) ?_
        -- 0: Op.move (Operand.tmp 0)
        apply x_take (i := 0) [12, 5, 4, 3, 2, 0] rfl (by kernel_rfl) (fun _ _ _ h => h) HS.out
        · refine .inl ⟨rfl, fun W' hS => ?_⟩
          obtain ⟨s0, s1⟩ := hS; go_simp <;> with_reducible rfl
        try simp only [Act.put, List.setIfInBounds_toArray, List.set_cons_zero, List.set_cons_succ, List.getElem_toArray, List.getElem_cons_zero, List.getElem_cons_succ]
        -- 1: Op.move (Operand.tmp 3)
        apply x_take (i := 1) [12, 5, 4, 3, 2, 1] rfl (by kernel_rfl) (fun _ _ _ h => h) HS.out
        · refine .inl ⟨rfl, fun W' hS => ?_⟩
          obtain ⟨s0, s1⟩ := hS; go_simp <;> with_reducible rfl
        try simp only [Act.put, List.setIfInBounds_toArray, List.set_cons_zero, List.set_cons_succ, List.getElem_toArray, List.getElem_cons_zero, List.getElem_cons_succ]
        -- 2: Op.indexAddr 24 (Operand.tmp 14) (Operand.tmp 15)
        apply x_take (i := 2) [12, 5, 4, 3, 2] rfl (by kernel_rfl) (fun _ _ _ h => h) HS.out
        · refine .inl ⟨rfl, fun W' hS => ?_⟩
          obtain ⟨s0, s1⟩ := hS; go_simp <;> with_reducible rfl
        try simp only [Act.put, List.setIfInBounds_toArray, List.set_cons_zero, List.set_cons_succ, List.getElem_toArray, List.getElem_cons_zero, List.getElem_cons_succ]
        -- 3: Op.fieldAddr 72 (Operand.tmp 16) 2
        apply x_take (i := 3) [12, 5, 4, 3] rfl (by kernel_rfl) (fun _ _ _ h => h) HS.out
        · refine .inl ⟨rfl, fun W' hS => ?_⟩
          obtain ⟨s0, s1⟩ := hS; go_simp <;> with_reducible rfl
        try simp only [Act.put, List.setIfInBounds_toArray, List.set_cons_zero, List.set_cons_succ, List.getElem_toArray, List.getElem_cons_zero, List.getElem_cons_succ]
        -- 4: Op.load 9 (Operand.tmp 17)
        apply x_take (i := 4) [12, 5, 4] rfl (by kernel_rfl) (fun _ _ _ h => h) HS.out
        · refine .inl ⟨rfl, fun W' hS => ?_⟩
          obtain ⟨s0, s1⟩ := hS; go_simp <;> with_reducible rfl
        try simp only [Act.put, List.setIfInBounds_toArray, List.set_cons_zero, List.set_cons_succ, List.getElem_toArray, List.getElem_cons_zero, List.getElem_cons_succ]
        -- 5: Op.call { callee := Callee.builtin Builtin.len, args := #[Operand.tmp 18], argTypes := #[9] }
        apply x_take (i := 5) [12, 5] rfl (by kernel_rfl) (fun _ _ _ h => h) HS.out
        · refine .inl ⟨rfl, fun W' hS => ?_⟩
          obtain ⟨s0, s1⟩ := hS; go_simp <;> with_reducible rfl
        try simp only [Act.put, List.setIfInBounds_toArray, List.set_cons_zero, List.set_cons_succ, List.getElem_toArray, List.getElem_cons_zero, List.getElem_cons_succ]
        -- 6: Op.move (Operand.tmp 0)
        apply x_take (i := 6) [12, 11, 10, 9, 8, 6] rfl (by kernel_rfl) (fun _ _ _ h => h) HS.out
        · refine .inl ⟨rfl, fun W' hS => ?_⟩
          obtain ⟨s0, s1⟩ := hS; go_simp <;> with_reducible rfl
        try simp only [Act.put, List.setIfInBounds_toArray, List.set_cons_zero, List.set_cons_succ, List.getElem_toArray, List.getElem_cons_zero, List.getElem_cons_succ]
        -- 7: Op.move (Operand.tmp 3)
        apply x_take (i := 7) [12, 11, 10, 9, 8, 7] rfl (by kernel_rfl) (fun _ _ _ h => h) HS.out
        · refine .inl ⟨rfl, fun W' hS => ?_⟩
          obtain ⟨s0, s1⟩ := hS; go_simp <;> with_reducible rfl
        try simp only [Act.put, List.setIfInBounds_toArray, List.set_cons_zero, List.set_cons_succ, List.getElem_toArray, List.getElem_cons_zero, List.getElem_cons_succ]
        -- 8: Op.indexAddr 24 (Operand.tmp 20) (Operand.tmp 21)
        apply x_take (i := 8) [12, 11, 10, 9, 8] rfl (by kernel_rfl) (fun _ _ _ h => h) HS.out
        · refine .inl ⟨rfl, fun W' hS => ?_⟩
          obtain ⟨s0, s1⟩ := hS; go_simp <;> with_reducible rfl
        try simp only [Act.put, List.setIfInBounds_toArray, List.set_cons_zero, List.set_cons_succ, List.getElem_toArray, List.getElem_cons_zero, List.getElem_cons_succ]
        -- 9: Op.fieldAddr 72 (Operand.tmp 22) 3
        apply x_take (i := 9) [12, 11, 10, 9] rfl (by kernel_rfl) (fun _ _ _ h => h) HS.out
        · refine .inl ⟨rfl, fun W' hS => ?_⟩
          obtain ⟨s0, s1⟩ := hS; go_simp <;> with_reducible rfl
        try simp only [Act.put, List.setIfInBounds_toArray, List.set_cons_zero, List.set_cons_succ, List.getElem_toArray, List.getElem_cons_zero, List.getElem_cons_succ]
        -- 10: Op.load 9 (Operand.tmp 23)
        apply x_take (i := 10) [12, 11, 10] rfl (by kernel_rfl) (fun _ _ _ h => h) HS.out
        · refine .inl ⟨rfl, fun W' hS => ?_⟩
          obtain ⟨s0, s1⟩ := hS; go_simp <;> with_reducible rfl
        try simp only [Act.put, List.setIfInBounds_toArray, List.set_cons_zero, List.set_cons_succ, List.getElem_toArray, List.getElem_cons_zero, List.getElem_cons_succ]
        -- 11: Op.call { callee := Callee.builtin Builtin.len, args := #[Operand.tmp 24], argTypes := #[9] }
        apply x_take (i := 11) [12, 11] rfl (by kernel_rfl) (fun _ _ _ h => h) HS.out
        · refine .inl ⟨rfl, fun W' hS => ?_⟩
          obtain ⟨s0, s1⟩ := hS; go_simp <;> with_reducible rfl
        try simp only [Act.put, List.setIfInBounds_toArray, List.set_cons_zero, List.set_cons_succ, List.getElem_toArray, List.getElem_cons_zero, List.getElem_cons_succ]
        -- 12: Op.binOp BinOp.add 3 (Operand.tmp 19) (Operand.tmp 25) 3
        apply x_take (i := 12) [12] rfl (by kernel_rfl) (fun _ _ _ h => h) HS.out
        · refine .inl ⟨rfl, fun W' hS => ?_⟩
          obtain ⟨s0, s1⟩ := hS; go_simp <;> with_reducible rfl
        try simp only [Act.put, List.setIfInBounds_toArray, List.set_cons_zero, List.set_cons_succ, List.getElem_toArray, List.getElem_cons_zero, List.getElem_cons_succ]
        -- EFF 13: slot 27 := Op.binOp BinOp.gtr 3 (Operand.tmp 26) (Operand.const (Value.int IntKind.i64 300)) 3
        refine x_one (i := 13) (by kernel_rfl) rfl rfl (fun K hK => ?_)
        unfold Oper.wp
        go_simp
        refine hK _ _ (.inr rfl) ?_; clear hK K
        try simp only [Act.put, List.setIfInBounds_toArray, List.set_cons_zero, List.set_cons_succ, List.getElem_toArray, List.getElem_cons_zero, List.getElem_cons_succ]
        refine x_done (by kernel_rfl) ?_
        go_wp2
        go_ret
        exact ⟨by unfold bigOne; rw [hbig]; rfl, HB.out.drew⟩
    · obtain rfl : k = 1 := by omega
      have hq := Lib.hid (hk2 rfl)
      clear hk2
      go_wp2
      go_ret
      exact ⟨by rw [hq.out]; rfl, HB.out⟩

end Go.Proofs.YtpfhgammojdddaaGreat
