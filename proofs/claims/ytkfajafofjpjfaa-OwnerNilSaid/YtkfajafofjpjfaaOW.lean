/- The walk through the law's Own: some row of the call's own. -/
import Derived.Deep.DeepCutAuto
import Derived.Deep.CutBlock
import Derived.Deep.RegionHeld3
import Derived.Deep.RegionLaw
import Derived.Test.YtkfajafofjpjfaaCK
import Derived.Test.YtkfajafofjpjfaaAP
import Derived.Test.YtkfajafofjpjfaaHX
namespace Go.Proofs.Ytkfajafofjpjfaa
open Go.RowKit

theorem info_hold : (Try.prog.info? 47).map (fun i => (i.zero, i.size, i.bytes)) = some (some (.agg #[.int .i64 0, .int .i64 0, .int .i64 0]), 3, 24) := by kernel_rfl
set_option linter.unusedSimpArgs false in
set_option maxRecDepth 100000 in
set_option maxHeartbeats 2000000 in
theorem own_any (A : Option Addr) (c : Nat) (l : List D_gleberef26_Hold) (w : World) (hv : RdK D_gleberef26_Hold.k w (.slice A l.length c) l) (hn : l.length ≤ 1000) :
    Calls Try.prog 10 #[.slice A l.length c] w fun e w' => ∃ v', e = .returned v' ∧ v'.oneCell' = true ∧ Below w.heap.size w w' := by
  obtain ⟨i0, hi, hz0, hz1, hz2⟩ := info_parts info_hold
  replace hv := Lib.hid hv
  go_enter Try.func10, Try.ntmps10
  go_wp2
  go_loopw [3, 4] (fun v i wx => ∃ k A2 c2 xs, k ≤ l.length ∧ v = .slice A2 k c2 ∧ i = .int .i64 k ∧ Hid (wx.ownsRow w.heap.size 47 3 (.slice A2 k c2) k xs ∧ Below w.heap.size w wx)) (fun _ i _ => l.length - (intOf i).toNat)
  case atStart => exact ⟨0, none, 0, [], Nat.zero_le _, rfl, rfl, Lib.hid ⟨World.ownsRow_nil _ _ _ _, Below.refl _ _⟩⟩
  case round =>
    obtain ⟨k, A2, c2, xs, hk, rfl, rfl, HR⟩ := hrel
    by_cases hlt : k < l.length
    · obtain ⟨hown, hB⟩ := HR.out
      obtain ⟨g, o, rfl, hg, _, cs, _, hK, hc⟩ := hv.out.at_ k hlt
      obtain ⟨rfl, hW⟩ := D_gleberef26_Hold.cells hK
      have hr := fun i u h => (hB.cell (p := ⟨g, o + k * 3 + i, none⟩) hg).trans (hc i u h)
      generalize l[k] = x at *
      have r0 : wr.cell? ⟨g, o + k * 3, none⟩ = some (.int .i64 x.who) := hr 0 _ rfl
      have r1 : wr.cell? ⟨g, o + k * 3 + 1, none⟩ = some (.int .i64 x.path.depth) := hr 1 _ rfl
      have r2 : wr.cell? ⟨g, o + k * 3 + 2, none⟩ = some (.int .i64 x.path.bits) := hr 2 _ rfl
      have hi0 : (k : Int) < (l.length : Int) := by omega
      have hbase := own_base hown
      have hsz := hB.size
      have hneb : ∀ b, (Value.slice A2 k c2).ownBlock = some b → b < wr.heap.size := fun b e => own_lt hown _ e
      clear hK hc hW hr
      replace hsz := Lib.hid hsz
      replace hB := Lib.hid hB
      replace hneb := Lib.hid hneb
      replace hbase := Lib.hid hbase
      replace hown := Lib.hid (hown : World.ownsRow wr.drew _ _ _ _ _ _)
      go_upto_region 5 with (fail)
      have HS : Hid (wr.drew.cell? ⟨g, o + k * 3, none⟩ = some (.int .i64 x.who) ∧ wr.drew.cell? ⟨g, o + k * 3 + 1, none⟩ = some (.int .i64 x.path.depth) ∧ wr.drew.cell? ⟨g, o + k * 3 + 2, none⟩ = some (.int .i64 x.path.bits)) := Lib.hid ⟨r0, r1, r2⟩
      refine region_x (fun W' => W'.cell? ⟨g, o + k * 3, none⟩ = some (.int .i64 x.who) ∧ W'.cell? ⟨g, o + k * 3 + 1, none⟩ = some (.int .i64 x.path.depth) ∧ W'.cell? ⟨g, o + k * 3 + 2, none⟩ = some (.int .i64 x.path.bits)) 14 (by kernel_rfl) ?_
      -- 0: Op.move (Operand.tmp 3)
      apply x_take (i := 0) [0] rfl (by kernel_rfl) (fun _ _ _ h => h) HS.out
      · refine .inl ⟨rfl, fun W' hS => ?_⟩
        obtain ⟨s0, s1, s2⟩ := hS; go_simp <;> with_reducible rfl
      try simp only [Act.put, List.setIfInBounds_toArray, List.set_cons_zero, List.set_cons_succ, List.getElem_toArray, List.getElem_cons_zero, List.getElem_cons_succ]
      -- 1: Op.move (Operand.tmp 0)
      apply x_take (i := 1) [1] rfl (by kernel_rfl) (fun _ _ _ h => h) HS.out
      · refine .inl ⟨rfl, fun W' hS => ?_⟩
        obtain ⟨s0, s1, s2⟩ := hS; go_simp <;> with_reducible rfl
      try simp only [Act.put, List.setIfInBounds_toArray, List.set_cons_zero, List.set_cons_succ, List.getElem_toArray, List.getElem_cons_zero, List.getElem_cons_succ]
      -- 2: Op.move (Operand.tmp 4)
      apply x_take (i := 2) [2] rfl (by kernel_rfl) (fun _ _ _ h => h) HS.out
      · refine .inl ⟨rfl, fun W' hS => ?_⟩
        obtain ⟨s0, s1, s2⟩ := hS; go_simp <;> with_reducible rfl
      try simp only [Act.put, List.setIfInBounds_toArray, List.set_cons_zero, List.set_cons_succ, List.getElem_toArray, List.getElem_cons_zero, List.getElem_cons_succ]
      -- 3: Op.indexAddr 34 (Operand.tmp 12) (Operand.tmp 13)
      apply x_take (i := 3) [3] rfl (by kernel_rfl) (fun _ _ _ h => h) HS.out
      · refine .inl ⟨rfl, fun W' hS => ?_⟩
        obtain ⟨s0, s1, s2⟩ := hS; go_simp <;> with_reducible rfl
      try simp only [Act.put, List.setIfInBounds_toArray, List.set_cons_zero, List.set_cons_succ, List.getElem_toArray, List.getElem_cons_zero, List.getElem_cons_succ]
      -- 4: Op.fieldAddr 72 (Operand.tmp 14) 0
      apply x_take (i := 4) [4] rfl (by kernel_rfl) (fun _ _ _ h => h) HS.out
      · refine .inl ⟨rfl, fun W' hS => ?_⟩
        obtain ⟨s0, s1, s2⟩ := hS; go_simp <;> with_reducible rfl
      try simp only [Act.put, List.setIfInBounds_toArray, List.set_cons_zero, List.set_cons_succ, List.getElem_toArray, List.getElem_cons_zero, List.getElem_cons_succ]
      -- 5: Op.load 3 (Operand.tmp 15)
      apply x_take (i := 5) [5] rfl (by kernel_rfl) (fun _ _ _ h => h) HS.out
      · refine .inl ⟨rfl, fun W' hS => ?_⟩
        obtain ⟨s0, s1, s2⟩ := hS; go_simp <;> with_reducible rfl
      try simp only [Act.put, List.setIfInBounds_toArray, List.set_cons_zero, List.set_cons_succ, List.getElem_toArray, List.getElem_cons_zero, List.getElem_cons_succ]
      -- 6: Op.move (Operand.tmp 0)
      apply x_take (i := 6) [6] rfl (by kernel_rfl) (fun _ _ _ h => h) HS.out
      · refine .inl ⟨rfl, fun W' hS => ?_⟩
        obtain ⟨s0, s1, s2⟩ := hS; go_simp <;> with_reducible rfl
      try simp only [Act.put, List.setIfInBounds_toArray, List.set_cons_zero, List.set_cons_succ, List.getElem_toArray, List.getElem_cons_zero, List.getElem_cons_succ]
      -- 7: Op.move (Operand.tmp 4)
      apply x_take (i := 7) [7] rfl (by kernel_rfl) (fun _ _ _ h => h) HS.out
      · refine .inl ⟨rfl, fun W' hS => ?_⟩
        obtain ⟨s0, s1, s2⟩ := hS; go_simp <;> with_reducible rfl
      try simp only [Act.put, List.setIfInBounds_toArray, List.set_cons_zero, List.set_cons_succ, List.getElem_toArray, List.getElem_cons_zero, List.getElem_cons_succ]
      -- 8: Op.indexAddr 34 (Operand.tmp 17) (Operand.tmp 18)
      apply x_take (i := 8) [8] rfl (by kernel_rfl) (fun _ _ _ h => h) HS.out
      · refine .inl ⟨rfl, fun W' hS => ?_⟩
        obtain ⟨s0, s1, s2⟩ := hS; go_simp <;> with_reducible rfl
      try simp only [Act.put, List.setIfInBounds_toArray, List.set_cons_zero, List.set_cons_succ, List.getElem_toArray, List.getElem_cons_zero, List.getElem_cons_succ]
      -- 9: Op.fieldAddr 72 (Operand.tmp 19) 1
      apply x_take (i := 9) [9] rfl (by kernel_rfl) (fun _ _ _ h => h) HS.out
      · refine .inl ⟨rfl, fun W' hS => ?_⟩
        obtain ⟨s0, s1, s2⟩ := hS; go_simp <;> with_reducible rfl
      try simp only [Act.put, List.setIfInBounds_toArray, List.set_cons_zero, List.set_cons_succ, List.getElem_toArray, List.getElem_cons_zero, List.getElem_cons_succ]
      -- 10: Op.load 44 (Operand.tmp 20)
      apply x_take (i := 10) [10] rfl (by kernel_rfl) (fun _ _ _ h => h) HS.out
      · refine .inl ⟨rfl, fun W' hS => ?_⟩
        obtain ⟨s0, s1, s2⟩ := hS; go_simp <;> with_reducible rfl
      try simp only [Act.put, List.setIfInBounds_toArray, List.set_cons_zero, List.set_cons_succ, List.getElem_toArray, List.getElem_cons_zero, List.getElem_cons_succ]
      -- 11: Op.build 47 #[(0, Operand.tmp 16), (1, Operand.tmp 21)]
      apply x_take (i := 11) [11] rfl (by kernel_rfl) (fun _ _ _ h => h) HS.out
      · refine .inl ⟨rfl, fun W' hS => ?_⟩
        obtain ⟨s0, s1, s2⟩ := hS; go_simp <;> with_reducible rfl
      try simp only [Act.put, List.setIfInBounds_toArray, List.set_cons_zero, List.set_cons_succ, List.getElem_toArray, List.getElem_cons_zero, List.getElem_cons_succ]
      -- EFF 12: slot 23 := Op.buildSlice 41 1 #[(0, Operand.tmp 22)]
      refine x_one (i := 12) (by kernel_rfl) rfl rfl (fun K hK => ?_)
      unfold Oper.wp
      go_simp
      have hgl : g < wr.drew.heap.size := Nat.lt_of_lt_of_le hg hsz.out
      have hbA : Below wr.drew.heap.size wr.drew (wr.drew.alloc (.cells #[.int .i64 x.who, .int .i64 x.path.depth, .int .i64 x.path.bits] 47)) := (Below.refl _ _).alloc (Nat.le_refl _) _
      have HS : Hid ((wr.drew.alloc (.cells #[.int .i64 x.who, .int .i64 x.path.depth, .int .i64 x.path.bits] 47)).cell? ⟨g, o + k * 3, none⟩ = some (.int .i64 x.who) ∧ (wr.drew.alloc (.cells #[.int .i64 x.who, .int .i64 x.path.depth, .int .i64 x.path.bits] 47)).cell? ⟨g, o + k * 3 + 1, none⟩ = some (.int .i64 x.path.depth) ∧ (wr.drew.alloc (.cells #[.int .i64 x.who, .int .i64 x.path.depth, .int .i64 x.path.bits] 47)).cell? ⟨g, o + k * 3 + 2, none⟩ = some (.int .i64 x.path.bits)) := Lib.hid ⟨(hbA.cell (p := ⟨g, o + k * 3, none⟩) hgl).trans HS.out.1, (hbA.cell (p := ⟨g, o + k * 3 + 1, none⟩) hgl).trans HS.out.2.1, (hbA.cell (p := ⟨g, o + k * 3 + 2, none⟩) hgl).trans HS.out.2.2⟩
      refine hK _ _ (.inl HS.out) ?_; clear hK K
      try simp only [Act.put, List.setIfInBounds_toArray, List.set_cons_zero, List.set_cons_succ, List.getElem_toArray, List.getElem_cons_zero, List.getElem_cons_succ]
      -- EFF 13: slot 24 := Op.call { callee := Callee.builtin Builtin.append, args := #[Operand.tmp 11, Operand.tmp 23], argTypes := #[41, 41] }
      refine x_one (i := 13) (by kernel_rfl) rfl rfl (fun K hK => ?_)
      refine wp_append_rd (.tmp 11) (.tmp 23) 41 rfl w.heap.size 47 i0 _ 3 24 Try.underlying41 hi hz0 hz1 hz2 rfl (by decide) _ _ _ rfl (hown.out.alloc (.cells #[.int .i64 x.who, .int .i64 x.path.depth, .int .i64 x.path.bits] 47)) (.slice (some ⟨wr.heap.size, 0, none⟩) 1 1) 1 [.int .i64 x.who, .int .i64 x.path.depth, .int .i64 x.path.bits] rfl (rd_new rfl rfl) rfl (by intro u hu; simp at hu; rcases hu with rfl | rfl | rfl <;> rfl) (by unfold maxLen; omega) (by omega) (by have := hsz.out; simp; omega) ?_
      intro v6 w6 hown6 hgr6 _
      have hgA : g < wr.heap.size := Nat.lt_of_lt_of_le hg hsz.out
      have hgb : w6.heap[g]? = (wr.drew.alloc (.cells #[.int .i64 x.who, .int .i64 x.path.depth, .int .i64 x.path.bits] 47)).heap[g]? := hgr6.block g (by simp; omega) (fun e => by have := hbase.out g e.symm; omega)
      have HS : Hid (w6.cell? ⟨g, o + k * 3, none⟩ = some (.int .i64 x.who) ∧ w6.cell? ⟨g, o + k * 3 + 1, none⟩ = some (.int .i64 x.path.depth) ∧ w6.cell? ⟨g, o + k * 3 + 2, none⟩ = some (.int .i64 x.path.bits)) := Lib.hid ⟨(World.cell?_of_block (a := ⟨g, o + k * 3, none⟩) hgb).trans HS.out.1, (World.cell?_of_block (a := ⟨g, o + k * 3 + 1, none⟩) hgb).trans HS.out.2.1, (World.cell?_of_block (a := ⟨g, o + k * 3 + 2, none⟩) hgb).trans HS.out.2.2⟩
      obtain ⟨A6, c6, rfl, _⟩ := own_slice hown6
      have hB6 : Below w.heap.size w w6 := (hB.out.drew.alloc hB.out.drew.size _).grown hgr6 (by have := hsz.out; simp; omega) hbase.out
      replace hown6 := Lib.hid hown6
      replace hB6 := Lib.hid hB6
      clear hgr6 hgb
      refine hK _ _ (.inl HS.out) ?_; clear hK K
      try simp only [Act.put, List.setIfInBounds_toArray, List.set_cons_zero, List.set_cons_succ, List.getElem_toArray, List.getElem_cons_zero, List.getElem_cons_succ]
      -- EFF 14: slot 3 := Op.assign (Operand.tmp 24)
      refine x_one (i := 14) (by kernel_rfl) rfl rfl (fun K hK => ?_)
      unfold Oper.wp
      go_simp
      refine hK _ _ (.inr rfl) ?_; clear hK K
      try simp only [Act.put, List.setIfInBounds_toArray, List.set_cons_zero, List.set_cons_succ, List.getElem_toArray, List.getElem_cons_zero, List.getElem_cons_succ]
      refine x_done (by kernel_rfl) ?_
      go_wp2_with (fail)
      go_roundw
      case rel => exact ⟨k + 1, A6, c6, _, by omega, rfl, by go_num, Lib.hid ⟨hown6.out, hB6.out⟩⟩
      case measure => simp [intOf]; omega
    · obtain rfl : k = l.length := by omega
      have hi0 : decide (l.length < l.length) = false := by simp
      go_wp2
      go_ret
      exact ⟨_, rfl, rfl, HR.out.2⟩
end Go.Proofs.Ytkfajafofjpjfaa
