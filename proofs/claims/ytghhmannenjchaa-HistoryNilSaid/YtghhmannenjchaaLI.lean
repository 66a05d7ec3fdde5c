/- The law's acts in memory; the walks through both Light. -/
import Derived.Deep.DeepCutAuto
import Derived.Deep.CutBlock
import Derived.Deep.RegionHeld3
import Derived.Deep.RegionLaw
import Derived.StillTailTactics
import Derived.Laws.EntriesVeiled
import Derived.Test.YtghhmannenjchaaCK
import Derived.Test.YtghhmannenjchaaHX
namespace Go.Proofs.Ytghhmannenjchaa
open Go.RowKit

abbrev Ac := D_glebelaw24_Act
abbrev Rc := D_gleberef07_Rec
structure ActAt (w : World) (A : Option Addr) (k : Nat) (a : Ac) (g o : Nat) (rv : Value) : Prop where
  A : A = some ⟨g, o, none⟩
  lt : g < w.heap.size
  c : ∀ i u, (D_glebelaw24_Act.cs a rv)[i]? = some u → w.cell? ⟨g, o + k * 22 + i, none⟩ = some u
  recs : RdK D_gleberef07_Rec.k w rv a.r.recs
  wf : D_glebelaw24_Act.WF a
theorem act_at {w : World} {A : Option Addr} {c : Nat} {l : List Ac} (h : RdK D_glebelaw24_Act.k w (.slice A l.length c) l) (k : Nat) (hk : k < l.length) : ∃ g o rv, ActAt w A k l[k] g o rv := by
  obtain ⟨g, o, e, hg, _, cs, _, hK, hc⟩ := h.at_ k hk
  obtain ⟨rv, rfl, hr, hw⟩ := D_glebelaw24_Act.cells hK
  exact ⟨g, o, rv, e, hg, hc, hr, hw⟩
theorem ActAt.below {w w' : World} {A : Option Addr} {k : Nat} {a : Ac} {g o : Nat} {rv : Value} (h : ActAt w A k a g o rv) (hb : Below w.heap.size w w') : ActAt w' A k a g o rv :=
  ⟨h.A, Nat.lt_of_lt_of_le h.lt hb.size, fun i u hu => (hb.cell (p := ⟨g, o + k * 22 + i, none⟩) h.lt).trans (h.c i u hu), h.recs.below hb, h.wf⟩

def IsB (e : Ending) : Prop := ∃ r, e = .returned (.bool r)
set_option linter.unusedSimpArgs false in
theorem light8_any (A : Option Addr) (c : Nat) (l : List Rc) (w : World) (hv : RdK D_gleberef07_Rec.k w (.slice A l.length c) l) :
    Calls Try.prog 18 #[.slice A l.length c] w fun e w' => IsB e ∧ Below w.heap.size w w' := by
  have hle : l.length ≤ 9223372036854775807 := by have := hv.le; unfold maxLen at this; omega
  replace hv := Lib.hid hv
  go_enter Try.func18, Try.ntmps18
  go_wp2
  go_loopw [3] (fun i wr => ∃ k : Nat, k ≤ l.length ∧ k ≤ 100 ∧ i = .int .i64 k ∧ Hid (Below w.heap.size w wr)) (fun i _ => 100 - (intOf i).toNat)
  case atStart => exact ⟨0, Nat.zero_le _, by omega, rfl, Lib.hid (Below.refl _ _)⟩
  case round =>
    obtain ⟨k, hk, hk2, rfl, HB⟩ := hrel
    by_cases hlt : k < l.length ∧ k < 100
    · obtain ⟨hlt, hl2⟩ := hlt
      obtain ⟨g, o, rfl, hg, _, cs, _, hK, hc⟩ := hv.out.at_ k hlt
      obtain ⟨rfl, hW⟩ := D_gleberef07_Rec.cells hK
      have hr := fun i u h => (HB.out.cell (p := ⟨g, o + k * 5 + i, none⟩) hg).trans (hc i u h)
      have r2 : wr.cell? ⟨g, o + k * 5 + 2, none⟩ = some (.string l[k].key) := hr 2 _ rfl
      have r3 : wr.cell? ⟨g, o + k * 5 + 3, none⟩ = some (.string l[k].value) := hr 3 _ rfl
      have hi0 : (k : Int) < (l.length : Int) := by omega
      have hi1 : decide (k < l.length) = true := decide_eq_true hlt
      have hi2 : decide ((k : Int) < 100) = true := decide_eq_true (by omega)
      clear hK hc hW hr
      generalize l[k].key = s1 at *
      generalize l[k].value = s2 at *
      have HS : Hid (wr.drew.cell? ⟨g, o + k * 5 + 2, none⟩ = some (.string s1) ∧ wr.drew.cell? ⟨g, o + k * 5 + 3, none⟩ = some (.string s2)) := Lib.hid ⟨r2, r3⟩
      cases hbig : decide ((300 : Int) < IntKind.i64.wrap ((s1.size : Int) + s2.size))
      · go_upto_region 4 with (fail)
        refine region_x (fun W' => W'.cell? ⟨g, o + k * 5 + 2, none⟩ = some (.string s1) ∧ W'.cell? ⟨g, o + k * 5 + 3, none⟩ = some (.string s2)) 13 (by kernel_rfl) ?_
        -- 0: Op.move (Operand.tmp 0)
        apply x_take (i := 0) [12, 5, 4, 3, 2, 0] rfl (by kernel_rfl) (fun _ _ _ h => h) HS.out
        · refine .inl ⟨rfl, fun W' hS => ?_⟩
          obtain ⟨s0, s1⟩ := hS; go_simp <;> with_reducible rfl
        try simp only [Act.put, List.setIfInBounds_toArray, List.set_cons_zero, List.set_cons_succ]
        -- 1: Op.move (Operand.tmp 3)
        apply x_take (i := 1) [12, 5, 4, 3, 2, 1] rfl (by kernel_rfl) (fun _ _ _ h => h) HS.out
        · refine .inl ⟨rfl, fun W' hS => ?_⟩
          obtain ⟨s0, s1⟩ := hS; go_simp <;> with_reducible rfl
        try simp only [Act.put, List.setIfInBounds_toArray, List.set_cons_zero, List.set_cons_succ]
        -- 2: Op.indexAddr 40 (Operand.tmp 14) (Operand.tmp 15)
        apply x_take (i := 2) [12, 5, 4, 3, 2] rfl (by kernel_rfl) (fun _ _ _ h => h) HS.out
        · refine .inl ⟨rfl, fun W' hS => ?_⟩
          obtain ⟨s0, s1⟩ := hS; go_simp <;> with_reducible rfl
        try simp only [Act.put, List.setIfInBounds_toArray, List.set_cons_zero, List.set_cons_succ]
        -- 3: Op.fieldAddr 98 (Operand.tmp 16) 1
        apply x_take (i := 3) [12, 5, 4, 3] rfl (by kernel_rfl) (fun _ _ _ h => h) HS.out
        · refine .inl ⟨rfl, fun W' hS => ?_⟩
          obtain ⟨s0, s1⟩ := hS; go_simp <;> with_reducible rfl
        try simp only [Act.put, List.setIfInBounds_toArray, List.set_cons_zero, List.set_cons_succ]
        -- 4: Op.load 9 (Operand.tmp 17)
        apply x_take (i := 4) [12, 5, 4] rfl (by kernel_rfl) (fun _ _ _ h => h) HS.out
        · refine .inl ⟨rfl, fun W' hS => ?_⟩
          obtain ⟨s0, s1⟩ := hS; go_simp <;> with_reducible rfl
        try simp only [Act.put, List.setIfInBounds_toArray, List.set_cons_zero, List.set_cons_succ]
        -- 5: Op.call { callee := Callee.builtin Builtin.len, args := #[Operand.tmp 18], argTypes := #[9] }
        apply x_take (i := 5) [12, 5] rfl (by kernel_rfl) (fun _ _ _ h => h) HS.out
        · refine .inl ⟨rfl, fun W' hS => ?_⟩
          obtain ⟨s0, s1⟩ := hS; go_simp <;> with_reducible rfl
        try simp only [Act.put, List.setIfInBounds_toArray, List.set_cons_zero, List.set_cons_succ]
        -- 6: Op.move (Operand.tmp 0)
        apply x_take (i := 6) [12, 11, 10, 9, 8, 6] rfl (by kernel_rfl) (fun _ _ _ h => h) HS.out
        · refine .inl ⟨rfl, fun W' hS => ?_⟩
          obtain ⟨s0, s1⟩ := hS; go_simp <;> with_reducible rfl
        try simp only [Act.put, List.setIfInBounds_toArray, List.set_cons_zero, List.set_cons_succ]
        -- 7: Op.move (Operand.tmp 3)
        apply x_take (i := 7) [12, 11, 10, 9, 8, 7] rfl (by kernel_rfl) (fun _ _ _ h => h) HS.out
        · refine .inl ⟨rfl, fun W' hS => ?_⟩
          obtain ⟨s0, s1⟩ := hS; go_simp <;> with_reducible rfl
        try simp only [Act.put, List.setIfInBounds_toArray, List.set_cons_zero, List.set_cons_succ]
        -- 8: Op.indexAddr 40 (Operand.tmp 20) (Operand.tmp 21)
        apply x_take (i := 8) [12, 11, 10, 9, 8] rfl (by kernel_rfl) (fun _ _ _ h => h) HS.out
        · refine .inl ⟨rfl, fun W' hS => ?_⟩
          obtain ⟨s0, s1⟩ := hS; go_simp <;> with_reducible rfl
        try simp only [Act.put, List.setIfInBounds_toArray, List.set_cons_zero, List.set_cons_succ]
        -- 9: Op.fieldAddr 98 (Operand.tmp 22) 2
        apply x_take (i := 9) [12, 11, 10, 9] rfl (by kernel_rfl) (fun _ _ _ h => h) HS.out
        · refine .inl ⟨rfl, fun W' hS => ?_⟩
          obtain ⟨s0, s1⟩ := hS; go_simp <;> with_reducible rfl
        try simp only [Act.put, List.setIfInBounds_toArray, List.set_cons_zero, List.set_cons_succ]
        -- 10: Op.load 9 (Operand.tmp 23)
        apply x_take (i := 10) [12, 11, 10] rfl (by kernel_rfl) (fun _ _ _ h => h) HS.out
        · refine .inl ⟨rfl, fun W' hS => ?_⟩
          obtain ⟨s0, s1⟩ := hS; go_simp <;> with_reducible rfl
        try simp only [Act.put, List.setIfInBounds_toArray, List.set_cons_zero, List.set_cons_succ]
        -- 11: Op.call { callee := Callee.builtin Builtin.len, args := #[Operand.tmp 24], argTypes := #[9] }
        apply x_take (i := 11) [12, 11] rfl (by kernel_rfl) (fun _ _ _ h => h) HS.out
        · refine .inl ⟨rfl, fun W' hS => ?_⟩
          obtain ⟨s0, s1⟩ := hS; go_simp <;> with_reducible rfl
        try simp only [Act.put, List.setIfInBounds_toArray, List.set_cons_zero, List.set_cons_succ]
        -- 12: Op.binOp BinOp.add 3 (Operand.tmp 19) (Operand.tmp 25) 3
        apply x_take (i := 12) [12] rfl (by kernel_rfl) (fun _ _ _ h => h) HS.out
        · refine .inl ⟨rfl, fun W' hS => ?_⟩
          obtain ⟨s0, s1⟩ := hS; go_simp <;> with_reducible rfl
        try simp only [Act.put, List.setIfInBounds_toArray, List.set_cons_zero, List.set_cons_succ]
        -- EFF 13: slot 27 := Op.binOp BinOp.gtr 3 (Operand.tmp 26) (Operand.const (Value.int IntKind.i64 300)) 3
        refine x_one (i := 13) (by kernel_rfl) rfl rfl (fun K hK => ?_)
        unfold Oper.wp
        go_simp
        refine hK _ _ (.inr rfl) ?_; clear hK K
        try simp only [Act.put, List.setIfInBounds_toArray, List.set_cons_zero, List.set_cons_succ]
        refine x_done (by kernel_rfl) ?_
        go_wp2
        go_roundw
        case rel => exact ⟨k + 1, by omega, by omega, by go_num, Lib.hid HB.out.drew⟩
        case measure => simp [intOf]; omega
      · go_upto_region 4 with (fail)
        refine region_x (fun W' => W'.cell? ⟨g, o + k * 5 + 2, none⟩ = some (.string s1) ∧ W'.cell? ⟨g, o + k * 5 + 3, none⟩ = some (.string s2)) 13 (by kernel_rfl) ?_
        -- 0: Op.move (Operand.tmp 0)
        apply x_take (i := 0) [12, 5, 4, 3, 2, 0] rfl (by kernel_rfl) (fun _ _ _ h => h) HS.out
        · refine .inl ⟨rfl, fun W' hS => ?_⟩
          obtain ⟨s0, s1⟩ := hS; go_simp <;> with_reducible rfl
        try simp only [Act.put, List.setIfInBounds_toArray, List.set_cons_zero, List.set_cons_succ]
        -- 1: Op.move (Operand.tmp 3)
        apply x_take (i := 1) [12, 5, 4, 3, 2, 1] rfl (by kernel_rfl) (fun _ _ _ h => h) HS.out
        · refine .inl ⟨rfl, fun W' hS => ?_⟩
          obtain ⟨s0, s1⟩ := hS; go_simp <;> with_reducible rfl
        try simp only [Act.put, List.setIfInBounds_toArray, List.set_cons_zero, List.set_cons_succ]
        -- 2: Op.indexAddr 40 (Operand.tmp 14) (Operand.tmp 15)
        apply x_take (i := 2) [12, 5, 4, 3, 2] rfl (by kernel_rfl) (fun _ _ _ h => h) HS.out
        · refine .inl ⟨rfl, fun W' hS => ?_⟩
          obtain ⟨s0, s1⟩ := hS; go_simp <;> with_reducible rfl
        try simp only [Act.put, List.setIfInBounds_toArray, List.set_cons_zero, List.set_cons_succ]
        -- 3: Op.fieldAddr 98 (Operand.tmp 16) 1
        apply x_take (i := 3) [12, 5, 4, 3] rfl (by kernel_rfl) (fun _ _ _ h => h) HS.out
        · refine .inl ⟨rfl, fun W' hS => ?_⟩
          obtain ⟨s0, s1⟩ := hS; go_simp <;> with_reducible rfl
        try simp only [Act.put, List.setIfInBounds_toArray, List.set_cons_zero, List.set_cons_succ]
        -- 4: Op.load 9 (Operand.tmp 17)
        apply x_take (i := 4) [12, 5, 4] rfl (by kernel_rfl) (fun _ _ _ h => h) HS.out
        · refine .inl ⟨rfl, fun W' hS => ?_⟩
          obtain ⟨s0, s1⟩ := hS; go_simp <;> with_reducible rfl
        try simp only [Act.put, List.setIfInBounds_toArray, List.set_cons_zero, List.set_cons_succ]
        -- 5: Op.call { callee := Callee.builtin Builtin.len, args := #[Operand.tmp 18], argTypes := #[9] }
        apply x_take (i := 5) [12, 5] rfl (by kernel_rfl) (fun _ _ _ h => h) HS.out
        · refine .inl ⟨rfl, fun W' hS => ?_⟩
          obtain ⟨s0, s1⟩ := hS; go_simp <;> with_reducible rfl
        try simp only [Act.put, List.setIfInBounds_toArray, List.set_cons_zero, List.set_cons_succ]
        -- 6: Op.move (Operand.tmp 0)
        apply x_take (i := 6) [12, 11, 10, 9, 8, 6] rfl (by kernel_rfl) (fun _ _ _ h => h) HS.out
        · refine .inl ⟨rfl, fun W' hS => ?_⟩
          obtain ⟨s0, s1⟩ := hS; go_simp <;> with_reducible rfl
        try simp only [Act.put, List.setIfInBounds_toArray, List.set_cons_zero, List.set_cons_succ]
        -- 7: Op.move (Operand.tmp 3)
        apply x_take (i := 7) [12, 11, 10, 9, 8, 7] rfl (by kernel_rfl) (fun _ _ _ h => h) HS.out
        · refine .inl ⟨rfl, fun W' hS => ?_⟩
          obtain ⟨s0, s1⟩ := hS; go_simp <;> with_reducible rfl
        try simp only [Act.put, List.setIfInBounds_toArray, List.set_cons_zero, List.set_cons_succ]
        -- 8: Op.indexAddr 40 (Operand.tmp 20) (Operand.tmp 21)
        apply x_take (i := 8) [12, 11, 10, 9, 8] rfl (by kernel_rfl) (fun _ _ _ h => h) HS.out
        · refine .inl ⟨rfl, fun W' hS => ?_⟩
          obtain ⟨s0, s1⟩ := hS; go_simp <;> with_reducible rfl
        try simp only [Act.put, List.setIfInBounds_toArray, List.set_cons_zero, List.set_cons_succ]
        -- 9: Op.fieldAddr 98 (Operand.tmp 22) 2
        apply x_take (i := 9) [12, 11, 10, 9] rfl (by kernel_rfl) (fun _ _ _ h => h) HS.out
        · refine .inl ⟨rfl, fun W' hS => ?_⟩
          obtain ⟨s0, s1⟩ := hS; go_simp <;> with_reducible rfl
        try simp only [Act.put, List.setIfInBounds_toArray, List.set_cons_zero, List.set_cons_succ]
        -- 10: Op.load 9 (Operand.tmp 23)
        apply x_take (i := 10) [12, 11, 10] rfl (by kernel_rfl) (fun _ _ _ h => h) HS.out
        · refine .inl ⟨rfl, fun W' hS => ?_⟩
          obtain ⟨s0, s1⟩ := hS; go_simp <;> with_reducible rfl
        try simp only [Act.put, List.setIfInBounds_toArray, List.set_cons_zero, List.set_cons_succ]
        -- 11: Op.call { callee := Callee.builtin Builtin.len, args := #[Operand.tmp 24], argTypes := #[9] }
        apply x_take (i := 11) [12, 11] rfl (by kernel_rfl) (fun _ _ _ h => h) HS.out
        · refine .inl ⟨rfl, fun W' hS => ?_⟩
          obtain ⟨s0, s1⟩ := hS; go_simp <;> with_reducible rfl
        try simp only [Act.put, List.setIfInBounds_toArray, List.set_cons_zero, List.set_cons_succ]
        -- 12: Op.binOp BinOp.add 3 (Operand.tmp 19) (Operand.tmp 25) 3
        apply x_take (i := 12) [12] rfl (by kernel_rfl) (fun _ _ _ h => h) HS.out
        · refine .inl ⟨rfl, fun W' hS => ?_⟩
          obtain ⟨s0, s1⟩ := hS; go_simp <;> with_reducible rfl
        try simp only [Act.put, List.setIfInBounds_toArray, List.set_cons_zero, List.set_cons_succ]
        -- EFF 13: slot 27 := Op.binOp BinOp.gtr 3 (Operand.tmp 26) (Operand.const (Value.int IntKind.i64 300)) 3
        refine x_one (i := 13) (by kernel_rfl) rfl rfl (fun K hK => ?_)
        unfold Oper.wp
        go_simp
        refine hK _ _ (.inr rfl) ?_; clear hK K
        try simp only [Act.put, List.setIfInBounds_toArray, List.set_cons_zero, List.set_cons_succ]
        refine x_done (by kernel_rfl) ?_
        go_wp2
        go_ret
        exact ⟨⟨_, rfl⟩, HB.out.drew⟩
    · by_cases hll : k < l.length
      · obtain rfl : k = 100 := by omega
        have hi1 : decide (100 < l.length) = true := decide_eq_true hll
        have hi0 : ((100 : Nat) : Int) < (l.length : Int) := by omega
        go_wp2
        go_ret
        exact ⟨⟨_, rfl⟩, HB.out⟩
      · obtain rfl : k = l.length := by omega
        go_wp2
        go_ret
        exact ⟨⟨_, rfl⟩, HB.out⟩

end Go.Proofs.Ytghhmannenjchaa
