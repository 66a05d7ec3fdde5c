/- The walks through same and the pool's Clone. -/
import Derived.Test.YtjfbiifcjiidfaaRP
namespace Go.Proofs.Ytjfbiifcjiidfaa
open Go.RowKit

/-- Two parcels that read alike are the same. -/
theorem same_true (x : Pc) (va vb : Value) (w : World) (ha : Rd w va x.b.length (byV x.b)) (hb : Rd w vb x.b.length (byV x.b)) :
    Calls Try.prog 21 #[.agg #[.int .i64 x.from_, .int .i64 x.to_, va], .agg #[.int .i64 x.from_, .int .i64 x.to_, vb]] w fun e w' => e = .returned (.bool true) ∧ Below w.heap.size w w' := by
  obtain ⟨Aa, ca, rfl⟩ := ha.slice
  obtain ⟨Ab, cb, rfl⟩ := hb.slice
  have hb0 : Below w.heap.size w ((w.alloc (.cells #[.int .i64 x.from_, .int .i64 x.to_, .slice Aa x.b.length ca] 37)).alloc (.cells #[.int .i64 x.from_, .int .i64 x.to_, .slice Ab x.b.length cb] 32)) := ((Below.refl _ w).alloc (Nat.le_refl _) _).alloc (by simp) _
  have k1 := conv_rd (ha.below hb0)
  have k2 := conv_rd (hb.below hb0)
  replace ha := Lib.hid ha
  replace hb := Lib.hid hb
  replace hb0 := Lib.hid hb0
  generalize strOfNums x.b = st at *
  go_enter Try.func21, Try.ntmps21
  go_wp2_with (fail)
  go_ret
  exact ⟨rfl, hb0.out⟩

set_option maxHeartbeats 4000000 in
set_option linter.unusedSimpArgs false in
theorem clone_pool {β b : Nat} {v : Value} {bs : List Value} {s : PS} {F : Nat → Prop} {w : World} (h : PA β b v bs s F w) (hs : SOk s) :
    Calls Try.prog 26 #[.pointer (some ⟨b, 0, none⟩)] w fun e w' => e = .returned (.pointer (some ⟨w.heap.size, 0, none⟩)) ∧ IsP w.heap.size w.heap.size s (fun k => w.heap.size ≤ k) w' ∧ Below w.heap.size w w' := by
  have c0 : w.cell? ⟨b, 0, none⟩ = some (.int .i64 s.most) := cell_of_block h.blk 0
  have c1 : w.cell? ⟨b, 1, none⟩ = some (.int .i64 s.lost) := cell_of_block h.blk 1
  have c2 : w.cell? ⟨b, 2, none⟩ = some v := cell_of_block h.blk 2
  obtain ⟨Av, cv, rfl, _⟩ := own_slice h.row
  have hlb := h.lt
  have hlen : s.l.length ≤ 1024 := by have := h.pos; omega
  obtain ⟨i0, hi, hz0, hz1, hz2⟩ := info_parts info_pc
  have hpos := h.pos
  replace hpos := Lib.hid hpos
  replace h := Lib.hid h
  have HS : Hid (w.drew.cell? ⟨b, 0, none⟩ = some (.int .i64 s.most) ∧ w.drew.cell? ⟨b, 1, none⟩ = some (.int .i64 s.lost)) := Lib.hid ⟨c0, c1⟩
  go_enter Try.func26, Try.ntmps26
  go_upto_region 3 with (go_at_call 29; refine (none_pool h.out).mono ?_; rintro e w0 ⟨rfl, rfl⟩)
  refine region_x (fun W' => W'.cell? ⟨b, 0, none⟩ = some (.int .i64 s.most) ∧ W'.cell? ⟨b, 1, none⟩ = some (.int .i64 s.lost)) 10 (by kernel_rfl) ?_
  -- 0: Op.move (Operand.tmp 0)
  apply x_take (i := 0) [0] rfl (by kernel_rfl) (fun _ _ _ h => h) HS.out
  · refine .inl ⟨rfl, fun W' hS => ?_⟩
    obtain ⟨s0, s1⟩ := hS; go_simp <;> with_reducible rfl
  try simp only [Act.put, List.setIfInBounds_toArray, List.set_cons_zero, List.set_cons_succ]
  -- 1: Op.nilCheck (Operand.tmp 8)
  apply x_take (i := 1) [1] rfl (by kernel_rfl) (fun _ _ _ h => h) HS.out
  · refine .inl ⟨rfl, fun W' hS => ?_⟩
    obtain ⟨s0, s1⟩ := hS; go_simp <;> with_reducible rfl
  try simp only [Act.put, List.setIfInBounds_toArray, List.set_cons_zero, List.set_cons_succ]
  -- 2: Op.fieldAddr 60 (Operand.tmp 9) 0
  apply x_take (i := 2) [2] rfl (by kernel_rfl) (fun _ _ _ h => h) HS.out
  · refine .inl ⟨rfl, fun W' hS => ?_⟩
    obtain ⟨s0, s1⟩ := hS; go_simp <;> with_reducible rfl
  try simp only [Act.put, List.setIfInBounds_toArray, List.set_cons_zero, List.set_cons_succ]
  -- 3: Op.load 3 (Operand.tmp 10)
  apply x_take (i := 3) [3] rfl (by kernel_rfl) (fun _ _ _ h => h) HS.out
  · refine .inl ⟨rfl, fun W' hS => ?_⟩
    obtain ⟨s0, s1⟩ := hS; go_simp <;> with_reducible rfl
  try simp only [Act.put, List.setIfInBounds_toArray, List.set_cons_zero, List.set_cons_succ]
  -- 4: Op.move (Operand.tmp 0)
  apply x_take (i := 4) [4] rfl (by kernel_rfl) (fun _ _ _ h => h) HS.out
  · refine .inl ⟨rfl, fun W' hS => ?_⟩
    obtain ⟨s0, s1⟩ := hS; go_simp <;> with_reducible rfl
  try simp only [Act.put, List.setIfInBounds_toArray, List.set_cons_zero, List.set_cons_succ]
  -- 5: Op.nilCheck (Operand.tmp 12)
  apply x_take (i := 5) [5] rfl (by kernel_rfl) (fun _ _ _ h => h) HS.out
  · refine .inl ⟨rfl, fun W' hS => ?_⟩
    obtain ⟨s0, s1⟩ := hS; go_simp <;> with_reducible rfl
  try simp only [Act.put, List.setIfInBounds_toArray, List.set_cons_zero, List.set_cons_succ]
  -- 6: Op.fieldAddr 60 (Operand.tmp 13) 1
  apply x_take (i := 6) [6] rfl (by kernel_rfl) (fun _ _ _ h => h) HS.out
  · refine .inl ⟨rfl, fun W' hS => ?_⟩
    obtain ⟨s0, s1⟩ := hS; go_simp <;> with_reducible rfl
  try simp only [Act.put, List.setIfInBounds_toArray, List.set_cons_zero, List.set_cons_succ]
  -- 7: Op.load 3 (Operand.tmp 14)
  apply x_take (i := 7) [7] rfl (by kernel_rfl) (fun _ _ _ h => h) HS.out
  · refine .inl ⟨rfl, fun W' hS => ?_⟩
    obtain ⟨s0, s1⟩ := hS; go_simp <;> with_reducible rfl
  try simp only [Act.put, List.setIfInBounds_toArray, List.set_cons_zero, List.set_cons_succ]
  -- 8: Op.build 60 #[(0, Operand.tmp 11), (1, Operand.tmp 15)]
  apply x_take (i := 8) [8] rfl (by kernel_rfl) (fun _ _ _ h => h) HS.out
  · refine .inl ⟨rfl, fun W' hS => ?_⟩
    obtain ⟨s0, s1⟩ := hS; go_simp <;> with_reducible rfl
  try simp only [Act.put, List.setIfInBounds_toArray, List.set_cons_zero, List.set_cons_succ]
  -- EFF 9: slot 17 := Op.box 60 (Operand.tmp 16)
  refine x_one (i := 9) (by kernel_rfl) rfl rfl (fun K hK => ?_)
  unfold Oper.wp
  go_simp
  have HS : Hid (((w0.alloc (.cells #[.int .i64 s.most, .int .i64 s.lost, .slice none 0 0] 60)).drew).cell? ⟨b, 0, none⟩ = some (.int .i64 s.most) ∧ ((w0.alloc (.cells #[.int .i64 s.most, .int .i64 s.lost, .slice none 0 0] 60)).drew).cell? ⟨b, 1, none⟩ = some (.int .i64 s.lost)) := Lib.hid ⟨cell_kept ((Below.refl _ w0).alloc (Nat.le_refl _) _).drew c0, cell_kept ((Below.refl _ w0).alloc (Nat.le_refl _) _).drew c1⟩
  refine hK _ _ (.inl HS.out) ?_; clear hK K
  try simp only [Act.put, List.setIfInBounds_toArray, List.set_cons_zero, List.set_cons_succ]
  -- EFF 10: slot 3 := Op.assign (Operand.tmp 17)
  refine x_one (i := 10) (by kernel_rfl) rfl rfl (fun K hK => ?_)
  unfold Oper.wp
  go_simp
  refine hK _ _ (.inr rfl) ?_; clear hK K
  try simp only [Act.put, List.setIfInBounds_toArray, List.set_cons_zero, List.set_cons_succ]
  refine x_done (by kernel_rfl) ?_
  go_wp2_with (fail)
  have hb1 : Below w0.heap.size w0 (w0.alloc (.cells #[.int .i64 s.most, .int .i64 s.lost, .slice none 0 0] 60)).drew := ((Below.refl _ w0).alloc (Nat.le_refl _) _).drew
  have hp1 : PA w0.heap.size w0.heap.size (.slice none 0 0) [] ⟨s.most, s.lost, s.l.take 0⟩ (fun j => w0.heap.size ≤ j) (w0.alloc (.cells #[.int .i64 s.most, .int .i64 s.lost, .slice none 0 0] 60)).drew :=
    ⟨alloc_new w0 _, Nat.le_refl _, ⟨hpos.out.1, hpos.out.2.1, by have := hpos.out.1; simp; omega⟩, World.ownsRow_nil _ _ _ _, rfl, (fun i h => by cases h), (fun i h => by cases h)⟩
  replace hb1 := Lib.hid hb1
  replace hp1 := Lib.hid hp1
  clear HS
  go_loopw [23] (fun i wr => ∃ k : Nat, k ≤ s.l.length ∧ i = .int .i64 k ∧ Hid (∃ vk bk, PA w0.heap.size w0.heap.size vk bk ⟨s.most, s.lost, s.l.take k⟩ (fun j => w0.heap.size ≤ j) wr ∧ Below w0.heap.size w0 wr)) (fun i _ => s.l.length - (intOf i).toNat)
  case atStart => exact ⟨0, Nat.zero_le _, rfl, Lib.hid ⟨_, _, hp1.out, hb1.out⟩⟩
  case round =>
    obtain ⟨k, hk, rfl, HR⟩ := hrel
    by_cases hlt : k < s.l.length
    · obtain ⟨vk, bk, hpk, hBk⟩ := HR.out
      have h2 := h.out.of_below hBk
      obtain ⟨g, c', e, _, _, hcell⟩ := own_succ h2.row (by omega)
      cases e
      obtain ⟨p0, p1, p2⟩ := pcV_at h2.len hlt
      have x0 := hcell _ _ p0
      have x1 := hcell _ _ p1
      have x2 := hcell _ _ p2
      have hkb : k < bs.length := by rw [h2.len]; exact hlt
      have hbyt := h2.byt k hlt hkb
      obtain ⟨Ab, cb, hvb⟩ := hbyt.slice
      have hshort := hs.short _ (List.getElem_mem hlt)
      have htk : s.l.take (k + 1) = s.l.take k ++ [s.l[k]] := List.take_succ_eq_append_getElem hlt
      generalize s.l[k] = x at *
      generalize bs[k] = vb at *
      subst hvb
      obtain ⟨Ak, ck, hvk, _⟩ := own_slice hpk.row
      have hlk : (s.l.take k).length = k := by rw [List.length_take]; omega
      rw [show ({ most := s.most, lost := s.lost, l := s.l.take k } : PS).l.length = k from hlk] at hvk
      subst hvk
      have hbX : Below wr.heap.size wr (wr.alloc (.cells #[.int .i64 x.from_, .int .i64 x.to_, .slice Ab x.b.length cb] 37)) := (Below.refl _ _).alloc (Nat.le_refl _) _
      have hX := alloc_new wr (.cells #[.int .i64 x.from_, .int .i64 x.to_, .slice Ab x.b.length cb] 37)
      have hpX := hpk.of_below hbX
      have hbytX := hbyt.below hbX
      have hBX := hBk.trans (hbX.mono hBk.size)
      have hlx := hpk.lt
      have hi0 : (k : Int) < (s.l.length : Int) := by omega
      clear hcell p0 p1 p2
      replace htk := Lib.hid htk
      replace h2 := Lib.hid h2
      replace hpk := Lib.hid hpk
      replace hBk := Lib.hid hBk
      replace hbyt := Lib.hid hbyt
      replace hbX := Lib.hid hbX
      replace hX := Lib.hid hX
      replace hpX := Lib.hid hpX
      replace hbytX := Lib.hid hbytX
      replace hBX := Lib.hid hBX
      replace hlk := Lib.hid hlk
      go_upto_region 7 with (fail)
      generalize wr.alloc (.cells #[.int .i64 x.from_, .int .i64 x.to_, .slice Ab x.b.length cb] 37) = W2 at hbX hX hpX hbytX hBX ⊢
      have HS : Hid (W2.drew.cell? ⟨w0.heap.size, 2, none⟩ = some (.slice Ak k ck) ∧ W2.drew.cell? ⟨wr.heap.size, 0, none⟩ = some (.int .i64 x.from_) ∧ W2.drew.cell? ⟨wr.heap.size, 1, none⟩ = some (.int .i64 x.to_) ∧ W2.drew.cell? ⟨wr.heap.size, 2, none⟩ = some (.slice Ab x.b.length cb)) := Lib.hid ⟨cell_of_block hpX.out.blk 2, cell_of_block hX.out 0, cell_of_block hX.out 1, cell_of_block hX.out 2⟩
      refine region_x (fun W' => W'.cell? ⟨w0.heap.size, 2, none⟩ = some (.slice Ak k ck) ∧ W'.cell? ⟨wr.heap.size, 0, none⟩ = some (.int .i64 x.from_) ∧ W'.cell? ⟨wr.heap.size, 1, none⟩ = some (.int .i64 x.to_) ∧ W'.cell? ⟨wr.heap.size, 2, none⟩ = some (.slice Ab x.b.length cb)) 11 (by kernel_rfl) ?_
      -- 0: Op.move (Operand.tmp 3)
      apply x_take (i := 0) [0] rfl (by kernel_rfl) (fun _ _ _ h => h) HS.out
      · refine .inl ⟨rfl, fun W' hS => ?_⟩
        obtain ⟨s0, s1, s2, s3⟩ := hS; go_simp <;> with_reducible rfl
      try simp only [Act.put, List.setIfInBounds_toArray, List.set_cons_zero, List.set_cons_succ]
      -- 1: Op.move (Operand.tmp 3)
      apply x_take (i := 1) [1] rfl (by kernel_rfl) (fun _ _ _ h => h) HS.out
      · refine .inl ⟨rfl, fun W' hS => ?_⟩
        obtain ⟨s0, s1, s2, s3⟩ := hS; go_simp <;> with_reducible rfl
      try simp only [Act.put, List.setIfInBounds_toArray, List.set_cons_zero, List.set_cons_succ]
      -- 2: Op.nilCheck (Operand.tmp 28)
      apply x_take (i := 2) [2] rfl (by kernel_rfl) (fun _ _ _ h => h) HS.out
      · refine .inl ⟨rfl, fun W' hS => ?_⟩
        obtain ⟨s0, s1, s2, s3⟩ := hS; go_simp <;> with_reducible rfl
      try simp only [Act.put, List.setIfInBounds_toArray, List.set_cons_zero, List.set_cons_succ]
      -- 3: Op.fieldAddr 60 (Operand.tmp 29) 2
      apply x_take (i := 3) [3] rfl (by kernel_rfl) (fun _ _ _ h => h) HS.out
      · refine .inl ⟨rfl, fun W' hS => ?_⟩
        obtain ⟨s0, s1, s2, s3⟩ := hS; go_simp <;> with_reducible rfl
      try simp only [Act.put, List.setIfInBounds_toArray, List.set_cons_zero, List.set_cons_succ]
      -- 4: Op.load 41 (Operand.tmp 30)
      apply x_take (i := 4) [4] rfl (by kernel_rfl) (fun _ _ _ h => h) HS.out
      · refine .inl ⟨rfl, fun W' hS => ?_⟩
        obtain ⟨s0, s1, s2, s3⟩ := hS; go_simp <;> with_reducible rfl
      try simp only [Act.put, List.setIfInBounds_toArray, List.set_cons_zero, List.set_cons_succ]
      -- 5: Op.load 37 (Operand.tmp 5)
      apply x_take (i := 5) [5] rfl (by kernel_rfl) (fun _ _ _ h => h) HS.out
      · refine .inl ⟨rfl, fun W' hS => ?_⟩
        obtain ⟨s0, s1, s2, s3⟩ := hS; go_simp <;> with_reducible rfl
      try simp only [Act.put, List.setIfInBounds_toArray, List.set_cons_zero, List.set_cons_succ]
      -- EFF 6: slot 33 := Op.call { callee := Callee.value (Operand.func 31), args := #[Operand.tmp 32], argTypes := #[37] }
      refine x_one (i := 6) (by kernel_rfl) rfl rfl (fun K hK => ?_)
      unfold Oper.wp
      go_simp
      refine (apart_any x.from_ x.to_ Ab x.b.length cb (byV x.b) _ (hbytX.out.below (Below.refl _ _).drew) (byV_length _) hshort (byV_one _)).mono ?_
      rintro e w5 ⟨vn, rfl, hown5, hb5⟩
      obtain ⟨An, cn, rfl, _⟩ := own_slice hown5
      have hb5' : Below W2.heap.size W2 w5 := (Below.refl _ W2).drew.trans hb5
      have hp5 := hpX.out.of_below hb5'
      have hX5 := block_kept hX.out hb5'
      have hrow5 : w5.ownsRow w0.heap.size 37 3 (.slice Ak k ck) k (pcV (s.l.take k) bk) := by have q := hp5.row; rw [show ({ most := s.most, lost := s.lost, l := s.l.take k } : PS).l.length = k from hlk.out] at q; exact q
      replace hrow5 := Lib.hid hrow5
      have HS : Hid (w5.cell? ⟨w0.heap.size, 2, none⟩ = some (.slice Ak k ck) ∧ w5.cell? ⟨wr.heap.size, 0, none⟩ = some (.int .i64 x.from_) ∧ w5.cell? ⟨wr.heap.size, 1, none⟩ = some (.int .i64 x.to_) ∧ w5.cell? ⟨wr.heap.size, 2, none⟩ = some (.slice Ab x.b.length cb)) := Lib.hid ⟨cell_of_block hp5.blk 2, cell_of_block hX5 0, cell_of_block hX5 1, cell_of_block hX5 2⟩
      replace hown5 := Lib.hid hown5
      replace hb5 := Lib.hid hb5
      replace hb5' := Lib.hid hb5'
      replace hp5 := Lib.hid hp5
      replace hX5 := Lib.hid hX5
      refine hK _ _ (.inl HS.out) ?_; clear hK K
      try simp only [Act.put, List.setIfInBounds_toArray, List.set_cons_zero, List.set_cons_succ]
      -- EFF 7: slot 34 := Op.buildSlice 41 1 #[(0, Operand.tmp 33)]
      refine x_one (i := 7) (by kernel_rfl) rfl rfl (fun K hK => ?_)
      unfold Oper.wp
      go_simp
      have HS : Hid ((w5.alloc (.cells #[.int .i64 x.from_, .int .i64 x.to_, .slice An x.b.length cn] 37)).cell? ⟨w0.heap.size, 2, none⟩ = some (.slice Ak k ck) ∧ (w5.alloc (.cells #[.int .i64 x.from_, .int .i64 x.to_, .slice An x.b.length cn] 37)).cell? ⟨wr.heap.size, 0, none⟩ = some (.int .i64 x.from_) ∧ (w5.alloc (.cells #[.int .i64 x.from_, .int .i64 x.to_, .slice An x.b.length cn] 37)).cell? ⟨wr.heap.size, 1, none⟩ = some (.int .i64 x.to_) ∧ (w5.alloc (.cells #[.int .i64 x.from_, .int .i64 x.to_, .slice An x.b.length cn] 37)).cell? ⟨wr.heap.size, 2, none⟩ = some (.slice Ab x.b.length cb)) := Lib.hid ⟨cell_of_block (block_alloc hp5.out.blk _) 2, cell_of_block (block_alloc hX5.out _) 0, cell_of_block (block_alloc hX5.out _) 1, cell_of_block (block_alloc hX5.out _) 2⟩
      refine hK _ _ (.inl HS.out) ?_; clear hK K
      try simp only [Act.put, List.setIfInBounds_toArray, List.set_cons_zero, List.set_cons_succ]
      -- EFF 8: slot 35 := Op.call { callee := Callee.builtin Builtin.append, args := #[Operand.tmp 31, Operand.tmp 34], argTypes := #[41, 41] }
      refine x_one (i := 8) (by kernel_rfl) rfl rfl (fun K hK => ?_)
      refine wp_append_rd (.tmp 31) (.tmp 34) 41 rfl w0.heap.size 37 i0 _ 3 40 Try.underlying41 hi hz0 hz1 hz2 rfl (by decide) (.slice Ak k ck) k (pcV (s.l.take k) bk) rfl (hrow5.out.alloc (.cells #[.int .i64 x.from_, .int .i64 x.to_, .slice An x.b.length cn] 37)) (.slice (some ⟨w5.heap.size, 0, none⟩) 1 1) 1 [.int .i64 x.from_, .int .i64 x.to_, .slice An x.b.length cn] rfl (rd_new rfl rfl) rfl (by intro u hu; simp at hu; rcases hu with rfl | rfl | rfl <;> rfl) (by unfold maxLen; omega) (by omega) (by have := hp5.out.lt; simp; omega) ?_
      intro v6 w6 hown6 hgr6 _
      have hrn := hp5.out.row_ne
      have hB6 := (hgr6.block w0.heap.size (lt_of_block (block_alloc hp5.out.blk _)) (fun e => hrn e.symm)).trans (block_alloc hp5.out.blk (.cells #[.int .i64 x.from_, .int .i64 x.to_, .slice An x.b.length cn] 37))
      have hXne : (Value.slice Ak k ck).ownBlock ≠ some wr.heap.size := fun e => by have := own_lt hpk.out.row _ e; omega
      have hX6 := (hgr6.block wr.heap.size (lt_of_block (block_alloc hX5.out _)) (fun e => hXne e.symm)).trans (block_alloc hX5.out (.cells #[.int .i64 x.from_, .int .i64 x.to_, .slice An x.b.length cn] 37))
      have e6 : w6.cell? ⟨w0.heap.size, 2, none⟩ = some (.slice Ak k ck) := cell_of_block hB6 2
      have f6 := free_of_block hB6 2
      have HS : Hid (w6.cell? ⟨w0.heap.size, 2, none⟩ = some (.slice Ak k ck) ∧ w6.cell? ⟨wr.heap.size, 0, none⟩ = some (.int .i64 x.from_) ∧ w6.cell? ⟨wr.heap.size, 1, none⟩ = some (.int .i64 x.to_) ∧ w6.cell? ⟨wr.heap.size, 2, none⟩ = some (.slice Ab x.b.length cb)) := Lib.hid ⟨e6, cell_of_block hX6 0, cell_of_block hX6 1, cell_of_block hX6 2⟩
      have hBW5 := hBX.out.trans (hb5'.out.mono hBX.out.size)
      obtain ⟨hend, hfr⟩ := send_end (w := wr) hp5.out (hbX.out.trans (hb5'.out.mono hbX.out.size)) hown5.out (show wr.heap.size ≤ W2.drew.heap.size from hbX.out.size) (by show w6.ownsRow _ _ _ _ ((s.l.take k).length + 1) _; rw [hlk.out]; exact hown6) hgr6 (by show ((s.l.take k).length : Int) < s.most; rw [hlk.out]; have := hpos.out.2.2; omega)
      obtain ⟨A6, c6', rfl, _⟩ := own_slice hown6
      replace hend := Lib.hid hend
      replace hfr := Lib.hid hfr
      replace hrn := Lib.hid hrn
      replace hB6 := Lib.hid hB6
      replace hXne := Lib.hid hXne
      replace hX6 := Lib.hid hX6
      replace hBW5 := Lib.hid hBW5
      clear hgr6 hown6
      refine hK _ _ (.inl HS.out) ?_; clear hK K
      try simp only [Act.put, List.setIfInBounds_toArray, List.set_cons_zero, List.set_cons_succ]
      -- 9: Op.nilCheck (Operand.tmp 27)
      apply x_take (i := 9) [10, 9] rfl (by kernel_rfl) (fun _ _ _ h => h) HS.out
      · refine .inl ⟨rfl, fun W' hS => ?_⟩
        obtain ⟨s0, s1, s2, s3⟩ := hS; go_simp <;> with_reducible rfl
      try simp only [Act.put, List.setIfInBounds_toArray, List.set_cons_zero, List.set_cons_succ]
      -- 10: Op.fieldAddr 60 (Operand.tmp 36) 2
      apply x_take (i := 10) [10] rfl (by kernel_rfl) (fun _ _ _ h => h) HS.out
      · refine .inl ⟨rfl, fun W' hS => ?_⟩
        obtain ⟨s0, s1, s2, s3⟩ := hS; go_simp <;> with_reducible rfl
      try simp only [Act.put, List.setIfInBounds_toArray, List.set_cons_zero, List.set_cons_succ]
      -- EFF 11: slot None := Op.store 41 (Operand.tmp 37) (Operand.tmp 35)
      refine x_one (i := 11) (by kernel_rfl) rfl rfl (fun K hK => ?_)
      unfold Oper.wp
      go_simp
      refine hK _ _ (.inr rfl) ?_; clear hK K
      try simp only [Act.put, List.setIfInBounds_toArray, List.set_cons_zero, List.set_cons_succ]
      refine x_done (by kernel_rfl) ?_
      go_wp2_with (fail)
      go_roundw
      case rel =>
        have hq := hend.out
        rw [show ({ most := s.most, lost := s.lost, l := s.l.take k ++ [x] } : PS) = ⟨s.most, s.lost, s.l.take (k + 1)⟩ by rw [htk.out]] at hq
        have hq2 := hq.mono (F' := fun j => w0.heap.size ≤ j) (fun j _ e => by rcases e with e | e; exact e; have := hBk.out.size; omega)
        have hq3 := hBk.out.trans (hfr.out.below hBk.out.size (fun j hj e => by
          rcases e with e | e
          · omega
          · have := hpk.out.vlow j e; omega))
        exact ⟨k + 1, by omega, by go_num, Lib.hid ⟨_, _, hq2, hq3⟩⟩
      case measure => simp [intOf]; omega
    · obtain rfl : k = s.l.length := by omega
      go_wp2_with (fail)
      go_ret
      obtain ⟨vk, bk, hpk, hBk⟩ := HR.out
      rw [List.take_length] at hpk
      exact ⟨rfl, ⟨_, _, hpk⟩, hBk⟩
theorem clone_any {β b : Nat} {s : PS} {F : Nat → Prop} {w : World} (h : IsP β b s F w) (hs : SOk s) :
    Calls Try.prog 26 #[.pointer (some ⟨b, 0, none⟩)] w fun e w' => e = .returned (.pointer (some ⟨w.heap.size, 0, none⟩)) ∧ IsP w.heap.size w.heap.size s (fun k => w.heap.size ≤ k) w' ∧ Below w.heap.size w w' := by
  obtain ⟨v, bs, h⟩ := h
  exact clone_pool h hs
end Go.Proofs.Ytjfbiifcjiidfaa
