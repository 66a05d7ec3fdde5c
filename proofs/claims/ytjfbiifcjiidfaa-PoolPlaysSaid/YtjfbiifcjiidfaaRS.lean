/- The walks through the reference's New, Send. -/
import Derived.Test.YtjfbiifcjiidfaaHX
import Derived.Test.YtjfbiifcjiidfaaRB
namespace Go.Proofs.Ytjfbiifcjiidfaa.R
open Go.RowKit Go.Proofs.Ytjfbiifcjiidfaa

theorem new_bad (n : Int) (w : World) (h : n < 1 ∨ 1024 < n) : Calls Try.prog 17 #[.int .i64 n] w fun e w' => e = .returned (.pointer none) ∧ w' = w := by
  cases h1 : decide (n < 1)
  · have h2 : decide (1024 < n) = true := by simp at h1 ⊢; omega
    clear h
    go_enter Try.func17, Try.ntmps17
    go_wp2
    go_ret
    exact ⟨rfl, rfl⟩
  · clear h
    go_enter Try.func17, Try.ntmps17
    go_wp2
    go_ret
    exact ⟨rfl, rfl⟩
theorem new_ok (β : Nat) (n : Int) (w : World) (h1 : 1 ≤ n) (h2 : n ≤ 1024) (hβ : β ≤ w.heap.size) : Calls Try.prog 17 #[.int .i64 n] w fun e w' => e = .returned (.pointer (some ⟨w.heap.size, 0, none⟩)) ∧ IsP β w.heap.size ⟨n, 0, []⟩ (fun _ => False) w' ∧ Below w.heap.size w w' := by
  have d1 : decide (n < 1) = false := decide_eq_false (by omega)
  have d2 : decide (1024 < n) = false := decide_eq_false (by omega)
  have hp : 1 ≤ n ∧ n ≤ 1024 := ⟨h1, h2⟩
  replace hp := Lib.hid hp
  clear h1 h2
  go_enter Try.func17, Try.ntmps17
  go_wp2
  go_ret
  refine ⟨rfl, ⟨.slice none 0 0, [], ⟨alloc_new w _, hβ, ⟨hp.out.1, hp.out.2, ?_⟩, World.ownsRow_nil _ _ _ _, rfl, (fun i h => by cases h), (fun i h => by cases h)⟩⟩, (Below.refl _ w).alloc (Nat.le_refl _) _⟩
  have := hp.out.1
  simp; omega

theorem ok_parts {n : Int} : okN n = !(decide (n < 0) || decide (8 ≤ n)) := by
  unfold okN
  by_cases h1 : n < 0
  · rw [decide_eq_true h1, decide_eq_false (by omega)]; rfl
  · by_cases h2 : 8 ≤ n
    · rw [decide_eq_false h1, decide_eq_true h2, decide_eq_true (by omega), decide_eq_false (by omega)]; rfl
    · rw [decide_eq_false h1, decide_eq_false h2, decide_eq_true (by omega), decide_eq_true (by omega)]; rfl
set_option maxHeartbeats 1000000 in
theorem send_bad {β b : Nat} {v : Value} {bs : List Value} {s : PS} {F : Nat → Prop} {w : World} (_h : PA β b v bs s F w) (x : Pc) (A : Option Addr) (n c : Nat) (hx : badP x = true) :
    Calls Try.prog 19 #[.pointer (some ⟨b, 0, none⟩), .agg #[.int .i64 x.from_, .int .i64 x.to_, .slice A n c]] w fun e w' => e = .returned (.int .i64 1) ∧ Below w.heap.size w w' := by
  unfold badP at hx
  rw [ok_parts, ok_parts] at hx
  cases d1 : decide (x.from_ < 0)
  · cases d2 : decide (8 ≤ x.from_)
    · cases d3 : decide (x.to_ < 0)
      · cases d4 : decide (8 ≤ x.to_)
        · have d5 : (x.from_ == x.to_) = true := by rw [d1, d2, d3, d4] at hx; simpa using hx
          clear hx
          go_enter Try.func19, Try.ntmps19
          go_wp2
          go_ret
          exact ⟨rfl, (Below.refl _ w).alloc (Nat.le_refl _) _⟩
        · clear hx
          go_enter Try.func19, Try.ntmps19
          go_wp2
          go_ret
          exact ⟨rfl, (Below.refl _ w).alloc (Nat.le_refl _) _⟩
      · clear hx
        go_enter Try.func19, Try.ntmps19
        go_wp2
        go_ret
        exact ⟨rfl, (Below.refl _ w).alloc (Nat.le_refl _) _⟩
    · clear hx
      go_enter Try.func19, Try.ntmps19
      go_wp2
      go_ret
      exact ⟨rfl, (Below.refl _ w).alloc (Nat.le_refl _) _⟩
  · clear hx
    go_enter Try.func19, Try.ntmps19
    go_wp2
    go_ret
    exact ⟨rfl, (Below.refl _ w).alloc (Nat.le_refl _) _⟩
theorem good_parts {x : Pc} (hx : badP x = false) : decide (x.from_ < 0) = false ∧ decide (8 ≤ x.from_) = false ∧ decide (x.to_ < 0) = false ∧ decide (8 ≤ x.to_) = false ∧ (x.from_ == x.to_) = false := by
  unfold badP at hx
  rw [ok_parts, ok_parts] at hx
  revert hx
  cases decide (x.from_ < 0) <;> cases decide (8 ≤ x.from_) <;> cases decide (x.to_ < 0) <;> cases decide (8 ≤ x.to_) <;> cases (x.from_ == x.to_) <;> simp
set_option maxHeartbeats 2000000 in
theorem send_full {β b : Nat} {v : Value} {bs : List Value} {s : PS} {F : Nat → Prop} {w : World} (h : PA β b v bs s F w) (x : Pc) (A : Option Addr) (n c : Nat) (hx : badP x = false) (hl : s.most ≤ (s.l.length : Int)) :
    Calls Try.prog 19 #[.pointer (some ⟨b, 0, none⟩), .agg #[.int .i64 x.from_, .int .i64 x.to_, .slice A n c]] w fun e w' => e = .returned (.int .i64 7) ∧ PA β b v bs { s with lost := wrap64 (s.lost + 1) } F w' ∧ Fr (fun k => k = b) w w' := by
  have hb0 : Below w.heap.size w (w.alloc (.cells #[.int .i64 x.from_, .int .i64 x.to_, .slice A n c] 32)) := (Below.refl _ w).alloc (Nat.le_refl _) _
  have h1 := h.of_below hb0
  obtain ⟨d1, d2, d3, d4, d5⟩ := good_parts hx
  have c0 : (w.alloc (.cells #[.int .i64 x.from_, .int .i64 x.to_, .slice A n c] 32)).cell? ⟨b, 0, none⟩ = some (.int .i64 s.most) := cell_of_block h1.blk 0
  have c2 : (w.alloc (.cells #[.int .i64 x.from_, .int .i64 x.to_, .slice A n c] 32)).cell? ⟨b, 2, none⟩ = some v := cell_of_block h1.blk 2
  obtain ⟨Av, cv, rfl, _⟩ := own_slice h.row
  have hge : decide (s.most ≤ (s.l.length : Int)) = true := decide_eq_true hl
  have hlb := h.lt
  have hne : ¬ b = w.heap.size := by omega
  replace h := Lib.hid h
  replace h1 := Lib.hid h1
  replace hb0 := Lib.hid hb0
  clear hx hl
  go_enter Try.func19, Try.ntmps19
  go_wp2_with (fail)
  go_quiet (fail)
  have hq : Below (w.alloc (.cells #[.int .i64 x.from_, .int .i64 x.to_, .slice A n c] 32)).heap.size (w.alloc (.cells #[.int .i64 x.from_, .int .i64 x.to_, .slice A n c] 32)) ((w.alloc (.cells #[.int .i64 x.from_, .int .i64 x.to_, .slice A n c] 32)).drewN nq) := below_drewN (Below.refl _ _) nq
  have h6 := h1.out.of_below hq
  have hB6 := hb0.out.trans (hq.mono hb0.out.size)
  clear c0 c2 hq
  generalize (w.alloc (.cells #[.int .i64 x.from_, .int .i64 x.to_, .slice A n c] 32)).drewN nq = W6 at h6 hB6 ⊢
  have c1 : W6.cell? ⟨b, 1, none⟩ = some (.int .i64 s.lost) := cell_of_block h6.blk 1
  have f1 := free_of_block h6.blk 1
  have hend := h6.lostS (wrap64 (s.lost + 1))
  have hfr : Fr (fun k => k = b) w (W6.setCell ⟨b, 1, none⟩ (.int .i64 (wrap64 (s.lost + 1)))) := (Fr.of_below (S := fun k => k = b) hB6).setCell (p := ⟨b, 1, none⟩) (fun _ => rfl) _
  replace h6 := Lib.hid h6
  replace hB6 := Lib.hid hB6
  replace hend := Lib.hid hend
  replace hfr := Lib.hid hfr
  go_wp2_with (fail)
  go_ret
  exact ⟨rfl, hend.out, hfr.out⟩

theorem info_pc : (Try.prog.info? 32).map (fun i => (i.zero, i.size, i.bytes)) = some (some (.agg #[.int .i64 0, .int .i64 0, .slice none 0 0]), 3, 40) := by kernel_rfl
set_option maxHeartbeats 4000000 in
set_option linter.unusedSimpArgs false in
theorem send_ok {β b : Nat} {v : Value} {bs : List Value} {s : PS} {F : Nat → Prop} {w : World} (h : PA β b v bs s F w) (x : Pc) (A : Option Addr) (c : Nat) (hv : Rd w (.slice A x.b.length c) x.b.length (byV x.b)) (hb : x.b.length ≤ 1000000) (hx : badP x = false) (hl : (s.l.length : Int) < s.most) :
    Calls Try.prog 19 #[.pointer (some ⟨b, 0, none⟩), .agg #[.int .i64 x.from_, .int .i64 x.to_, .slice A x.b.length c]] w fun e w' => e = .returned (.int .i64 0) ∧ (∃ v' vb', PA β b v' (bs ++ [vb']) { s with l := s.l ++ [x] } (fun k => F k ∨ w.heap.size ≤ k) w') ∧ Fr (fun k => k = b ∨ v.ownBlock = some k) w w' := by
  have hb0 : Below w.heap.size w (w.alloc (.cells #[.int .i64 x.from_, .int .i64 x.to_, .slice A x.b.length c] 32)) := (Below.refl _ w).alloc (Nat.le_refl _) _
  have h1 := h.of_below hb0
  have hP := alloc_new w (.cells #[.int .i64 x.from_, .int .i64 x.to_, .slice A x.b.length c] 32)
  have hv1 := hv.below hb0
  obtain ⟨d1, d2, d3, d4, d5⟩ := good_parts hx
  have c0 : (w.alloc (.cells #[.int .i64 x.from_, .int .i64 x.to_, .slice A x.b.length c] 32)).cell? ⟨b, 0, none⟩ = some (.int .i64 s.most) := cell_of_block h1.blk 0
  have c2 : (w.alloc (.cells #[.int .i64 x.from_, .int .i64 x.to_, .slice A x.b.length c] 32)).cell? ⟨b, 2, none⟩ = some v := cell_of_block h1.blk 2
  obtain ⟨i0, hi, hz0, hz1, hz2⟩ := info_parts info_pc
  obtain ⟨j0, hj, jz0, jz1, jz2⟩ := info_parts info_byte
  obtain ⟨Av, cv, rfl, _⟩ := own_slice h.row
  have hge : decide (s.most ≤ (s.l.length : Int)) = false := decide_eq_false (by omega)
  have hlb := h.lt
  have hne : ¬ b = w.heap.size := by omega
  have hwn : some w.heap.size ≠ (Value.slice Av s.l.length cv).ownBlock := fun e => by have := own_lt h.row _ e.symm; omega
  have hbn : some b ≠ (Value.slice Av s.l.length cv).ownBlock := fun e => h.row_ne e.symm
  replace hwn := Lib.hid hwn
  replace hbn := Lib.hid hbn
  replace h := Lib.hid h
  replace h1 := Lib.hid h1
  replace hb0 := Lib.hid hb0
  replace hP := Lib.hid hP
  replace hv := Lib.hid hv
  clear hx
  replace hl := Lib.hid hl
  go_enter Try.func19, Try.ntmps19
  go_wp2_with (fail)
  go_quiet (fail)
  go_wp2_with (fail)
  have hq : Below (w.alloc (.cells #[.int .i64 x.from_, .int .i64 x.to_, .slice A x.b.length c] 32)).heap.size (w.alloc (.cells #[.int .i64 x.from_, .int .i64 x.to_, .slice A x.b.length c] 32)) ((w.alloc (.cells #[.int .i64 x.from_, .int .i64 x.to_, .slice A x.b.length c] 32)).drewN nq) := below_drewN (Below.refl _ _) nq
  have h6 := h1.out.of_below hq
  have hv6 := hv1.below hq
  have hP6 := block_kept hP.out hq
  have hB6 := hb0.out.trans (hq.mono hb0.out.size)
  have hlw : w.heap.size < ((w.alloc (.cells #[.int .i64 x.from_, .int .i64 x.to_, .slice A x.b.length c] 32)).drewN nq).heap.size := lt_of_block hP6
  clear c0 c2 hv1 hq
  generalize (w.alloc (.cells #[.int .i64 x.from_, .int .i64 x.to_, .slice A x.b.length c] 32)).drewN nq = W6 at h6 hv6 hP6 hB6 hlw ⊢
  have y0 : W6.cell? ⟨w.heap.size, 0, none⟩ = some (.int .i64 x.from_) := cell_of_block hP6 0
  have y1 : W6.cell? ⟨w.heap.size, 1, none⟩ = some (.int .i64 x.to_) := cell_of_block hP6 1
  have y2 : W6.cell? ⟨w.heap.size, 2, none⟩ = some (.slice A x.b.length c) := cell_of_block hP6 2
  have c2 : W6.cell? ⟨b, 2, none⟩ = some (.slice Av s.l.length cv) := cell_of_block h6.blk 2
  have hl6 := h6.lt
  have hmade := World.ownsRow_made (base := W6.heap.size) (e := 5) (size := 1) W6 #[] 0 (Nat.le_refl _) (by unfold maxLen; omega) rfl
  have hb7 : Below W6.heap.size W6 (W6.alloc (.cells #[] 5)).drew := ((Below.refl _ W6).alloc (Nat.le_refl _) _).drew
  have hr7 := Lib.hid (hv6.below hb7)
  have hown7 : (W6.alloc (.cells #[] 5)).drew.ownsRow W6.heap.size 5 1 (.slice (some ⟨W6.heap.size, 0, none⟩) 0 0) 0 [] := hmade
  have sd1 : (byV x.b).length = x.b.length * 1 := by rw [byV_length]; omega
  have sd2 : 0 + x.b.length ≤ maxLen := by unfold maxLen; omega
  have sd3 : (0 + x.b.length) * 1 ≤ 140737488355328 := by omega
  have sd4 : W6.heap.size ≤ (W6.alloc (.cells #[] 5)).drew.heap.size := by simp
  have sd5 : s.l.length + 1 ≤ maxLen := by have := h6.pos; unfold maxLen; omega
  have sd6 : (s.l.length + 1) * 40 ≤ 140737488355328 := by have := h6.pos; omega
  replace sd1 := Lib.hid sd1
  replace sd2 := Lib.hid sd2
  replace sd3 := Lib.hid sd3
  replace sd4 := Lib.hid sd4
  replace sd5 := Lib.hid sd5
  replace sd6 := Lib.hid sd6
  replace hown7 := Lib.hid hown7
  replace hb7 := Lib.hid hb7
  replace h6 := Lib.hid h6
  replace hP6 := Lib.hid hP6
  clear hv6 hmade
  have HS : Hid (W6.drew.cell? ⟨w.heap.size, 0, none⟩ = some (.int .i64 x.from_) ∧ W6.drew.cell? ⟨w.heap.size, 1, none⟩ = some (.int .i64 x.to_) ∧ W6.drew.cell? ⟨w.heap.size, 2, none⟩ = some (.slice A x.b.length c) ∧ W6.drew.cell? ⟨b, 2, none⟩ = some (.slice Av s.l.length cv)) := Lib.hid ⟨y0, y1, y2, c2⟩
  refine region_x (fun W' => W'.cell? ⟨w.heap.size, 0, none⟩ = some (.int .i64 x.from_) ∧ W'.cell? ⟨w.heap.size, 1, none⟩ = some (.int .i64 x.to_) ∧ W'.cell? ⟨w.heap.size, 2, none⟩ = some (.slice A x.b.length c) ∧ W'.cell? ⟨b, 2, none⟩ = some (.slice Av s.l.length cv)) 18 (by kernel_rfl) ?_
  -- 0: Op.move (Operand.tmp 0)
  apply x_take (i := 0) [0] rfl (by kernel_rfl) (fun _ _ _ h => h) HS.out
  · refine .inl ⟨rfl, fun W' hS => ?_⟩
    obtain ⟨s0, s1, s2, s3⟩ := hS; go_simp <;> with_reducible rfl
  try simp only [Act.put, List.setIfInBounds_toArray, List.set_cons_zero, List.set_cons_succ]
  -- 1: Op.move (Operand.tmp 0)
  apply x_take (i := 1) [1] rfl (by kernel_rfl) (fun _ _ _ h => h) HS.out
  · refine .inl ⟨rfl, fun W' hS => ?_⟩
    obtain ⟨s0, s1, s2, s3⟩ := hS; go_simp <;> with_reducible rfl
  try simp only [Act.put, List.setIfInBounds_toArray, List.set_cons_zero, List.set_cons_succ]
  -- 2: Op.nilCheck (Operand.tmp 48)
  apply x_take (i := 2) [2] rfl (by kernel_rfl) (fun _ _ _ h => h) HS.out
  · refine .inl ⟨rfl, fun W' hS => ?_⟩
    obtain ⟨s0, s1, s2, s3⟩ := hS; go_simp <;> with_reducible rfl
  try simp only [Act.put, List.setIfInBounds_toArray, List.set_cons_zero, List.set_cons_succ]
  -- 3: Op.fieldAddr 58 (Operand.tmp 49) 2
  apply x_take (i := 3) [3] rfl (by kernel_rfl) (fun _ _ _ h => h) HS.out
  · refine .inl ⟨rfl, fun W' hS => ?_⟩
    obtain ⟨s0, s1, s2, s3⟩ := hS; go_simp <;> with_reducible rfl
  try simp only [Act.put, List.setIfInBounds_toArray, List.set_cons_zero, List.set_cons_succ]
  -- 4: Op.load 54 (Operand.tmp 50)
  apply x_take (i := 4) [4] rfl (by kernel_rfl) (fun _ _ _ h => h) HS.out
  · refine .inl ⟨rfl, fun W' hS => ?_⟩
    obtain ⟨s0, s1, s2, s3⟩ := hS; go_simp <;> with_reducible rfl
  try simp only [Act.put, List.setIfInBounds_toArray, List.set_cons_zero, List.set_cons_succ]
  -- 5: Op.fieldAddr 32 (Operand.tmp 3) 0
  apply x_take (i := 5) [5] rfl (by kernel_rfl) (fun _ _ _ h => h) HS.out
  · refine .inl ⟨rfl, fun W' hS => ?_⟩
    obtain ⟨s0, s1, s2, s3⟩ := hS; go_simp <;> with_reducible rfl
  try simp only [Act.put, List.setIfInBounds_toArray, List.set_cons_zero, List.set_cons_succ]
  -- 6: Op.load 3 (Operand.tmp 52)
  apply x_take (i := 6) [6] rfl (by kernel_rfl) (fun _ _ _ h => h) HS.out
  · refine .inl ⟨rfl, fun W' hS => ?_⟩
    obtain ⟨s0, s1, s2, s3⟩ := hS; go_simp <;> with_reducible rfl
  try simp only [Act.put, List.setIfInBounds_toArray, List.set_cons_zero, List.set_cons_succ]
  -- 7: Op.fieldAddr 32 (Operand.tmp 3) 1
  apply x_take (i := 7) [7] rfl (by kernel_rfl) (fun _ _ _ h => h) HS.out
  · refine .inl ⟨rfl, fun W' hS => ?_⟩
    obtain ⟨s0, s1, s2, s3⟩ := hS; go_simp <;> with_reducible rfl
  try simp only [Act.put, List.setIfInBounds_toArray, List.set_cons_zero, List.set_cons_succ]
  -- 8: Op.load 3 (Operand.tmp 54)
  apply x_take (i := 8) [8] rfl (by kernel_rfl) (fun _ _ _ h => h) HS.out
  · refine .inl ⟨rfl, fun W' hS => ?_⟩
    obtain ⟨s0, s1, s2, s3⟩ := hS; go_simp <;> with_reducible rfl
  try simp only [Act.put, List.setIfInBounds_toArray, List.set_cons_zero, List.set_cons_succ]
  -- 10: Op.fieldAddr 32 (Operand.tmp 3) 2
  apply x_take (i := 10) [10] rfl (by kernel_rfl) (fun _ _ _ h => h) HS.out
  · refine .inl ⟨rfl, fun W' hS => ?_⟩
    obtain ⟨s0, s1, s2, s3⟩ := hS; go_simp <;> with_reducible rfl
  try simp only [Act.put, List.setIfInBounds_toArray, List.set_cons_zero, List.set_cons_succ]
  -- 11: Op.load 30 (Operand.tmp 57)
  apply x_take (i := 11) [11] rfl (by kernel_rfl) (fun _ _ _ h => h) HS.out
  · refine .inl ⟨rfl, fun W' hS => ?_⟩
    obtain ⟨s0, s1, s2, s3⟩ := hS; go_simp <;> with_reducible rfl
  try simp only [Act.put, List.setIfInBounds_toArray, List.set_cons_zero, List.set_cons_succ]
  -- EFF 9: slot 56 := Op.buildSlice 30 0 #[]
  refine x_one (i := 9) (by kernel_rfl) rfl rfl (fun K hK => ?_)
  unfold Oper.wp
  go_simp
  have HS : Hid (((W6.alloc (.cells #[] 5)).drew).cell? ⟨w.heap.size, 0, none⟩ = some (.int .i64 x.from_) ∧ ((W6.alloc (.cells #[] 5)).drew).cell? ⟨w.heap.size, 1, none⟩ = some (.int .i64 x.to_) ∧ ((W6.alloc (.cells #[] 5)).drew).cell? ⟨w.heap.size, 2, none⟩ = some (.slice A x.b.length c) ∧ ((W6.alloc (.cells #[] 5)).drew).cell? ⟨b, 2, none⟩ = some (.slice Av s.l.length cv)) := Lib.hid ⟨cell_kept hb7.out y0, cell_kept hb7.out y1, cell_kept hb7.out y2, cell_kept hb7.out c2⟩
  refine hK _ _ (.inl HS.out) ?_; clear hK K
  try simp only [Act.put, List.setIfInBounds_toArray, List.set_cons_zero, List.set_cons_succ]
  -- EFF 12: slot 59 := Op.call { callee := Callee.builtin Builtin.append, args := #[Operand.tmp 56, Operand.tmp 58], argTypes := #[30, 30] }
  refine x_one (i := 12) (by kernel_rfl) rfl rfl (fun K hK => ?_)
  refine wp_append_rd (.tmp 56) (.tmp 58) 30 rfl W6.heap.size 5 j0 _ 1 1 Try.underlying30 hj jz0 jz1 jz2 rfl (by decide) _ 0 [] rfl hown7.out (.slice A x.b.length c) x.b.length (byV x.b) rfl hr7.out sd1.out (byV_one _) sd2.out sd3.out sd4.out ?_
  intro vb w2 hown2 hgr hat2
  have hb8 : Below W6.heap.size W6 w2 := hb7.out.grown hgr (by simp) (fun k hk => by have e2 : W6.heap.size = k := Option.some.inj (show some W6.heap.size = some k from hk); omega)
  have h8 := h6.out.of_below hb8
  have hP8 := block_kept hP6.out hb8
  have hl8 := h8.lt
  have hlw8 := lt_of_block hP8
  have q0 := cell_kept hb8 y0
  have q1 := cell_kept hb8 y1
  have q2 := cell_kept hb8 y2
  have q3 := cell_kept hb8 c2
  have HS : Hid (w2.cell? ⟨w.heap.size, 0, none⟩ = some (.int .i64 x.from_) ∧ w2.cell? ⟨w.heap.size, 1, none⟩ = some (.int .i64 x.to_) ∧ w2.cell? ⟨w.heap.size, 2, none⟩ = some (.slice A x.b.length c) ∧ w2.cell? ⟨b, 2, none⟩ = some (.slice Av s.l.length cv)) := Lib.hid ⟨q0, q1, q2, q3⟩
  obtain ⟨Ab, cb, rfl, _⟩ := own_slice hown2
  simp only [Nat.zero_add, List.nil_append] at hown2 ⊢
  replace hown2 := Lib.hid hown2
  replace hgr := Lib.hid hgr
  replace hat2 := Lib.hid hat2
  replace hb8 := Lib.hid hb8
  replace h8 := Lib.hid h8
  replace hP8 := Lib.hid hP8
  clear y0 y1 y2 c2
  refine hK _ _ (.inl HS.out) ?_; clear hK K
  try simp only [Act.put, List.setIfInBounds_toArray, List.set_cons_zero, List.set_cons_succ]
  -- 13: Op.build 32 #[(0, Operand.tmp 53), (1, Operand.tmp 55), (2, Operand.tmp 59)]
  apply x_take (i := 13) [13] rfl (by kernel_rfl) (fun _ _ _ h => h) HS.out
  · refine .inl ⟨rfl, fun W' hS => ?_⟩
    obtain ⟨s0, s1, s2, s3⟩ := hS; go_simp <;> with_reducible rfl
  try simp only [Act.put, List.setIfInBounds_toArray, List.set_cons_zero, List.set_cons_succ]
  -- EFF 14: slot 61 := Op.buildSlice 54 1 #[(0, Operand.tmp 60)]
  refine x_one (i := 14) (by kernel_rfl) rfl rfl (fun K hK => ?_)
  unfold Oper.wp
  go_simp
  have hb9 : Below w2.heap.size w2 (w2.alloc (.cells #[.int .i64 x.from_, .int .i64 x.to_, .slice Ab x.b.length cb] 32)) := (Below.refl _ w2).alloc (Nat.le_refl _) _
  have HS : Hid ((w2.alloc (.cells #[.int .i64 x.from_, .int .i64 x.to_, .slice Ab x.b.length cb] 32)).cell? ⟨w.heap.size, 0, none⟩ = some (.int .i64 x.from_) ∧ (w2.alloc (.cells #[.int .i64 x.from_, .int .i64 x.to_, .slice Ab x.b.length cb] 32)).cell? ⟨w.heap.size, 1, none⟩ = some (.int .i64 x.to_) ∧ (w2.alloc (.cells #[.int .i64 x.from_, .int .i64 x.to_, .slice Ab x.b.length cb] 32)).cell? ⟨w.heap.size, 2, none⟩ = some (.slice A x.b.length c) ∧ (w2.alloc (.cells #[.int .i64 x.from_, .int .i64 x.to_, .slice Ab x.b.length cb] 32)).cell? ⟨b, 2, none⟩ = some (.slice Av s.l.length cv)) := Lib.hid ⟨cell_kept hb9 q0, cell_kept hb9 q1, cell_kept hb9 q2, cell_kept hb9 q3⟩
  clear hb9
  refine hK _ _ (.inl HS.out) ?_; clear hK K
  try simp only [Act.put, List.setIfInBounds_toArray, List.set_cons_zero, List.set_cons_succ]
  -- EFF 15: slot 62 := Op.call { callee := Callee.builtin Builtin.append, args := #[Operand.tmp 51, Operand.tmp 61], argTypes := #[54, 54] }
  refine x_one (i := 15) (by kernel_rfl) rfl rfl (fun K hK => ?_)
  refine wp_append_rd (.tmp 51) (.tmp 61) 54 rfl β 32 i0 _ 3 40 Try.underlying54 hi hz0 hz1 hz2 rfl (by decide) _ _ _ rfl (h8.out.row.alloc (.cells #[.int .i64 x.from_, .int .i64 x.to_, .slice Ab x.b.length cb] 32)) (.slice (some ⟨w2.heap.size, 0, none⟩) 1 1) 1 [.int .i64 x.from_, .int .i64 x.to_, .slice Ab x.b.length cb] rfl (rd_new rfl rfl) rfl (by intro u hu; simp at hu; rcases hu with rfl | rfl | rfl <;> rfl) sd5.out sd6.out (by have := h8.out.low; simp; omega) ?_
  intro v3 w3 hown3 hgr3 _
  have hPa := block_alloc hP8.out (.cells #[.int .i64 x.from_, .int .i64 x.to_, .slice Ab x.b.length cb] 32)
  have hP9 := (hgr3.block w.heap.size (lt_of_block hPa) hwn.out).trans hPa
  have hBa := block_alloc h8.out.blk (.cells #[.int .i64 x.from_, .int .i64 x.to_, .slice Ab x.b.length cb] 32)
  have hB9 := (hgr3.block b (lt_of_block hBa) hbn.out).trans hBa
  have e3 : w3.cell? ⟨b, 2, none⟩ = some (.slice Av s.l.length cv) := cell_of_block hB9 2
  have f3 := free_of_block hB9 2
  have HS : Hid (w3.cell? ⟨w.heap.size, 0, none⟩ = some (.int .i64 x.from_) ∧ w3.cell? ⟨w.heap.size, 1, none⟩ = some (.int .i64 x.to_) ∧ w3.cell? ⟨w.heap.size, 2, none⟩ = some (.slice A x.b.length c) ∧ w3.cell? ⟨b, 2, none⟩ = some (.slice Av s.l.length cv)) := Lib.hid ⟨cell_of_block hP9 0, cell_of_block hP9 1, cell_of_block hP9 2, e3⟩
  obtain ⟨A3, c3', rfl, _⟩ := own_slice hown3
  replace hown3 := Lib.hid hown3
  replace hB9 := Lib.hid hB9
  replace hP9 := Lib.hid hP9
  replace hPa := Lib.hid hPa
  replace hBa := Lib.hid hBa
  replace hgr3 := Lib.hid hgr3
  clear q0 q1 q2 q3
  refine hK _ _ (.inl HS.out) ?_; clear hK K
  try simp only [Act.put, List.setIfInBounds_toArray, List.set_cons_zero, List.set_cons_succ]
  -- 16: Op.nilCheck (Operand.tmp 47)
  apply x_take (i := 16) [17, 16] rfl (by kernel_rfl) (fun _ _ _ h => h) HS.out
  · refine .inl ⟨rfl, fun W' hS => ?_⟩
    obtain ⟨s0, s1, s2, s3⟩ := hS; go_simp <;> with_reducible rfl
  try simp only [Act.put, List.setIfInBounds_toArray, List.set_cons_zero, List.set_cons_succ]
  -- 17: Op.fieldAddr 58 (Operand.tmp 63) 2
  apply x_take (i := 17) [17] rfl (by kernel_rfl) (fun _ _ _ h => h) HS.out
  · refine .inl ⟨rfl, fun W' hS => ?_⟩
    obtain ⟨s0, s1, s2, s3⟩ := hS; go_simp <;> with_reducible rfl
  try simp only [Act.put, List.setIfInBounds_toArray, List.set_cons_zero, List.set_cons_succ]
  -- EFF 18: slot None := Op.store 54 (Operand.tmp 64) (Operand.tmp 62)
  refine x_one (i := 18) (by kernel_rfl) rfl rfl (fun K hK => ?_)
  unfold Oper.wp
  go_simp
  refine hK _ _ (.inr rfl) ?_; clear hK K
  try simp only [Act.put, List.setIfInBounds_toArray, List.set_cons_zero, List.set_cons_succ]
  refine x_done (by kernel_rfl) ?_
  go_wp2_with (fail)
  go_ret
  have hend := send_end h8.out (hB6.trans (hb8.out.mono hB6.size)) hown2.out hB6.size hown3.out hgr3.out hl.out
  exact ⟨rfl, ⟨_, _, hend.1⟩, hend.2⟩
end Go.Proofs.Ytjfbiifcjiidfaa.R
