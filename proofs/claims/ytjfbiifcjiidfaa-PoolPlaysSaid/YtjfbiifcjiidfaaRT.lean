/- The walks through the reference's Take, Drop, Twice, All, To. -/
import Derived.Test.YtjfbiifcjiidfaaRS
namespace Go.Proofs.Ytjfbiifcjiidfaa.R
open Go.RowKit Go.Proofs.Ytjfbiifcjiidfaa

set_option maxHeartbeats 1000000 in
theorem take_out {β b : Nat} {v : Value} {bs : List Value} {s : PS} {F : Nat → Prop} {w : World} (h : PA β b v bs s F w) (i : Int) (hi : i < 0 ∨ (s.l.length : Int) ≤ i) :
    Calls Try.prog 20 #[.pointer (some ⟨b, 0, none⟩), .int .i64 i] w fun e w' => e = .returned (.tuple #[.agg zeroP, .int .i64 3]) ∧ Below w.heap.size w w' := by
  have hb0 : Below w.heap.size w (w.alloc (.cells zeroP 32)) := (Below.refl _ w).alloc (Nat.le_refl _) _
  have h0 := h.of_below hb0
  have c2 : (w.alloc (.cells zeroP 32)).cell? ⟨b, 2, none⟩ = some v := cell_of_block h0.blk 2
  obtain ⟨A, c, rfl, _⟩ := own_slice h.row
  have hlb := h.lt
  have hne : ¬ b = w.heap.size := by omega
  unfold zeroP at *
  replace h := Lib.hid h
  replace h0 := Lib.hid h0
  replace hb0 := Lib.hid hb0
  cases hneg : decide (i < 0)
  · have hge : decide ((s.l.length : Int) ≤ i) = true := by simp at hneg ⊢; omega
    clear hi
    go_enter Try.func20, Try.ntmps20
    go_wp2_with (fail)
    refine bodyPost_ret (v := .tuple #[.agg #[.int .i64 0, .int .i64 0, .slice none 0 0], .int .i64 3]) (by simp [results, Try.results20, go_sem]) rfl ⟨rfl, hb0.out⟩
  · clear hi
    go_enter Try.func20, Try.ntmps20
    go_wp2_with (fail)
    refine bodyPost_ret (v := .tuple #[.agg #[.int .i64 0, .int .i64 0, .slice none 0 0], .int .i64 3]) (by simp [results, Try.results20, go_sem]) rfl ⟨rfl, hb0.out⟩

theorem rd_take {w : World} {g o c k sz : Nat} {xs : List Value} (hg : g < w.heap.size) (h : ∀ j u, xs[j]? = some u → w.cell? ⟨g, o + j, none⟩ = some u) : Rd w (.slice (some ⟨g, o, none⟩) k c) k (xs.take (k * sz)) :=
  .inr ⟨g, o, c, rfl, hg, fun j u hj => by
    have hlt := (List.getElem?_eq_some_iff.1 hj).1
    rw [List.length_take] at hlt
    rw [List.getElem?_take_of_lt (by omega)] at hj
    exact h j u hj⟩
set_option maxHeartbeats 4000000 in
set_option linter.unusedSimpArgs false in
theorem take_ok {β b : Nat} {v : Value} {bs : List Value} {s : PS} {F : Nat → Prop} {w : World} (h : PA β b v bs s F w) (k : Nat) (hk : k < s.l.length) (hkb : k < bs.length) :
    Calls Try.prog 20 #[.pointer (some ⟨b, 0, none⟩), .int .i64 k] w fun e w' => ∃ v2, e = .returned (.tuple #[.agg #[.int .i64 s.l[k].from_, .int .i64 s.l[k].to_, bs[k]], .int .i64 0]) ∧ PA β b v2 (bs.eraseIdx k) { s with l := s.l.eraseIdx k } F w' ∧ Rd w' bs[k] s.l[k].b.length (byV s.l[k].b) ∧ Fr (fun j => j = b) w w' := by
  have hb0 : Below w.heap.size w (w.alloc (.cells zeroP 32)) := (Below.refl _ w).alloc (Nat.le_refl _) _
  have h0 := h.of_below hb0
  have hP0 := alloc_new w (.cells zeroP 32)
  have hlb := h.lt
  obtain ⟨g, cap, rfl, hnc, _, hc⟩ := own_succ h0.row (by omega)
  have c2 : (w.alloc (.cells zeroP 32)).cell? ⟨b, 2, none⟩ = some (.slice (some ⟨g, 0, none⟩) s.l.length cap) := cell_of_block h0.blk 2
  obtain ⟨p0, p1, p2⟩ := pcV_at h.len hk
  have x0 := hc _ _ p0
  have x1 := hc _ _ p1
  have x2 := hc _ _ p2
  have hx9 := h0.byt k hk hkb
  obtain ⟨Ax, cx, hbv⟩ := (h.byt k hk hkb).slice
  have hvbne : ∀ g', (bs[k]).ownBlock = some g' → g' ≠ b ∧ g' < w.heap.size := fun g' hg' => by
    obtain ⟨_, c9, fz, h9⟩ := h.own k hkb g' hg'
    exact ⟨(h.byt_ne k hkb g' hg').1, lt_of_block h9⟩
  have hi0 : (k : Int) < (s.l.length : Int) := by omega
  have hneg : decide ((k : Int) < 0) = false := decide_eq_false (by omega)
  have hge : decide (s.l.length ≤ k) = false := decide_eq_false (by omega)
  have hlen : s.l.length ≤ 1024 := by have := h.pos; omega
  generalize hx : s.l[k] = x at *
  generalize bs[k] = vb at *
  subst hbv
  unfold zeroP at *
  replace h := Lib.hid h
  replace h0 := Lib.hid h0
  replace hb0 := Lib.hid hb0
  replace hP0 := Lib.hid hP0
  replace hx := Lib.hid hx
  replace hx9 := Lib.hid hx9
  clear p0 p1 p2
  go_enter Try.func20, Try.ntmps20
  go_wp2_with (fail)
  have hb1 : Below (w.alloc (.cells #[.int .i64 0, .int .i64 0, .slice none 0 0] 32)).heap.size (w.alloc (.cells #[.int .i64 0, .int .i64 0, .slice none 0 0] 32)) ((w.alloc (.cells #[.int .i64 0, .int .i64 0, .slice none 0 0] 32)).alloc (.cells #[.int .i64 x.from_, .int .i64 x.to_, .slice Ax x.b.length cx] 32)) := (Below.refl _ _).alloc (Nat.le_refl _) _
  have h6 := h0.out.of_below hb1
  have hP6 := block_kept hP0.out hb1
  have hX6 := alloc_new (w.alloc (.cells #[.int .i64 0, .int .i64 0, .slice none 0 0] 32)) (.cells #[.int .i64 x.from_, .int .i64 x.to_, .slice Ax x.b.length cx] 32)
  rw [World.size_alloc] at hX6
  have hB6 := hb0.out.trans (hb1.mono hb0.out.size)
  have hx6 := hx9.out.below hb1
  clear hb1 hc x0 x1 x2 c2
  generalize ((w.alloc (.cells #[.int .i64 0, .int .i64 0, .slice none 0 0] 32)).alloc (.cells #[.int .i64 x.from_, .int .i64 x.to_, .slice Ax x.b.length cx] 32)) = W6 at h6 hP6 hX6 hB6 hx6 ⊢
  have hgW := own_lt h6.row g rfl
  have c6 : W6.cell? ⟨b, 2, none⟩ = some (.slice (some ⟨g, 0, none⟩) s.l.length cap) := cell_of_block h6.blk 2
  obtain ⟨g', cap', eg, _, _, hrow⟩ := own_succ h6.row (by omega)
  cases eg
  have hone6 := h6.one
  have hxl := h6.row.1
  have hbW := h6.low
  have hl6 := h6.lt
  have hszw := lt_of_block hX6
  obtain ⟨i0, hi, hz0, hz1, hz2⟩ := info_parts info_pc
  have k1 : (0 : Int) ≤ (k : Int) + 1 := by omega
  have k2 : (k : Int) + 1 ≤ (s.l.length : Int) := by omega
  have k3 : k ≤ cap := by omega
  have k4 : k + 1 ≤ cap := by omega
  have k5 : k + 1 ≤ s.l.length := by omega
  have k6 : (k : Int) ≤ (cap : Int) := by omega
  have k7 : (s.l.length : Int) ≤ (cap : Int) := by omega
  obtain ⟨Ad, hAd, hsrc⟩ : ∃ Ad : Addr, (if cap = k + 1 then some (⟨g, 0, none⟩ : Addr) else some ⟨g, (k + 1) * 3, none⟩) = some Ad ∧ (∀ W' : World, g < W'.heap.size → (∀ j u, (pcV s.l bs)[j]? = some u → W'.cell? ⟨g, j, none⟩ = some u) → Rd W' (.slice (some Ad) (s.l.length - (k + 1)) (cap - (k + 1))) (s.l.length - (k + 1)) ((pcV s.l bs).drop ((k + 1) * 3))) := by
    by_cases hcap : cap = k + 1
    · refine ⟨⟨g, 0, none⟩, by simp [hcap], fun W' hg _ => .inr ⟨g, 0, _, rfl, hg, fun j u hj => ?_⟩⟩
      rw [List.drop_of_length_le (by omega)] at hj
      cases hj
    · refine ⟨⟨g, (k + 1) * 3, none⟩, by simp [hcap], fun W' hg hcl => .inr ⟨g, _, _, rfl, hg, fun j u hj => ?_⟩⟩
      rw [List.getElem?_drop] at hj
      exact hcl _ u hj
  have hmade : (W6.alloc (.cells #[] 32)).drew.ownsRow W6.heap.size 32 3 (.slice (some ⟨W6.heap.size, 0, none⟩) 0 0) 0 [] := World.ownsRow_made (base := W6.heap.size) (e := 32) (size := 3) W6 #[] 0 (Nat.le_refl _) (by unfold maxLen; omega) rfl
  have hb7 : Below W6.heap.size W6 (W6.alloc (.cells #[] 32)).drew := ((Below.refl _ W6).alloc (Nat.le_refl _) _).drew
  have hrd1 : Rd (W6.alloc (.cells #[] 32)).drew (.slice (some ⟨g, 0, none⟩) k cap) k ((pcV s.l bs).take (k * 3)) := rd_take (Nat.lt_of_lt_of_le hgW hb7.size) (fun j u hj => by rw [Nat.zero_add]; exact cell_kept hb7 (hrow j u hj))
  have HS : Hid (W6.drew.cell? ⟨b, 2, none⟩ = some (.slice (some ⟨g, 0, none⟩) s.l.length cap)) := c6
  have sd1 : ((pcV s.l bs).take (k * 3)).length = k * 3 := by rw [List.length_take]; omega
  have sd2 : ((pcV s.l bs).drop ((k + 1) * 3)).length = (s.l.length - (k + 1)) * 3 := by rw [List.length_drop]; omega
  have sd3 : ∀ u ∈ (pcV s.l bs).take (k * 3), u.oneCell' = true := fun u hu => hone6 u (List.mem_of_mem_take hu)
  have sd4 : ∀ u ∈ (pcV s.l bs).drop ((k + 1) * 3), u.oneCell' = true := fun u hu => hone6 u (List.mem_of_mem_drop hu)
  have sd5 : 0 + k ≤ maxLen := by unfold maxLen; omega
  have sd6 : (0 + k) * 40 ≤ 140737488355328 := by omega
  have sd7 : k + (s.l.length - (k + 1)) ≤ maxLen := by unfold maxLen; omega
  have sd8 : (k + (s.l.length - (k + 1))) * 40 ≤ 140737488355328 := by omega
  replace h6 := Lib.hid h6
  replace hP6 := Lib.hid hP6
  replace hX6 := Lib.hid hX6
  replace hB6 := Lib.hid hB6
  replace hx6 := Lib.hid hx6
  replace hrow := Lib.hid hrow
  replace hone6 := Lib.hid hone6
  replace hxl := Lib.hid hxl
  replace hsrc := Lib.hid hsrc
  replace hmade := Lib.hid hmade
  replace hb7 := Lib.hid hb7
  replace hrd1 := Lib.hid hrd1
  replace sd1 := Lib.hid sd1
  replace sd2 := Lib.hid sd2
  replace sd3 := Lib.hid sd3
  replace sd4 := Lib.hid sd4
  replace sd5 := Lib.hid sd5
  replace sd6 := Lib.hid sd6
  replace sd7 := Lib.hid sd7
  replace sd8 := Lib.hid sd8
  replace hvbne := Lib.hid hvbne
  have w1 : IntKind.i64.wrap ((k : Int) + 1) = (k : Int) + 1 := IntWalk.i64_in _ (by omega)
  have w2' : ((k : Int) + 1).toNat = k + 1 := by omega
  refine region_x (fun W' => W'.cell? ⟨b, 2, none⟩ = some (.slice (some ⟨g, 0, none⟩) s.l.length cap)) 19 (by kernel_rfl) ?_
  -- 0: Op.move (Operand.tmp 0)
  apply x_take (i := 0) [0] rfl (by kernel_rfl) (fun _ _ _ h => h) HS.out
  · refine .inl ⟨rfl, fun W' hS => ?_⟩
    go_simp <;> with_reducible rfl
  try simp only [Act.put, List.setIfInBounds_toArray, List.set_cons_zero, List.set_cons_succ]
  -- 2: Op.move (Operand.tmp 0)
  apply x_take (i := 2) [2] rfl (by kernel_rfl) (fun _ _ _ h => h) HS.out
  · refine .inl ⟨rfl, fun W' hS => ?_⟩
    go_simp <;> with_reducible rfl
  try simp only [Act.put, List.setIfInBounds_toArray, List.set_cons_zero, List.set_cons_succ]
  -- 3: Op.nilCheck (Operand.tmp 28)
  apply x_take (i := 3) [3] rfl (by kernel_rfl) (fun _ _ _ h => h) HS.out
  · refine .inl ⟨rfl, fun W' hS => ?_⟩
    go_simp <;> with_reducible rfl
  try simp only [Act.put, List.setIfInBounds_toArray, List.set_cons_zero, List.set_cons_succ]
  -- 4: Op.fieldAddr 58 (Operand.tmp 29) 2
  apply x_take (i := 4) [4] rfl (by kernel_rfl) (fun _ _ _ h => h) HS.out
  · refine .inl ⟨rfl, fun W' hS => ?_⟩
    go_simp <;> with_reducible rfl
  try simp only [Act.put, List.setIfInBounds_toArray, List.set_cons_zero, List.set_cons_succ]
  -- 5: Op.load 54 (Operand.tmp 30)
  apply x_take (i := 5) [5] rfl (by kernel_rfl) (fun _ _ _ h => h) HS.out
  · refine .inl ⟨rfl, fun W' hS => ?_⟩
    go_simp <;> with_reducible rfl
  try simp only [Act.put, List.setIfInBounds_toArray, List.set_cons_zero, List.set_cons_succ]
  -- 6: Op.move (Operand.tmp 1)
  apply x_take (i := 6) [6] rfl (by kernel_rfl) (fun _ _ _ h => h) HS.out
  · refine .inl ⟨rfl, fun W' hS => ?_⟩
    go_simp <;> with_reducible rfl
  try simp only [Act.put, List.setIfInBounds_toArray, List.set_cons_zero, List.set_cons_succ]
  -- 7: Op.slice 54 (Operand.tmp 31) none (some (Operand.tmp 32)) none
  apply x_take (i := 7) [7] rfl (by kernel_rfl) (fun _ _ _ h => h) HS.out
  · refine .inl ⟨rfl, fun W' hS => ?_⟩
    go_simp <;> with_reducible rfl
  try simp only [Act.put, List.setIfInBounds_toArray, List.set_cons_zero, List.set_cons_succ]
  -- 9: Op.move (Operand.tmp 0)
  apply x_take (i := 9) [9] rfl (by kernel_rfl) (fun _ _ _ h => h) HS.out
  · refine .inl ⟨rfl, fun W' hS => ?_⟩
    go_simp <;> with_reducible rfl
  try simp only [Act.put, List.setIfInBounds_toArray, List.set_cons_zero, List.set_cons_succ]
  -- 10: Op.nilCheck (Operand.tmp 35)
  apply x_take (i := 10) [10] rfl (by kernel_rfl) (fun _ _ _ h => h) HS.out
  · refine .inl ⟨rfl, fun W' hS => ?_⟩
    go_simp <;> with_reducible rfl
  try simp only [Act.put, List.setIfInBounds_toArray, List.set_cons_zero, List.set_cons_succ]
  -- 11: Op.fieldAddr 58 (Operand.tmp 36) 2
  apply x_take (i := 11) [11] rfl (by kernel_rfl) (fun _ _ _ h => h) HS.out
  · refine .inl ⟨rfl, fun W' hS => ?_⟩
    go_simp <;> with_reducible rfl
  try simp only [Act.put, List.setIfInBounds_toArray, List.set_cons_zero, List.set_cons_succ]
  -- 12: Op.load 54 (Operand.tmp 37)
  apply x_take (i := 12) [12] rfl (by kernel_rfl) (fun _ _ _ h => h) HS.out
  · refine .inl ⟨rfl, fun W' hS => ?_⟩
    go_simp <;> with_reducible rfl
  try simp only [Act.put, List.setIfInBounds_toArray, List.set_cons_zero, List.set_cons_succ]
  -- 13: Op.move (Operand.tmp 1)
  apply x_take (i := 13) [13] rfl (by kernel_rfl) (fun _ _ _ h => h) HS.out
  · refine .inl ⟨rfl, fun W' hS => ?_⟩
    go_simp <;> with_reducible rfl
  try simp only [Act.put, List.setIfInBounds_toArray, List.set_cons_zero, List.set_cons_succ]
  -- 14: Op.binOp BinOp.add 3 (Operand.tmp 39) (Operand.const (Value.int IntKind.i64 1)) 3
  apply x_take (i := 14) [14] rfl (by kernel_rfl) (fun _ _ _ h => h) HS.out
  · refine .inl ⟨rfl, fun W' hS => ?_⟩
    go_simp <;> with_reducible rfl
  try simp only [Act.put, List.setIfInBounds_toArray, List.set_cons_zero, List.set_cons_succ]
  -- 15: Op.slice 54 (Operand.tmp 38) (some (Operand.tmp 40)) none none
  apply x_take (i := 15) [15] rfl (by kernel_rfl) (fun _ _ _ h => h) HS.out
  · refine .inl ⟨rfl, fun W' hS => ?_⟩
    go_simp <;> with_reducible rfl
  try simp only [Act.put, List.setIfInBounds_toArray, List.set_cons_zero, List.set_cons_succ]
  -- EFF 1: slot 27 := Op.buildSlice 54 0 #[]
  refine x_one (i := 1) (by kernel_rfl) rfl rfl (fun K hK => ?_)
  unfold Oper.wp
  go_simp
  have HS : Hid ((W6.alloc (.cells #[] 32)).drew.cell? ⟨b, 2, none⟩ = some (.slice (some ⟨g, 0, none⟩) s.l.length cap)) := cell_kept hb7.out c6
  refine hK _ _ (.inl HS.out) ?_; clear hK K
  try simp only [Act.put, List.setIfInBounds_toArray, List.set_cons_zero, List.set_cons_succ]
  -- EFF 8: slot 34 := Op.call { callee := Callee.builtin Builtin.append, args := #[Operand.tmp 27, Operand.tmp 33], argTypes := #[54, 54] }
  refine x_one (i := 8) (by kernel_rfl) rfl rfl (fun K hK => ?_)
  refine wp_append_rd (.tmp 27) (.tmp 33) 54 rfl W6.heap.size 32 i0 _ 3 40 Try.underlying54 hi hz0 hz1 hz2 rfl (by decide) _ 0 [] rfl hmade.out (.slice (some ⟨g, 0, none⟩) k cap) k ((pcV s.l bs).take (k * 3)) rfl hrd1.out sd1.out sd3.out sd5.out sd6.out (by simp) ?_
  intro v2 w2 hown2 hgr2 _
  have hb8 : Below W6.heap.size W6 w2 := hb7.out.grown hgr2 (by simp) (own_base hmade.out)
  have HS : Hid (w2.cell? ⟨b, 2, none⟩ = some (.slice (some ⟨g, 0, none⟩) s.l.length cap)) := cell_kept hb8 c6
  obtain ⟨A2, c2', rfl, _⟩ := own_slice hown2
  simp only [Nat.zero_add, List.nil_append] at hown2 ⊢
  have hrd2 := hsrc.out w2 (Nat.lt_of_lt_of_le hgW hb8.size) (fun j u hj => cell_kept hb8 (hrow.out j u hj))
  replace hown2 := Lib.hid hown2
  replace hb8 := Lib.hid hb8
  replace hrd2 := Lib.hid hrd2
  clear hgr2
  refine hK _ _ (.inl HS.out) ?_; clear hK K
  try simp only [Act.put, List.setIfInBounds_toArray, List.set_cons_zero, List.set_cons_succ]
  -- EFF 16: slot 42 := Op.call { callee := Callee.builtin Builtin.append, args := #[Operand.tmp 34, Operand.tmp 41], argTypes := #[54, 54] }
  refine x_one (i := 16) (by kernel_rfl) rfl rfl (fun K hK => ?_)
  refine wp_append_rd (.tmp 34) (.tmp 41) 54 rfl W6.heap.size 32 i0 _ 3 40 Try.underlying54 hi hz0 hz1 hz2 rfl (by decide) _ k _ rfl hown2.out (.slice (some Ad) (s.l.length - (k + 1)) (cap - (k + 1))) (s.l.length - (k + 1)) ((pcV s.l bs).drop ((k + 1) * 3)) rfl hrd2.out sd2.out sd4.out sd7.out sd8.out hb8.out.size ?_
  intro v3 w3 hown3 hgr3 _
  have hb9 : Below W6.heap.size W6 w3 := hb8.out.grown hgr3 hb8.out.size (own_base hown2.out)
  have hB9 := block_kept h6.out.blk hb9
  have e3 : w3.cell? ⟨b, 2, none⟩ = some (.slice (some ⟨g, 0, none⟩) s.l.length cap) := cell_of_block hB9 2
  have f3 := free_of_block hB9 2
  have HS : Hid (w3.cell? ⟨b, 2, none⟩ = some (.slice (some ⟨g, 0, none⟩) s.l.length cap)) := e3
  obtain ⟨A3, c3', rfl, _⟩ := own_slice hown3
  replace hown3 := Lib.hid hown3
  replace hb9 := Lib.hid hb9
  replace hB9 := Lib.hid hB9
  clear hgr3
  refine hK _ _ (.inl HS.out) ?_; clear hK K
  try simp only [Act.put, List.setIfInBounds_toArray, List.set_cons_zero, List.set_cons_succ]
  -- 17: Op.nilCheck (Operand.tmp 26)
  apply x_take (i := 17) [18, 17] rfl (by kernel_rfl) (fun _ _ _ h => h) HS.out
  · refine .inl ⟨rfl, fun W' hS => ?_⟩
    go_simp <;> with_reducible rfl
  try simp only [Act.put, List.setIfInBounds_toArray, List.set_cons_zero, List.set_cons_succ]
  -- 18: Op.fieldAddr 58 (Operand.tmp 43) 2
  apply x_take (i := 18) [18] rfl (by kernel_rfl) (fun _ _ _ h => h) HS.out
  · refine .inl ⟨rfl, fun W' hS => ?_⟩
    go_simp <;> with_reducible rfl
  try simp only [Act.put, List.setIfInBounds_toArray, List.set_cons_zero, List.set_cons_succ]
  -- EFF 19: slot None := Op.store 54 (Operand.tmp 44) (Operand.tmp 42)
  refine x_one (i := 19) (by kernel_rfl) rfl rfl (fun K hK => ?_)
  unfold Oper.wp
  go_simp
  refine hK _ _ (.inr rfl) ?_; clear hK K
  try simp only [Act.put, List.setIfInBounds_toArray, List.set_cons_zero, List.set_cons_succ]
  refine x_done (by kernel_rfl) ?_
  clear w1 w2'
  have hn1 : k + (s.l.length - (k + 1)) = s.l.length - 1 := by omega
  have hown4 : w3.ownsRow β 32 3 (.slice A3 (k + (s.l.length - (k + 1))) c3') (s.l.length - 1) ((pcV s.l bs).take (k * 3) ++ (pcV s.l bs).drop ((k + 1) * 3)) := by
    have q := own_lower (base' := β) hown3.out (by omega)
    rw [hn1] at q ⊢
    exact q
  obtain ⟨hend, _⟩ := h6.out.erase hk hown4 (Fr.of_below hb9.out)
  have hfr : Fr (fun j => j = b) W6 (w3.setCell ⟨b, 2, none⟩ (.slice A3 (k + (s.l.length - (k + 1))) c3')) := (Fr.of_below (S := fun j => j = b) hb9.out).setCell (p := ⟨b, 2, none⟩) (fun _ => rfl) _
  have hP9 := fr_block hP6.out hfr (by omega)
  have hX9 := fr_block hX6.out hfr (by omega)
  generalize w3.setCell ⟨b, 2, none⟩ (.slice A3 (k + (s.l.length - (k + 1))) c3') = W9 at hend hfr hP9 hX9 ⊢
  have q0 : W9.cell? ⟨w.heap.size + 1, 0, none⟩ = some (.int .i64 x.from_) := cell_of_block hX9 0
  have q1 : W9.cell? ⟨w.heap.size + 1, 1, none⟩ = some (.int .i64 x.to_) := cell_of_block hX9 1
  have q2 : W9.cell? ⟨w.heap.size + 1, 2, none⟩ = some (.slice Ax x.b.length cx) := cell_of_block hX9 2
  have z0 : W9.cell? ⟨w.heap.size, 0, none⟩ = some (.int .i64 0) := cell_of_block hP9 0
  have z1 : W9.cell? ⟨w.heap.size, 1, none⟩ = some (.int .i64 0) := cell_of_block hP9 1
  have z2 : W9.cell? ⟨w.heap.size, 2, none⟩ = some (.slice none 0 0) := cell_of_block hP9 2
  have y0 := free_of_block hP9 0
  have y1 := free_of_block hP9 1
  have y2 := free_of_block hP9 2
  replace hend := Lib.hid hend
  replace hfr := Lib.hid hfr
  replace hP9 := Lib.hid hP9
  replace hX9 := Lib.hid hX9
  replace hown4 := Lib.hid hown4
  replace hn1 := Lib.hid hn1
  go_wp2_with (fail)
  have hs3 := set3_fr W9 w.heap.size (.int .i64 x.from_) (.int .i64 x.to_) (.slice Ax x.b.length cx)
  have hs3b := set3_block hP9.out (.int .i64 x.from_) (.int .i64 x.to_) (.slice Ax x.b.length cx)
  generalize ((W9.setCell ⟨w.heap.size, 0, none⟩ (.int .i64 x.from_)).setCell ⟨w.heap.size, 1, none⟩ (.int .i64 x.to_)).setCell ⟨w.heap.size, 2, none⟩ (.slice Ax x.b.length cx) = W10 at hs3 hs3b ⊢
  have r0 : W10.cell? ⟨w.heap.size, 0, none⟩ = some (.int .i64 x.from_) := cell_of_block hs3b 0
  have r1 : W10.cell? ⟨w.heap.size, 1, none⟩ = some (.int .i64 x.to_) := cell_of_block hs3b 1
  have r2 : W10.cell? ⟨w.heap.size, 2, none⟩ = some (.slice Ax x.b.length cx) := cell_of_block hs3b 2
  have hF10 : Fr (fun j => j = b) w W10 := ((Fr.of_below (S := fun j => j = b) hB6.out).join hfr.out (fun _ _ h => h) (fun _ _ h => h)).join hs3 (fun _ _ h => h) (fun j hj e => by omega)
  have hb9' : Fr (fun j => j = b ∨ j = w.heap.size) W6 W10 := hfr.out.join hs3 (fun _ _ h => .inl h) (fun _ _ h => .inr h)
  have hPA10 := hend.out.fr hs3 (fun e => by omega) (fun g9 hg9 e => by
      have := own_base hown3.out g9 hg9
      omega) (fun i hi g9 hg9 e => by
      obtain ⟨j, hj, e3, _⟩ := getElem_eraseIdx' hi hkb
      rw [e3] at hg9
      obtain ⟨_, c9, fz, h9⟩ := h.out.own j hj g9 hg9
      have := lt_of_block h9
      omega)
  refine bodyPost_ret (v := .tuple #[.agg #[.int .i64 x.from_, .int .i64 x.to_, .slice Ax x.b.length cx], .int .i64 0]) (by simp [results, Try.results20, go_sem, r0, r1, r2]) rfl ⟨_, rfl, hPA10, ?_, hF10⟩
  exact hx6.out.fr hb9' (fun g9 hg9 e => by
    have := hvbne.out g9 hg9
    omega)
end Go.Proofs.Ytjfbiifcjiidfaa.R
