/- The walk through the law's Own whole. -/
import Derived.Test.YtghhmannenjchaaON
namespace Go.Proofs.Ytghhmannenjchaa
open Go.RowKit

theorem info_opr (x : D_gleberef07_Op) : (Try.prog.info? 33).map (·.size) = some (D_gleberef07_Op.cs x).length := by
  rw [show (D_gleberef07_Op.cs x).length = 7 from rfl]; kernel_rfl
theorem info_rectr (x : D_gleberef04_Rect) : (Try.prog.info? 35).map (·.size) = some (D_gleberef04_Rect.cs x).length := by
  rw [show (D_gleberef04_Rect.cs x).length = 4 from rfl]; kernel_rfl
theorem info_calla (x : D_gleberef19_Call) : (Try.prog.info? 48).map (·.size) = some (D_gleberef19_Call.cs x).toArray.size := info_call x
theorem call_one (x : D_gleberef19_Call) : (D_gleberef19_Call.cs x).toArray.all (·.oneCell') = true := by simp [D_gleberef19_Call.cs, Value.oneCell']
def zeroCall : Array Value := (D_gleberef19_Call.cs ⟨0, false, ⟨0, ⟨0, 0⟩, ByteArray.empty, ByteArray.empty, 0, 0⟩, ⟨0, 0, 0, 0⟩⟩).toArray
set_option maxHeartbeats 8000000 in
set_option maxRecDepth 100000 in
set_option linter.unusedSimpArgs false in
theorem own_any (r : Res) (Ar : Option Addr) (cr : Nat) (w : World) (hr : RdK D_gleberef07_Rec.k w (.slice Ar r.recs.length cr) r.recs) (hn : r.recs.length ≤ 1000) :
    Calls Try.prog 9 #[.agg (D_gleberef19_Result.cs r (.slice Ar r.recs.length cr)).toArray] w fun e w' => ∃ v', e = .returned (.agg (D_gleberef19_Result.cs r v').toArray) ∧ w'.ownsRow w.heap.size 64 5 v' r.recs.length (recV r.recs) ∧ Below w.heap.size w w' := by
  have hbox0 := block_alloc (alloc_new w (.cells (D_gleberef19_Result.cs r (.slice Ar r.recs.length cr)).toArray 42)) (.cells zeroRes 53)
  have hres0 := alloc_new (w.alloc (.cells (D_gleberef19_Result.cs r (.slice Ar r.recs.length cr)).toArray 42)) (.cells zeroRes 53)
  rw [World.size_alloc] at hres0
  have hB0 : Below w.heap.size w ((w.alloc (.cells (D_gleberef19_Result.cs r (.slice Ar r.recs.length cr)).toArray 42)).alloc (.cells zeroRes 53)) := ((Below.refl _ w).alloc (Nat.le_refl _) _).alloc (by simp) _
  replace hr := hr.below hB0
  go_enter Try.func9, Try.ntmps9
  go_upto_region 1 with (fail)
  show Code.wp _ _ _ _ ((w.alloc (.cells (D_gleberef19_Result.cs r (.slice Ar r.recs.length cr)).toArray 42)).alloc (.cells zeroRes 53))
  generalize (w.alloc (.cells (D_gleberef19_Result.cs r (.slice Ar r.recs.length cr)).toArray 42)).alloc (.cells zeroRes 53) = W at *
  have hbd : Below W.heap.size W W.drew := (Below.refl _ W).drew
  have e0 : W.drew.cell? ⟨w.heap.size, 0, none⟩ = some (.int .i64 r.call.seq) := cell_of_block hbox0 0
  have e1 : W.drew.cell? ⟨w.heap.size, 1, none⟩ = some (.bool r.call.win) := cell_of_block hbox0 1
  have e2 : W.drew.rangeAt w.heap.size 2 (D_gleberef07_Op.cs r.call.op) := range_below (range_mid [.int .i64 r.call.seq, .bool r.call.win] (D_gleberef07_Op.cs r.call.op) (D_gleberef04_Rect.cs r.call.rect ++ .int .i64 r.e :: D_gleberef07_Ans.cs r.ans ++ [.slice Ar r.recs.length cr]) hbox0) hbd
  have e3 : W.drew.rangeAt w.heap.size 9 (D_gleberef04_Rect.cs r.call.rect) := range_below (range_mid (.int .i64 r.call.seq :: .bool r.call.win :: D_gleberef07_Op.cs r.call.op) (D_gleberef04_Rect.cs r.call.rect) (.int .i64 r.e :: D_gleberef07_Ans.cs r.ans ++ [.slice Ar r.recs.length cr]) hbox0) hbd
  have HS : Hid (W.drew.cell? ⟨w.heap.size, 0, none⟩ = some (.int .i64 r.call.seq) ∧ W.drew.cell? ⟨w.heap.size, 1, none⟩ = some (.bool r.call.win) ∧ W.drew.rangeAt w.heap.size 2 (D_gleberef07_Op.cs r.call.op) ∧ W.drew.rangeAt w.heap.size 9 (D_gleberef04_Rect.cs r.call.rect)) := Lib.hid ⟨e0, e1, e2, e3⟩
  clear e0 e1 e2 e3
  have hbox := Lib.hid hbox0
  have hres := Lib.hid hres0
  have hB := Lib.hid hB0
  replace hr := Lib.hid hr
  clear hbox0 hres0 hB0
  refine region_x (fun W' => W'.cell? ⟨w.heap.size, 0, none⟩ = some (.int .i64 r.call.seq) ∧ W'.cell? ⟨w.heap.size, 1, none⟩ = some (.bool r.call.win) ∧ W'.rangeAt w.heap.size 2 (D_gleberef07_Op.cs r.call.op) ∧ W'.rangeAt w.heap.size 9 (D_gleberef04_Rect.cs r.call.rect)) 16 (by kernel_rfl) ?_
  -- 0: Op.fieldAddr 42 (Operand.tmp 1) 0
  apply x_take (i := 0) [0] rfl (by kernel_rfl) (fun _ _ _ h => h) HS.out
  · refine .inl ⟨rfl, fun W' hS => ?_⟩
    obtain ⟨s0, s1, s2, s3⟩ := hS; go_simp <;> with_reducible rfl
  try simp only [Act.put, List.setIfInBounds_toArray, List.set_cons_zero, List.set_cons_succ, List.getElem_toArray, List.getElem_cons_zero, List.getElem_cons_succ]
  -- 1: Op.fieldAddr 37 (Operand.tmp 4) 0
  apply x_take (i := 1) [1] rfl (by kernel_rfl) (fun _ _ _ h => h) HS.out
  · refine .inl ⟨rfl, fun W' hS => ?_⟩
    obtain ⟨s0, s1, s2, s3⟩ := hS; go_simp <;> with_reducible rfl
  try simp only [Act.put, List.setIfInBounds_toArray, List.set_cons_zero, List.set_cons_succ, List.getElem_toArray, List.getElem_cons_zero, List.getElem_cons_succ]
  -- 2: Op.load 3 (Operand.tmp 5)
  apply x_take (i := 2) [2] rfl (by kernel_rfl) (fun _ _ _ h => h) HS.out
  · refine .inl ⟨rfl, fun W' hS => ?_⟩
    obtain ⟨s0, s1, s2, s3⟩ := hS; go_simp <;> with_reducible rfl
  try simp only [Act.put, List.setIfInBounds_toArray, List.set_cons_zero, List.set_cons_succ, List.getElem_toArray, List.getElem_cons_zero, List.getElem_cons_succ]
  -- 3: Op.fieldAddr 42 (Operand.tmp 1) 0
  apply x_take (i := 3) [3] rfl (by kernel_rfl) (fun _ _ _ h => h) HS.out
  · refine .inl ⟨rfl, fun W' hS => ?_⟩
    obtain ⟨s0, s1, s2, s3⟩ := hS; go_simp <;> with_reducible rfl
  try simp only [Act.put, List.setIfInBounds_toArray, List.set_cons_zero, List.set_cons_succ, List.getElem_toArray, List.getElem_cons_zero, List.getElem_cons_succ]
  -- 4: Op.fieldAddr 37 (Operand.tmp 7) 1
  apply x_take (i := 4) [4] rfl (by kernel_rfl) (fun _ _ _ h => h) HS.out
  · refine .inl ⟨rfl, fun W' hS => ?_⟩
    obtain ⟨s0, s1, s2, s3⟩ := hS; go_simp <;> with_reducible rfl
  try simp only [Act.put, List.setIfInBounds_toArray, List.set_cons_zero, List.set_cons_succ, List.getElem_toArray, List.getElem_cons_zero, List.getElem_cons_succ]
  -- 5: Op.load 4 (Operand.tmp 8)
  apply x_take (i := 5) [5] rfl (by kernel_rfl) (fun _ _ _ h => h) HS.out
  · refine .inl ⟨rfl, fun W' hS => ?_⟩
    obtain ⟨s0, s1, s2, s3⟩ := hS; go_simp <;> with_reducible rfl
  try simp only [Act.put, List.setIfInBounds_toArray, List.set_cons_zero, List.set_cons_succ, List.getElem_toArray, List.getElem_cons_zero, List.getElem_cons_succ]
  -- 6: Op.fieldAddr 42 (Operand.tmp 1) 0
  apply x_take (i := 6) [6] rfl (by kernel_rfl) (fun _ _ _ h => h) HS.out
  · refine .inl ⟨rfl, fun W' hS => ?_⟩
    obtain ⟨s0, s1, s2, s3⟩ := hS; go_simp <;> with_reducible rfl
  try simp only [Act.put, List.setIfInBounds_toArray, List.set_cons_zero, List.set_cons_succ, List.getElem_toArray, List.getElem_cons_zero, List.getElem_cons_succ]
  -- 7: Op.fieldAddr 37 (Operand.tmp 10) 2
  apply x_take (i := 7) [7] rfl (by kernel_rfl) (fun _ _ _ h => h) HS.out
  · refine .inl ⟨rfl, fun W' hS => ?_⟩
    obtain ⟨s0, s1, s2, s3⟩ := hS; go_simp <;> with_reducible rfl
  try simp only [Act.put, List.setIfInBounds_toArray, List.set_cons_zero, List.set_cons_succ, List.getElem_toArray, List.getElem_cons_zero, List.getElem_cons_succ]
  -- 8: Op.load 33 (Operand.tmp 11)
  apply x_take (i := 8) [8] rfl (by kernel_rfl) (fun _ _ _ h => h) HS.out
  · exact yieldsIf_load_mid rfl 33 _ rfl w.heap.size 2 rfl (D_gleberef07_Op.cs r.call.op) _ (fun W hS => hS.2.2.1) Try.underlying33 rfl (info_opr _)
  try simp only [Act.put, List.setIfInBounds_toArray, List.set_cons_zero, List.set_cons_succ, List.getElem_toArray, List.getElem_cons_zero, List.getElem_cons_succ]
  -- 10: Op.fieldAddr 42 (Operand.tmp 1) 0
  apply x_take (i := 10) [10] rfl (by kernel_rfl) (fun _ _ _ h => h) HS.out
  · refine .inl ⟨rfl, fun W' hS => ?_⟩
    obtain ⟨s0, s1, s2, s3⟩ := hS; go_simp <;> with_reducible rfl
  try simp only [Act.put, List.setIfInBounds_toArray, List.set_cons_zero, List.set_cons_succ, List.getElem_toArray, List.getElem_cons_zero, List.getElem_cons_succ]
  -- 11: Op.fieldAddr 37 (Operand.tmp 14) 3
  apply x_take (i := 11) [11] rfl (by kernel_rfl) (fun _ _ _ h => h) HS.out
  · refine .inl ⟨rfl, fun W' hS => ?_⟩
    obtain ⟨s0, s1, s2, s3⟩ := hS; go_simp <;> with_reducible rfl
  try simp only [Act.put, List.setIfInBounds_toArray, List.set_cons_zero, List.set_cons_succ, List.getElem_toArray, List.getElem_cons_zero, List.getElem_cons_succ]
  -- 12: Op.load 35 (Operand.tmp 15)
  apply x_take (i := 12) [12] rfl (by kernel_rfl) (fun _ _ _ h => h) HS.out
  · exact yieldsIf_load_mid rfl 35 _ rfl w.heap.size 9 rfl (D_gleberef04_Rect.cs r.call.rect) _ (fun W hS => hS.2.2.2) Try.underlying35 rfl (info_rectr _)
  try simp only [Act.put, List.setIfInBounds_toArray, List.set_cons_zero, List.set_cons_succ, List.getElem_toArray, List.getElem_cons_zero, List.getElem_cons_succ]
  refine x_two (i := 9) (j := 15) (by kernel_rfl) rfl rfl rfl rfl (fun K hK => ?_) (fun K hK => ?_)
  · unfold Oper.wp
    go_simp
    refine (op_any r.call.op _).mono ?_
    rintro e w3 ⟨rfl, hbw3⟩
    have hWw3 : Below W.heap.size W w3 := hbd.trans (hbw3.mono hbd.size)
    have HS : Hid (w3.cell? ⟨w.heap.size, 0, none⟩ = some (.int .i64 r.call.seq) ∧ w3.cell? ⟨w.heap.size, 1, none⟩ = some (.bool r.call.win) ∧ w3.rangeAt w.heap.size 2 (D_gleberef07_Op.cs r.call.op) ∧ w3.rangeAt w.heap.size 9 (D_gleberef04_Rect.cs r.call.rect)) := Lib.hid ⟨cell_kept hbw3 HS.out.1, cell_kept hbw3 HS.out.2.1, range_below HS.out.2.2.1 hbw3, range_below HS.out.2.2.2 hbw3⟩
    refine hK _ _ (.inl HS.out) ?_; clear hK K
    try simp only [Act.put, List.setIfInBounds_toArray, List.set_cons_zero, List.set_cons_succ, List.getElem_toArray, List.getElem_cons_zero, List.getElem_cons_succ]
    refine x_two (i := 13) (j := 15) (by kernel_rfl) rfl rfl rfl rfl (fun K hK => ?_) (fun K hK => ?_)
    · unfold Oper.wp
      go_simp
      refine (rect_any r.call.rect _).mono ?_
      rintro e w4 ⟨rfl, hbw4⟩
      have hWw4 : Below W.heap.size W w4 := hWw3.trans (hbw4.mono hWw3.size)
      have HS : Hid (w4.cell? ⟨w.heap.size, 0, none⟩ = some (.int .i64 r.call.seq) ∧ w4.cell? ⟨w.heap.size, 1, none⟩ = some (.bool r.call.win) ∧ w4.rangeAt w.heap.size 2 (D_gleberef07_Op.cs r.call.op) ∧ w4.rangeAt w.heap.size 9 (D_gleberef04_Rect.cs r.call.rect)) := Lib.hid ⟨cell_kept hbw4 HS.out.1, cell_kept hbw4 HS.out.2.1, range_below HS.out.2.2.1 hbw4, range_below HS.out.2.2.2 hbw4⟩
      refine hK _ _ (.inl HS.out) ?_; clear hK K
      try simp only [Act.put, List.setIfInBounds_toArray, List.set_cons_zero, List.set_cons_succ, List.getElem_toArray, List.getElem_cons_zero, List.getElem_cons_succ]
      apply x_take (i := 14) [14] rfl (by kernel_rfl) (fun _ _ _ h => h) HS.out
      · exact yieldsIf_build rfl 48 _ rfl (D_gleberef19_Call.cs r.call).toArray (by kernel_rfl)
      try simp only [Act.put, List.setIfInBounds_toArray, List.set_cons_zero, List.set_cons_succ, List.getElem_toArray, List.getElem_cons_zero, List.getElem_cons_succ]
      refine x_one (i := 15) (by kernel_rfl) rfl rfl (fun K hK => ?_)
      unfold Oper.wp
      go_simp
      have hbaw5 : Below w4.heap.size w4 (w4.alloc (.cells zeroCall 48)) := (Below.refl _ _).alloc (Nat.le_refl _) _
      have hWw5 : Below W.heap.size W (w4.alloc (.cells zeroCall 48)) := hWw4.trans (hbaw5.mono hWw4.size)
      have hNw5 := alloc_new w4 (.cells zeroCall 48)
      have HS : Hid ((w4.alloc (.cells zeroCall 48)).cell? ⟨w.heap.size, 0, none⟩ = some (.int .i64 r.call.seq) ∧ (w4.alloc (.cells zeroCall 48)).cell? ⟨w.heap.size, 1, none⟩ = some (.bool r.call.win) ∧ (w4.alloc (.cells zeroCall 48)).rangeAt w.heap.size 2 (D_gleberef07_Op.cs r.call.op) ∧ (w4.alloc (.cells zeroCall 48)).rangeAt w.heap.size 9 (D_gleberef04_Rect.cs r.call.rect)) := Lib.hid ⟨cell_kept hbaw5 HS.out.1, cell_kept hbaw5 HS.out.2.1, range_below HS.out.2.2.1 hbaw5, range_below HS.out.2.2.2 hbaw5⟩
      refine hK _ (w4.alloc (.cells zeroCall 48)) (.inl HS.out) ?_; clear hK K
      try simp only [Act.put, List.setIfInBounds_toArray, List.set_cons_zero, List.set_cons_succ, List.getElem_toArray, List.getElem_cons_zero, List.getElem_cons_succ]
      generalize hGw5 : (w4.alloc (.cells zeroCall 48)) = w5 at *
      refine x_one (i := 16) (by kernel_rfl) rfl rfl (fun K hK => ?_)
      refine wp_store_row 48 _ _ rfl w4.heap.size (D_gleberef19_Call.cs r.call).toArray rfl rfl 48 zeroCall hNw5 (info_calla _) rfl (call_one _) ?_
      refine hK _ _ (.inr rfl) ?_; clear hK K
      try simp only [Act.put, List.setIfInBounds_toArray, List.set_cons_zero, List.set_cons_succ, List.getElem_toArray, List.getElem_cons_zero, List.getElem_cons_succ]
      refine x_done (by kernel_rfl) ?_
      show Exit.then _ _ Exit.normal _ _
      go_simp
      apply_assumption
      have hf9 := fr_setRow w5 w4.heap.size (D_gleberef19_Call.cs r.call).toArray
      have hP9 := setRow_heap w5 w4.heap.size zeroCall (D_gleberef19_Call.cs r.call).toArray 48 (0, 0) hNw5
      have hB9 : Below W.heap.size W _ := hWw5.trans (hf9.below hWw5.size (fun k hk e => by have := hWw4.size; omega))
      exact own_rest r Ar cr w4.heap.size w _ _ _ _ _ _ _ _ _ _ _ _ _ _ _ _ _ _ _ _ _ _ _ _ _ _ _ (block_kept hbox.out hB9) (block_kept hres.out hB9) hP9 (hB.out.trans (hB9.mono hB.out.size)) (hr.out.below hB9) hn
    · unfold Oper.wp
      go_simp
      have hbaw4 : Below w3.heap.size w3 (w3.alloc (.cells zeroCall 48)) := (Below.refl _ _).alloc (Nat.le_refl _) _
      have hWw4 : Below W.heap.size W (w3.alloc (.cells zeroCall 48)) := hWw3.trans (hbaw4.mono hWw3.size)
      have hNw4 := alloc_new w3 (.cells zeroCall 48)
      have HS : Hid ((w3.alloc (.cells zeroCall 48)).cell? ⟨w.heap.size, 0, none⟩ = some (.int .i64 r.call.seq) ∧ (w3.alloc (.cells zeroCall 48)).cell? ⟨w.heap.size, 1, none⟩ = some (.bool r.call.win) ∧ (w3.alloc (.cells zeroCall 48)).rangeAt w.heap.size 2 (D_gleberef07_Op.cs r.call.op) ∧ (w3.alloc (.cells zeroCall 48)).rangeAt w.heap.size 9 (D_gleberef04_Rect.cs r.call.rect)) := Lib.hid ⟨cell_kept hbaw4 HS.out.1, cell_kept hbaw4 HS.out.2.1, range_below HS.out.2.2.1 hbaw4, range_below HS.out.2.2.2 hbaw4⟩
      refine hK _ (w3.alloc (.cells zeroCall 48)) (.inl HS.out) ?_; clear hK K
      try simp only [Act.put, List.setIfInBounds_toArray, List.set_cons_zero, List.set_cons_succ, List.getElem_toArray, List.getElem_cons_zero, List.getElem_cons_succ]
      generalize hGw4 : (w3.alloc (.cells zeroCall 48)) = w4 at *
      refine x_one (i := 13) (by kernel_rfl) rfl rfl (fun K hK => ?_)
      unfold Oper.wp
      go_simp
      refine (rect_any r.call.rect _).mono ?_
      rintro e w5 ⟨rfl, hbw5⟩
      have hWw5 : Below W.heap.size W w5 := hWw4.trans (hbw5.mono hWw4.size)
      have HS : Hid (w5.cell? ⟨w.heap.size, 0, none⟩ = some (.int .i64 r.call.seq) ∧ w5.cell? ⟨w.heap.size, 1, none⟩ = some (.bool r.call.win) ∧ w5.rangeAt w.heap.size 2 (D_gleberef07_Op.cs r.call.op) ∧ w5.rangeAt w.heap.size 9 (D_gleberef04_Rect.cs r.call.rect)) := Lib.hid ⟨cell_kept hbw5 HS.out.1, cell_kept hbw5 HS.out.2.1, range_below HS.out.2.2.1 hbw5, range_below HS.out.2.2.2 hbw5⟩
      refine hK _ _ (.inl HS.out) ?_; clear hK K
      try simp only [Act.put, List.setIfInBounds_toArray, List.set_cons_zero, List.set_cons_succ, List.getElem_toArray, List.getElem_cons_zero, List.getElem_cons_succ]
      apply x_take (i := 14) [14] rfl (by kernel_rfl) (fun _ _ _ h => h) HS.out
      · exact yieldsIf_build rfl 48 _ rfl (D_gleberef19_Call.cs r.call).toArray (by kernel_rfl)
      try simp only [Act.put, List.setIfInBounds_toArray, List.set_cons_zero, List.set_cons_succ, List.getElem_toArray, List.getElem_cons_zero, List.getElem_cons_succ]
      refine x_one (i := 16) (by kernel_rfl) rfl rfl (fun K hK => ?_)
      refine wp_store_row 48 _ _ rfl w3.heap.size (D_gleberef19_Call.cs r.call).toArray rfl rfl 48 zeroCall (block_kept hNw4 hbw5) (info_calla _) rfl (call_one _) ?_
      refine hK _ _ (.inr rfl) ?_; clear hK K
      try simp only [Act.put, List.setIfInBounds_toArray, List.set_cons_zero, List.set_cons_succ, List.getElem_toArray, List.getElem_cons_zero, List.getElem_cons_succ]
      refine x_done (by kernel_rfl) ?_
      show Exit.then _ _ Exit.normal _ _
      go_simp
      apply_assumption
      have hf9 := fr_setRow w5 w3.heap.size (D_gleberef19_Call.cs r.call).toArray
      have hP9 := setRow_heap w5 w3.heap.size zeroCall (D_gleberef19_Call.cs r.call).toArray 48 (0, 0) (block_kept hNw4 hbw5)
      have hB9 : Below W.heap.size W _ := hWw5.trans (hf9.below hWw5.size (fun k hk e => by have := hWw3.size; omega))
      exact own_rest r Ar cr w3.heap.size w _ _ _ _ _ _ _ _ _ _ _ _ _ _ _ _ _ _ _ _ _ _ _ _ _ _ _ (block_kept hbox.out hB9) (block_kept hres.out hB9) hP9 (hB.out.trans (hB9.mono hB.out.size)) (hr.out.below hB9) hn
  · unfold Oper.wp
    go_simp
    have hbaw3 : Below W.drew.heap.size W.drew (W.drew.alloc (.cells zeroCall 48)) := (Below.refl _ _).alloc (Nat.le_refl _) _
    have hWw3 : Below W.heap.size W (W.drew.alloc (.cells zeroCall 48)) := hbd.trans (hbaw3.mono hbd.size)
    have hNw3 := alloc_new W.drew (.cells zeroCall 48)
    have HS : Hid ((W.drew.alloc (.cells zeroCall 48)).cell? ⟨w.heap.size, 0, none⟩ = some (.int .i64 r.call.seq) ∧ (W.drew.alloc (.cells zeroCall 48)).cell? ⟨w.heap.size, 1, none⟩ = some (.bool r.call.win) ∧ (W.drew.alloc (.cells zeroCall 48)).rangeAt w.heap.size 2 (D_gleberef07_Op.cs r.call.op) ∧ (W.drew.alloc (.cells zeroCall 48)).rangeAt w.heap.size 9 (D_gleberef04_Rect.cs r.call.rect)) := Lib.hid ⟨cell_kept hbaw3 HS.out.1, cell_kept hbaw3 HS.out.2.1, range_below HS.out.2.2.1 hbaw3, range_below HS.out.2.2.2 hbaw3⟩
    refine hK _ (W.drew.alloc (.cells zeroCall 48)) (.inl HS.out) ?_; clear hK K
    try simp only [Act.put, List.setIfInBounds_toArray, List.set_cons_zero, List.set_cons_succ, List.getElem_toArray, List.getElem_cons_zero, List.getElem_cons_succ]
    generalize hGw3 : (W.drew.alloc (.cells zeroCall 48)) = w3 at *
    refine x_one (i := 9) (by kernel_rfl) rfl rfl (fun K hK => ?_)
    unfold Oper.wp
    go_simp
    refine (op_any r.call.op _).mono ?_
    rintro e w4 ⟨rfl, hbw4⟩
    have hWw4 : Below W.heap.size W w4 := hWw3.trans (hbw4.mono hWw3.size)
    have HS : Hid (w4.cell? ⟨w.heap.size, 0, none⟩ = some (.int .i64 r.call.seq) ∧ w4.cell? ⟨w.heap.size, 1, none⟩ = some (.bool r.call.win) ∧ w4.rangeAt w.heap.size 2 (D_gleberef07_Op.cs r.call.op) ∧ w4.rangeAt w.heap.size 9 (D_gleberef04_Rect.cs r.call.rect)) := Lib.hid ⟨cell_kept hbw4 HS.out.1, cell_kept hbw4 HS.out.2.1, range_below HS.out.2.2.1 hbw4, range_below HS.out.2.2.2 hbw4⟩
    refine hK _ _ (.inl HS.out) ?_; clear hK K
    try simp only [Act.put, List.setIfInBounds_toArray, List.set_cons_zero, List.set_cons_succ, List.getElem_toArray, List.getElem_cons_zero, List.getElem_cons_succ]
    refine x_one (i := 13) (by kernel_rfl) rfl rfl (fun K hK => ?_)
    unfold Oper.wp
    go_simp
    refine (rect_any r.call.rect _).mono ?_
    rintro e w5 ⟨rfl, hbw5⟩
    have hWw5 : Below W.heap.size W w5 := hWw4.trans (hbw5.mono hWw4.size)
    have HS : Hid (w5.cell? ⟨w.heap.size, 0, none⟩ = some (.int .i64 r.call.seq) ∧ w5.cell? ⟨w.heap.size, 1, none⟩ = some (.bool r.call.win) ∧ w5.rangeAt w.heap.size 2 (D_gleberef07_Op.cs r.call.op) ∧ w5.rangeAt w.heap.size 9 (D_gleberef04_Rect.cs r.call.rect)) := Lib.hid ⟨cell_kept hbw5 HS.out.1, cell_kept hbw5 HS.out.2.1, range_below HS.out.2.2.1 hbw5, range_below HS.out.2.2.2 hbw5⟩
    refine hK _ _ (.inl HS.out) ?_; clear hK K
    try simp only [Act.put, List.setIfInBounds_toArray, List.set_cons_zero, List.set_cons_succ, List.getElem_toArray, List.getElem_cons_zero, List.getElem_cons_succ]
    apply x_take (i := 14) [14] rfl (by kernel_rfl) (fun _ _ _ h => h) HS.out
    · exact yieldsIf_build rfl 48 _ rfl (D_gleberef19_Call.cs r.call).toArray (by kernel_rfl)
    try simp only [Act.put, List.setIfInBounds_toArray, List.set_cons_zero, List.set_cons_succ, List.getElem_toArray, List.getElem_cons_zero, List.getElem_cons_succ]
    refine x_one (i := 16) (by kernel_rfl) rfl rfl (fun K hK => ?_)
    refine wp_store_row 48 _ _ rfl W.drew.heap.size (D_gleberef19_Call.cs r.call).toArray rfl rfl 48 zeroCall (block_kept (block_kept hNw3 hbw4) hbw5) (info_calla _) rfl (call_one _) ?_
    refine hK _ _ (.inr rfl) ?_; clear hK K
    try simp only [Act.put, List.setIfInBounds_toArray, List.set_cons_zero, List.set_cons_succ, List.getElem_toArray, List.getElem_cons_zero, List.getElem_cons_succ]
    refine x_done (by kernel_rfl) ?_
    show Exit.then _ _ Exit.normal _ _
    go_simp
    apply_assumption
    have hf9 := fr_setRow w5 W.drew.heap.size (D_gleberef19_Call.cs r.call).toArray
    have hP9 := setRow_heap w5 W.drew.heap.size zeroCall (D_gleberef19_Call.cs r.call).toArray 48 (0, 0) (block_kept (block_kept hNw3 hbw4) hbw5)
    have hB9 : Below W.heap.size W _ := hWw5.trans (hf9.below hWw5.size (fun k hk e => by have := hbd.size; omega))
    exact own_rest r Ar cr W.drew.heap.size w _ _ _ _ _ _ _ _ _ _ _ _ _ _ _ _ _ _ _ _ _ _ _ _ _ _ _ (block_kept hbox.out hB9) (block_kept hres.out hB9) hP9 (hB.out.trans (hB9.mono hB.out.size)) (hr.out.below hB9) hn
end Go.Proofs.Ytghhmannenjchaa
