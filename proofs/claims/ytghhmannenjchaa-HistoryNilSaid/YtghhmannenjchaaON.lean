/- The walk through the law's Own. -/
import Derived.Test.YtghhmannenjchaaS1
import Derived.Test.YtghhmannenjchaaHY
namespace Go.Proofs.Ytghhmannenjchaa
open Go.RowKit

abbrev Res := D_gleberef19_Result
theorem fr_setRow (w : World) (g : Nat) (cs : Array Value) : Fr (fun j => j = g) w (w.setRow g cs) :=
  ⟨setRow_os w g cs, setRow_tape w g cs, setRow_output w g cs, by rw [setRow_size]; exact Nat.le_refl _, fun k _ hk => setRow_other w g k cs hk⟩
theorem range_below {w w' : World} {b o : Nat} {cs : List Value} (h : w.rangeAt b o cs) (hb : Below w.heap.size w w') : w'.rangeAt b o cs := fun j v hv => cell_kept hb (h j v hv)
def findSeq (n : Nat) : Code → Option Code
  | .seq (.region i o m) b => if i = n then some (.seq (.region i o m) b) else findSeq n b
  | .seq a b => match findSeq n a with
    | some c => some c
    | none => findSeq n b
  | .block _ c => findSeq n c
  | .loop c => findSeq n c
  | .scope c => findSeq n c
  | .cond _ a b => match findSeq n a with
    | some c => some c
    | none => findSeq n b
  | _ => none
noncomputable def ownRest : Code := ((Try.f9.body.bind (findSeq 2)).getD .skip)
theorem info_call (x : D_gleberef19_Call) : (Try.prog.info? 48).map (·.size) = some (D_gleberef19_Call.cs x).length := by
  rw [show (D_gleberef19_Call.cs x).length = 13 from rfl]; kernel_rfl
theorem info_ansr (x : D_gleberef07_Ans) : (Try.prog.info? 39).map (·.size) = some (D_gleberef07_Ans.cs x).length := by
  rw [show (D_gleberef07_Ans.cs x).length = 4 from rfl]; kernel_rfl
theorem info_resp (x : Res) (v : Value) : (Try.prog.info? 53).map (·.size) = some (D_gleberef19_Result.cs x v).toArray.size := by
  rw [show (D_gleberef19_Result.cs x v).toArray.size = 19 from rfl]; kernel_rfl
theorem range_mid {w : World} {b : Nat} {t : TypeId} {fz : Nat × Nat} (pre cs post : List Value) (h : w.heap[b]? = some (.cells (pre ++ cs ++ post).toArray t fz)) : w.rangeAt b pre.length cs := fun j v hv => by
  rw [cell_of_block h]
  simp only [List.append_assoc, List.getElem?_toArray]
  rw [List.getElem?_append_right (by omega), Nat.add_sub_cancel_left, List.getElem?_append_left (List.getElem?_eq_some_iff.1 hv).1]
  exact hv
theorem yieldsIf_build {P : Program} {ops : Array Oper} {S : World → Prop} {op : Oper} {a : Act} (hw : Region.wanted op (yielded ops a.tmps) = true) (t : TypeId) (parts : Array (Nat × Operand)) (ho : op.op = .build t parts) (cells : Array Value)
    (hc : P.built t (parts.map fun (i, x) => (i, a.eval x)).toList = some cells) : YieldsIf P ops S op (.agg cells) a :=
  .inl ⟨hw, fun w _ => by
    unfold execOp
    simp only [ho, Sem.run_bind, run_build w t _ cells hc, Result.andThen_ok]
    rfl⟩
def zeroRes : Array Value := (D_gleberef19_Result.cs ⟨⟨0, false, ⟨0, ⟨0, 0⟩, ByteArray.empty, ByteArray.empty, 0, 0⟩, ⟨0, 0, 0, 0⟩⟩, 0, ⟨0, false, ByteArray.empty, 0⟩, []⟩ (.slice none 0 0)).toArray
set_option maxHeartbeats 4000000 in
set_option maxRecDepth 100000 in
set_option linter.unusedSimpArgs false in
theorem own_rest (r : Res) (Ar : Option Addr) (cr : Nat) (P : Nat) (w W : World) (c0 c4 c5 c6 c7 c8 c9 c10 c11 c12 c13 c14 c15 c16 c17 c18 c19 c20 c21 c22 c23 c24 c25 c26 c27 c28 : Value)
    (hbox : W.heap[w.heap.size]? = some (.cells (D_gleberef19_Result.cs r (.slice Ar r.recs.length cr)).toArray 42 (0, 0)))
    (hres : W.heap[w.heap.size + 1]? = some (.cells zeroRes 53 (0, 0)))
    (hP : W.heap[P]? = some (.cells (D_gleberef19_Call.cs r.call).toArray 48 (0, 0)))
    (hB : Below w.heap.size w W) (hr : RdK D_gleberef07_Rec.k W (.slice Ar r.recs.length cr) r.recs) (hn : r.recs.length ≤ 1000) :
    Code.wp Try.prog ownRest (bodyPost Try.prog Try.f9 fun e w' => ∃ v', e = .returned (.agg (D_gleberef19_Result.cs r v').toArray) ∧ w'.ownsRow w.heap.size 64 5 v' r.recs.length (recV r.recs) ∧ Below w.heap.size w w')
      ⟨#[c0, .pointer (some ⟨w.heap.size, 0, none⟩), .pointer (some ⟨w.heap.size + 1, 0, none⟩), .pointer (some ⟨P, 0, none⟩), c4, c5, c6, c7, c8, c9, c10, c11, c12, c13, c14, c15, c16, c17, c18, c19, c20, c21, c22, c23, c24, c25, c26, c27, c28], []⟩ W := by
  conv => arg 2; whnf
  have hbd : Below W.heap.size W W.drew := (Below.refl _ W).drew
  have e0 : W.drew.cell? ⟨w.heap.size, 13, none⟩ = some (.int .i64 r.e) := cell_of_block hbox 13
  have e1 : W.drew.cell? ⟨w.heap.size, 18, none⟩ = some (.slice Ar r.recs.length cr) := cell_of_block hbox 18
  have e2 : W.drew.rangeAt w.heap.size 14 (D_gleberef07_Ans.cs r.ans) := range_below (range_mid (D_gleberef19_Call.cs r.call ++ [.int .i64 r.e]) (D_gleberef07_Ans.cs r.ans) [.slice Ar r.recs.length cr] hbox) hbd
  have e3 : W.drew.rangeAt P 0 (D_gleberef19_Call.cs r.call) := range_below (range_mid [] (D_gleberef19_Call.cs r.call) [] (by simpa using hP)) hbd
  have HS : Hid (W.drew.cell? ⟨w.heap.size, 13, none⟩ = some (.int .i64 r.e) ∧ W.drew.cell? ⟨w.heap.size, 18, none⟩ = some (.slice Ar r.recs.length cr) ∧ W.drew.rangeAt w.heap.size 14 (D_gleberef07_Ans.cs r.ans) ∧ W.drew.rangeAt P 0 (D_gleberef19_Call.cs r.call)) := Lib.hid ⟨e0, e1, e2, e3⟩
  clear e0 e1 e2 e3 hbd
  replace hbox := Lib.hid hbox
  replace hres := Lib.hid hres
  replace hP := Lib.hid hP
  replace hB := Lib.hid hB
  replace hr := Lib.hid hr
  go_upto_region 2 with (fail)
  refine region_x (fun W' => W'.cell? ⟨w.heap.size, 13, none⟩ = some (.int .i64 r.e) ∧ W'.cell? ⟨w.heap.size, 18, none⟩ = some (.slice Ar r.recs.length cr) ∧ W'.rangeAt w.heap.size 14 (D_gleberef07_Ans.cs r.ans) ∧ W'.rangeAt P 0 (D_gleberef19_Call.cs r.call)) 10 (by kernel_rfl) ?_
  -- 0: Op.load 48 (Operand.tmp 3)
  apply x_take (i := 0) [0] rfl (by kernel_rfl) (fun _ _ _ h => h) HS.out
  · exact yieldsIf_load_mid rfl 48 _ rfl P 0 rfl (D_gleberef19_Call.cs r.call) _ (fun W hS => hS.2.2.2) Try.underlying48 rfl (info_call _)
  try simp only [Act.put, List.setIfInBounds_toArray, List.set_cons_zero, List.set_cons_succ, List.getElem_toArray, List.getElem_cons_zero, List.getElem_cons_succ]
  -- 1: Op.fieldAddr 42 (Operand.tmp 1) 1
  apply x_take (i := 1) [1] rfl (by kernel_rfl) (fun _ _ _ h => h) HS.out
  · refine .inl ⟨rfl, fun W' hS => ?_⟩
    obtain ⟨s0, s1, s2, s3⟩ := hS; go_simp <;> with_reducible rfl
  try simp only [Act.put, List.setIfInBounds_toArray, List.set_cons_zero, List.set_cons_succ, List.getElem_toArray, List.getElem_cons_zero, List.getElem_cons_succ]
  -- 2: Op.load 3 (Operand.tmp 20)
  apply x_take (i := 2) [2] rfl (by kernel_rfl) (fun _ _ _ h => h) HS.out
  · refine .inl ⟨rfl, fun W' hS => ?_⟩
    obtain ⟨s0, s1, s2, s3⟩ := hS; go_simp <;> with_reducible rfl
  try simp only [Act.put, List.setIfInBounds_toArray, List.set_cons_zero, List.set_cons_succ, List.getElem_toArray, List.getElem_cons_zero, List.getElem_cons_succ]
  -- 3: Op.fieldAddr 42 (Operand.tmp 1) 2
  apply x_take (i := 3) [3] rfl (by kernel_rfl) (fun _ _ _ h => h) HS.out
  · refine .inl ⟨rfl, fun W' hS => ?_⟩
    obtain ⟨s0, s1, s2, s3⟩ := hS; go_simp <;> with_reducible rfl
  try simp only [Act.put, List.setIfInBounds_toArray, List.set_cons_zero, List.set_cons_succ, List.getElem_toArray, List.getElem_cons_zero, List.getElem_cons_succ]
  -- 4: Op.load 39 (Operand.tmp 22)
  apply x_take (i := 4) [4] rfl (by kernel_rfl) (fun _ _ _ h => h) HS.out
  · exact yieldsIf_load_mid rfl 39 _ rfl w.heap.size 14 rfl (D_gleberef07_Ans.cs r.ans) _ (fun W hS => hS.2.2.1) Try.underlying39 rfl (info_ansr _)
  try simp only [Act.put, List.setIfInBounds_toArray, List.set_cons_zero, List.set_cons_succ, List.getElem_toArray, List.getElem_cons_zero, List.getElem_cons_succ]
  -- 6: Op.fieldAddr 42 (Operand.tmp 1) 3
  apply x_take (i := 6) [6] rfl (by kernel_rfl) (fun _ _ _ h => h) HS.out
  · refine .inl ⟨rfl, fun W' hS => ?_⟩
    obtain ⟨s0, s1, s2, s3⟩ := hS; go_simp <;> with_reducible rfl
  try simp only [Act.put, List.setIfInBounds_toArray, List.set_cons_zero, List.set_cons_succ, List.getElem_toArray, List.getElem_cons_zero, List.getElem_cons_succ]
  -- 7: Op.load 40 (Operand.tmp 25)
  apply x_take (i := 7) [7] rfl (by kernel_rfl) (fun _ _ _ h => h) HS.out
  · refine .inl ⟨rfl, fun W' hS => ?_⟩
    obtain ⟨s0, s1, s2, s3⟩ := hS; go_simp <;> with_reducible rfl
  try simp only [Act.put, List.setIfInBounds_toArray, List.set_cons_zero, List.set_cons_succ, List.getElem_toArray, List.getElem_cons_zero, List.getElem_cons_succ]
  -- EFF 5: slot 24 := Op.call { callee := Callee.value (Operand.func 22), args := #[Operand.tmp 23], argTypes := #[39] }
  refine x_one (i := 5) (by kernel_rfl) rfl rfl (fun K hK => ?_)
  unfold Oper.wp
  go_simp
  refine (ans_any r.ans _).mono ?_
  rintro e w3 ⟨rfl, hb3⟩
  have hbW : Below W.heap.size W w3 := (Below.refl W.heap.size W).drew.trans hb3
  have HS : Hid (w3.cell? ⟨w.heap.size, 13, none⟩ = some (.int .i64 r.e) ∧ w3.cell? ⟨w.heap.size, 18, none⟩ = some (.slice Ar r.recs.length cr) ∧ w3.rangeAt w.heap.size 14 (D_gleberef07_Ans.cs r.ans) ∧ w3.rangeAt P 0 (D_gleberef19_Call.cs r.call)) := Lib.hid ⟨cell_kept hb3 HS.out.1, cell_kept hb3 HS.out.2.1, range_below HS.out.2.2.1 hb3, range_below HS.out.2.2.2 hb3⟩
  have hr3 := Lib.hid (hr.out.below hbW)
  have hres3 := Lib.hid (block_kept hres.out hbW)
  have hB3 := Lib.hid (hB.out.trans (hbW.mono hB.out.size))
  clear hb3 hbW
  refine hK _ _ (.inl HS.out) ?_; clear hK K
  try simp only [Act.put, List.setIfInBounds_toArray, List.set_cons_zero, List.set_cons_succ, List.getElem_toArray, List.getElem_cons_zero, List.getElem_cons_succ]
  -- EFF 8: slot 27 := Op.call { callee := Callee.value (Operand.func 23), args := #[Operand.tmp 26], argTypes := #[40] }
  refine x_one (i := 8) (by kernel_rfl) rfl rfl (fun K hK => ?_)
  unfold Oper.wp
  go_simp
  refine (recs_any Ar cr r.recs w3 hr3.out hn).mono ?_
  rintro e w4 ⟨v4, rfl, hown4, hb4⟩
  have HS : Hid (w4.cell? ⟨w.heap.size, 13, none⟩ = some (.int .i64 r.e) ∧ w4.cell? ⟨w.heap.size, 18, none⟩ = some (.slice Ar r.recs.length cr) ∧ w4.rangeAt w.heap.size 14 (D_gleberef07_Ans.cs r.ans) ∧ w4.rangeAt P 0 (D_gleberef19_Call.cs r.call)) := Lib.hid ⟨cell_kept hb4 HS.out.1, cell_kept hb4 HS.out.2.1, range_below HS.out.2.2.1 hb4, range_below HS.out.2.2.2 hb4⟩
  have hres4 := Lib.hid (block_kept hres3.out hb4)
  have hB4 := Lib.hid (hB3.out.trans (hb4.mono hB3.out.size))
  obtain ⟨A4, c4', rfl, _⟩ := own_slice hown4
  replace hown4 := Lib.hid hown4
  have hb0 := hB3.out.size
  clear hb4
  refine hK _ _ (.inl HS.out) ?_; clear hK K
  try simp only [Act.put, List.setIfInBounds_toArray, List.set_cons_zero, List.set_cons_succ, List.getElem_toArray, List.getElem_cons_zero, List.getElem_cons_succ]
  -- 9: Op.build 53 #[(0, Operand.tmp 19), (1, Operand.tmp 21), (2, Operand.tmp 24), (3, Operand.tmp 27)]
  apply x_take (i := 9) [9] rfl (by kernel_rfl) (fun _ _ _ h => h) HS.out
  · exact yieldsIf_build rfl 53 _ rfl (D_gleberef19_Result.cs r (.slice A4 r.recs.length c4')).toArray (by kernel_rfl)
  try simp only [Act.put, List.setIfInBounds_toArray, List.set_cons_zero, List.set_cons_succ, List.getElem_toArray, List.getElem_cons_zero, List.getElem_cons_succ]
  -- EFF 10: slot None := Op.store 53 (Operand.tmp 2) (Operand.tmp 28)
  refine x_one (i := 10) (by kernel_rfl) rfl rfl (fun K hK => ?_)
  refine wp_store_row 53 _ _ rfl (w.heap.size + 1) (D_gleberef19_Result.cs r (.slice A4 r.recs.length c4')).toArray rfl rfl 53 zeroRes hres4.out (info_resp _ _) rfl (res_one _ _ _ _) ?_
  refine hK _ _ (.inr rfl) ?_; clear hK K
  try simp only [Act.put, List.setIfInBounds_toArray, List.set_cons_zero, List.set_cons_succ, List.getElem_toArray, List.getElem_cons_zero, List.getElem_cons_succ]
  refine x_done (by kernel_rfl) ?_
  have hblk5 := setRow_heap w4 (w.heap.size + 1) zeroRes (D_gleberef19_Result.cs r (.slice A4 r.recs.length c4')).toArray 53 (0, 0) hres4.out
  have hf5 := fr_setRow w4 (w.heap.size + 1) (D_gleberef19_Result.cs r (.slice A4 r.recs.length c4')).toArray
  have hB5 : Below w.heap.size w (w4.setRow (w.heap.size + 1) (D_gleberef19_Result.cs r (.slice A4 r.recs.length c4')).toArray) := hB4.out.trans (hf5.below hB4.out.size (fun k hk e => by omega))
  have hown5 : (w4.setRow (w.heap.size + 1) (D_gleberef19_Result.cs r (.slice A4 r.recs.length c4')).toArray).ownsRow w.heap.size 64 5 (.slice A4 r.recs.length c4') r.recs.length (recV r.recs) := own_lower (own_fr hown4.out hf5 (fun g hg e => by
    have h1 := own_base hown4.out g hg
    have h2 := lt_of_block hres3.out
    omega)) hb0
  go_wp2
  refine bodyPost_ret (v := .agg (D_gleberef19_Result.cs r (.slice A4 r.recs.length c4')).toArray) (results_cell_row rfl _ _ (w.heap.size + 1) 53 _ (0, 0) _ rfl hblk5 Try.underlying53 rfl (info_resp _ _)) rfl ⟨_, rfl, hown5, hB5⟩
end Go.Proofs.Ytghhmannenjchaa
