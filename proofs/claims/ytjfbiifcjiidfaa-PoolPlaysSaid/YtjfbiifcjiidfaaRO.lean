/- PoolPlays: what it asks behind its switch. -/
import Derived.Test.YtjfbiifcjiidfaaRN
namespace Go.Proofs.Ytjfbiifcjiidfaa
open Go.RowKit

set_option maxHeartbeats 40000000 in
set_option maxRecDepth 1000000 in
set_option linter.unusedSimpArgs false in
set_option linter.unusedVariables false in
theorem row_over (w0 : World) (bp br B k : Nat) (s : PS) (a : Ac) (bv : Value) (wc : World) (KK : Act → World → Prop) (c0 c1 c2 c3 c4 c6 c8 c10 c11 c12 c13 c14 c15 c16 c17 c18 c19 c20 c21 c22 c23 c24 c25 c26 c27 c28 c29 c30 c31 c32 c33 c34 c35 c36 c37 c38 c39 c40 c41 c42 c43 c44 c45 c46 c47 c48 c49 c50 c51 c52 c53 c54 c55 c56 c57 c58 c59 c60 c61 c62 c63 c64 c65 c66 c67 c68 c69 c70 c71 c72 c73 c74 c75 c76 c77 c78 c79 c80 c81 c82 c83 c84 c85 c86 c87 c88 c89 c90 c91 c92 c93 c94 c95 c96 c97 c98 c99 c100 c101 c102 c103 c104 c105 c106 c107 c108 c109 c110 c111 c112 c113 c114 c115 c116 c117 c118 c119 c120 c121 c122 c123 c124 c125 c126 c127 c128 c129 c130 c131 c132 c133 c134 c135 c136 c137 c138 c139 c140 c141 c142 c143 c144 c145 c146 c147 c148 c149 c150 c151 c152 c153 c154 c155 c156 c157 c158 c159 c160 c161 c162 c163 c164 c165 c166 c167 c168 c169 c170 c171 c172 c173 c174 c175 c176 c177 c178 c179 c180 c181 c182 c183 c184 c185 c186 c187 c188 c189 c190 c191 c192 c193 c194 c195 c196 c197 c198 c199 c200 c201 c202 c203 c204 c205 c206 c207 c208 c209 c210 c211 c212 c213 c214 c215 c216 c217 c218 c219 c220 c221 c222 c223 c224 c225 c226 c227 c228 c229 c230 c231 c232 c233 c234 c235 c236 c237 c238 c239 c240 c241 c242 c243 c244 c245 c246 c247 c248 c249 c250 c251 c252 c253 c254 c255 c256 c257 c258 c259 : Value)
    (hL : LB w0 bp br s k B a bv wc) (hk2 : k ≤ 200)
    (hin : inR s a.i = false) (hneg : decide (0 ≤ a.i) = true)
    (hQ : ∀ (u20 u21 u190 u191 u192 u193 u194 u195 u196 u197 u198 u199 u200 u201 u202 u203 u204 u205 u206 u207 u208 u209 u210 u211 u212 u213 u214 u215 u216 u217 u218 u219 u220 u221 u222 u223 u224 u225 u226 u227 u228 u229 u230 u231 u232 u233 u234 u235 u236 u237 u238 u239 u240 u241 u242 u243 u244 u245 u246 u247 u248 u249 u250 u251 u252 u253 u254 u255 u256 u257 u258 u259 : Value) (wx : World), LB w0 bp br s k B a bv wx → KK ⟨#[c0, c1, c2, c3, c4, .pointer (some ⟨bp, 0, none⟩), c6, .pointer (some ⟨br, 0, none⟩), c8, .pointer (some ⟨B, 0, none⟩), c10, c11, c12, c13, c14, c15, c16, c17, c18, c19, u20, u21, c22, c23, c24, c25, c26, c27, c28, c29, c30, c31, c32, c33, c34, c35, c36, c37, c38, c39, c40, c41, c42, c43, c44, c45, c46, c47, c48, c49, c50, c51, c52, c53, c54, c55, c56, c57, c58, c59, c60, c61, c62, c63, c64, c65, c66, c67, c68, c69, c70, c71, c72, c73, c74, c75, c76, c77, c78, c79, c80, c81, c82, c83, c84, c85, c86, c87, c88, c89, c90, c91, c92, c93, c94, c95, c96, c97, c98, c99, c100, c101, c102, c103, c104, c105, c106, c107, c108, c109, c110, c111, c112, c113, c114, c115, c116, c117, c118, c119, c120, c121, c122, c123, c124, c125, c126, c127, c128, c129, c130, c131, c132, c133, c134, c135, c136, c137, c138, c139, c140, c141, c142, c143, c144, c145, c146, c147, c148, c149, c150, c151, c152, c153, c154, c155, c156, c157, c158, c159, c160, c161, c162, c163, c164, c165, c166, c167, c168, c169, c170, c171, c172, c173, c174, c175, c176, c177, c178, c179, c180, c181, c182, c183, c184, c185, c186, c187, c188, c189, u190, u191, u192, u193, u194, u195, u196, u197, u198, u199, u200, u201, u202, u203, u204, u205, u206, u207, u208, u209, u210, u211, u212, u213, u214, u215, u216, u217, u218, u219, u220, u221, u222, u223, u224, u225, u226, u227, u228, u229, u230, u231, u232, u233, u234, u235, u236, u237, u238, u239, u240, u241, u242, u243, u244, u245, u246, u247, u248, u249, u250, u251, u252, u253, u254, u255, u256, u257, u258, u259], []⟩ wx) :
    Code.wp Try.prog rowC (Exit.then KK (fun _ _ _ => False)) ⟨#[c0, c1, c2, c3, c4, .pointer (some ⟨bp, 0, none⟩), c6, .pointer (some ⟨br, 0, none⟩), c8, .pointer (some ⟨B, 0, none⟩), c10, c11, c12, c13, c14, c15, c16, c17, c18, c19, c20, c21, c22, c23, c24, c25, c26, c27, c28, c29, c30, c31, c32, c33, c34, c35, c36, c37, c38, c39, c40, c41, c42, c43, c44, c45, c46, c47, c48, c49, c50, c51, c52, c53, c54, c55, c56, c57, c58, c59, c60, c61, c62, c63, c64, c65, c66, c67, c68, c69, c70, c71, c72, c73, c74, c75, c76, c77, c78, c79, c80, c81, c82, c83, c84, c85, c86, c87, c88, c89, c90, c91, c92, c93, c94, c95, c96, c97, c98, c99, c100, c101, c102, c103, c104, c105, c106, c107, c108, c109, c110, c111, c112, c113, c114, c115, c116, c117, c118, c119, c120, c121, c122, c123, c124, c125, c126, c127, c128, c129, c130, c131, c132, c133, c134, c135, c136, c137, c138, c139, c140, c141, c142, c143, c144, c145, c146, c147, c148, c149, c150, c151, c152, c153, c154, c155, c156, c157, c158, c159, c160, c161, c162, c163, c164, c165, c166, c167, c168, c169, c170, c171, c172, c173, c174, c175, c176, c177, c178, c179, c180, c181, c182, c183, c184, c185, c186, c187, c188, c189, c190, c191, c192, c193, c194, c195, c196, c197, c198, c199, c200, c201, c202, c203, c204, c205, c206, c207, c208, c209, c210, c211, c212, c213, c214, c215, c216, c217, c218, c219, c220, c221, c222, c223, c224, c225, c226, c227, c228, c229, c230, c231, c232, c233, c234, c235, c236, c237, c238, c239, c240, c241, c242, c243, c244, c245, c246, c247, c248, c249, c250, c251, c252, c253, c254, c255, c256, c257, c258, c259], []⟩ wc := by
  conv => arg 2; whnf
  obtain ⟨hp, hr, hsk, hB1, hA⟩ := hL
  unfold bx at hA
  have q1 : wc.cell? ⟨B, 1, none⟩ = some (.int .i64 a.i) := cell_of_block hA 1
  have q3 : wc.cell? ⟨B, 3, none⟩ = some (.int .i64 a.x.to_) := cell_of_block hA 3
  obtain ⟨vr, bsr, hRA⟩ := hr
  have hr : R.IsP w0.heap.size br s (fun _ => True) wc := ⟨vr, bsr, hRA⟩
  have hpos := hRA.pos
  have hlen : s.l.length ≤ 1024 := by omega
  obtain ⟨Ar, cr, rfl, _⟩ := own_slice hRA.row
  have r1 : wc.cell? ⟨br, 1, none⟩ = some (.int .i64 s.lost) := cell_of_block hRA.blk 1
  have r2 : wc.cell? ⟨br, 2, none⟩ = some (.slice Ar s.l.length cr) := cell_of_block hRA.blk 2
  have hAt := at_any hp (hsk.ok (by omega)) a.i
  rw [itemAt_out hin, hin] at hAt
  have hge : decide (a.i < (s.l.length : Int)) = false := by have := inR_out hin; simp at hneg; simp; omega
  clear hRA hpos hin
  replace hp := Lib.hid hp
  replace hr := Lib.hid hr
  replace hsk := Lib.hid hsk
  replace hB1 := Lib.hid hB1
  replace hA := Lib.hid hA
  replace hQ := Lib.hid hQ
  replace hAt := Lib.hid hAt
  go_wp2_with (fail)
  refine hAt.out.mono ?_
  rintro e w5 ⟨vx, rfl, hx, hb5⟩
  obtain ⟨Ax, cx, rfl, _⟩ := own_slice hx
  have hX := alloc_new w5 (.cells #[.int .i64 0, .int .i64 0, .slice Ax 0 cx] 37)
  have hb6 : Below wc.heap.size wc (w5.alloc (.cells #[.int .i64 0, .int .i64 0, .slice Ax 0 cx] 37)) := hb5.alloc hb5.size _
  replace hX := Lib.hid hX
  replace hb6 := Lib.hid hb6
  clear hx hb5
  go_upto_region 46 with (fail)
  generalize w5.alloc (.cells #[.int .i64 0, .int .i64 0, .slice Ax 0 cx] 37) = W6 at *
  have hb7 := hb6.out.drew
  have HS : Hid (W6.drew.cell? ⟨B, 1, none⟩ = some (.int .i64 a.i) ∧ W6.drew.cell? ⟨B, 3, none⟩ = some (.int .i64 a.x.to_) ∧ W6.drew.cell? ⟨br, 1, none⟩ = some (.int .i64 s.lost) ∧ W6.drew.cell? ⟨br, 2, none⟩ = some (.slice Ar s.l.length cr) ∧ W6.drew.cell? ⟨w5.heap.size, 0, none⟩ = some (.int .i64 0) ∧ W6.drew.cell? ⟨w5.heap.size, 1, none⟩ = some (.int .i64 0) ∧ W6.drew.cell? ⟨w5.heap.size, 2, none⟩ = some (.slice Ax 0 cx)) := Lib.hid ⟨cell_kept hb7 q1, cell_kept hb7 q3, cell_kept hb7 r1, cell_kept hb7 r2, cell_of_block hX.out 0, cell_of_block hX.out 1, cell_of_block hX.out 2⟩
  have hp7 := Lib.hid (hp.out.of_below hb7)
  have hr7 := Lib.hid (R.IsP.of_below hr.out hb7)
  have hend : Hid (LB w0 bp br s k B a bv W6.drew) := Lib.hid ⟨hp7.out, hr7.out, hsk.out, hB1.out.trans (hb7.mono hB1.out.size), block_kept hA.out hb7⟩
  replace hb7 := Lib.hid hb7
  clear q1 q3 r1 r2
  refine region_x (fun W' => W'.cell? ⟨B, 1, none⟩ = some (.int .i64 a.i) ∧ W'.cell? ⟨B, 3, none⟩ = some (.int .i64 a.x.to_) ∧ W'.cell? ⟨br, 1, none⟩ = some (.int .i64 s.lost) ∧ W'.cell? ⟨br, 2, none⟩ = some (.slice Ar s.l.length cr) ∧ W'.cell? ⟨w5.heap.size, 0, none⟩ = some (.int .i64 0) ∧ W'.cell? ⟨w5.heap.size, 1, none⟩ = some (.int .i64 0) ∧ W'.cell? ⟨w5.heap.size, 2, none⟩ = some (.slice Ax 0 cx)) 62 (by kernel_rfl) ?_
  -- 0: Op.move (Operand.tmp 21)
  apply x_take (i := 0) [50, 49, 41, 40, 31, 30, 15, 14, 0] rfl (by kernel_rfl) (fun _ _ _ h => h) HS.out
  · refine .inl ⟨rfl, fun W' hS => ?_⟩
    obtain ⟨s0, s1, s2, s3, s4, s5, s6⟩ := hS; go_simp <;> with_reducible rfl
  try simp only [Act.put, List.setIfInBounds_toArray, List.set_cons_zero, List.set_cons_succ]
  -- 1: Op.fieldAddr 34 (Operand.tmp 9) 1
  apply x_take (i := 1) [50, 49, 41, 40, 31, 30, 15, 4, 3, 2, 1] rfl (by kernel_rfl) (fun _ _ _ h => h) HS.out
  · refine .inl ⟨rfl, fun W' hS => ?_⟩
    obtain ⟨s0, s1, s2, s3, s4, s5, s6⟩ := hS; go_simp <;> with_reducible rfl
  try simp only [Act.put, List.setIfInBounds_toArray, List.set_cons_zero, List.set_cons_succ]
  -- 2: Op.load 3 (Operand.tmp 198)
  apply x_take (i := 2) [50, 49, 41, 40, 31, 30, 15, 4, 3, 2] rfl (by kernel_rfl) (fun _ _ _ h => h) HS.out
  · refine .inl ⟨rfl, fun W' hS => ?_⟩
    obtain ⟨s0, s1, s2, s3, s4, s5, s6⟩ := hS; go_simp <;> with_reducible rfl
  try simp only [Act.put, List.setIfInBounds_toArray, List.set_cons_zero, List.set_cons_succ]
  -- 3: Op.binOp BinOp.geq 3 (Operand.tmp 199) (Operand.const (Value.int IntKind.i64 0)) 3
  apply x_take (i := 3) [50, 49, 41, 40, 31, 30, 15, 4, 3] rfl (by kernel_rfl) (fun _ _ _ h => h) HS.out
  · refine .inl ⟨rfl, fun W' hS => ?_⟩
    obtain ⟨s0, s1, s2, s3, s4, s5, s6⟩ := hS; go_simp <;> with_reducible rfl
  try simp only [Act.put, List.setIfInBounds_toArray, List.set_cons_zero, List.set_cons_succ]
  -- 4: Op.move (Operand.tmp 200)
  apply x_take (i := 4) [50, 49, 41, 40, 31, 30, 15, 4] rfl (by kernel_rfl) (fun _ _ _ h => h) HS.out
  · refine .inl ⟨rfl, fun W' hS => ?_⟩
    obtain ⟨s0, s1, s2, s3, s4, s5, s6⟩ := hS; go_simp <;> with_reducible rfl
  try simp only [Act.put, List.setIfInBounds_toArray, List.set_cons_zero, List.set_cons_succ]
  -- 5: Op.fieldAddr 34 (Operand.tmp 9) 1  [guard (4, 'true')]
  apply x_take (i := 5) [50, 49, 41, 40, 31, 30, 15, 14, 13, 12, 6, 5] rfl (by kernel_rfl) (fun _ _ _ h => h) HS.out
  · refine .inl ⟨by go_simp, fun W' hS => ?_⟩
    obtain ⟨s0, s1, s2, s3, s4, s5, s6⟩ := hS; go_simp <;> with_reducible rfl
  try simp only [Act.put, List.setIfInBounds_toArray, List.set_cons_zero, List.set_cons_succ]
  -- 6: Op.load 3 (Operand.tmp 202)  [guard (4, 'true')]
  apply x_take (i := 6) [50, 49, 41, 40, 31, 30, 15, 14, 13, 12, 6] rfl (by kernel_rfl) (fun _ _ _ h => h) HS.out
  · refine .inl ⟨by go_simp, fun W' hS => ?_⟩
    obtain ⟨s0, s1, s2, s3, s4, s5, s6⟩ := hS; go_simp <;> with_reducible rfl
  try simp only [Act.put, List.setIfInBounds_toArray, List.set_cons_zero, List.set_cons_succ]
  -- 7: Op.move (Operand.tmp 7)  [guard (4, 'true')]
  apply x_take (i := 7) [50, 49, 41, 40, 31, 30, 15, 14, 13, 12, 11, 10, 9, 8, 7] rfl (by kernel_rfl) (fun _ _ _ h => h) HS.out
  · refine .inl ⟨by go_simp, fun W' hS => ?_⟩
    obtain ⟨s0, s1, s2, s3, s4, s5, s6⟩ := hS; go_simp <;> with_reducible rfl
  try simp only [Act.put, List.setIfInBounds_toArray, List.set_cons_zero, List.set_cons_succ]
  -- 8: Op.nilCheck (Operand.tmp 204)  [guard (4, 'true')]
  apply x_take (i := 8) [50, 49, 41, 40, 31, 30, 15, 14, 13, 12, 11, 10, 9, 8] rfl (by kernel_rfl) (fun _ _ _ h => h) HS.out
  · refine .inl ⟨by go_simp, fun W' hS => ?_⟩
    obtain ⟨s0, s1, s2, s3, s4, s5, s6⟩ := hS; go_simp <;> with_reducible rfl
  try simp only [Act.put, List.setIfInBounds_toArray, List.set_cons_zero, List.set_cons_succ]
  -- 9: Op.fieldAddr 58 (Operand.tmp 205) 2  [guard (4, 'true')]
  apply x_take (i := 9) [50, 49, 41, 40, 31, 30, 15, 14, 13, 12, 11, 10, 9] rfl (by kernel_rfl) (fun _ _ _ h => h) HS.out
  · refine .inl ⟨by go_simp, fun W' hS => ?_⟩
    obtain ⟨s0, s1, s2, s3, s4, s5, s6⟩ := hS; go_simp <;> with_reducible rfl
  try simp only [Act.put, List.setIfInBounds_toArray, List.set_cons_zero, List.set_cons_succ]
  -- 10: Op.load 54 (Operand.tmp 206)  [guard (4, 'true')]
  apply x_take (i := 10) [50, 49, 41, 40, 31, 30, 15, 14, 13, 12, 11, 10] rfl (by kernel_rfl) (fun _ _ _ h => h) HS.out
  · refine .inl ⟨by go_simp, fun W' hS => ?_⟩
    obtain ⟨s0, s1, s2, s3, s4, s5, s6⟩ := hS; go_simp <;> with_reducible rfl
  try simp only [Act.put, List.setIfInBounds_toArray, List.set_cons_zero, List.set_cons_succ]
  -- 11: Op.call { callee := Callee.builtin Builtin.len, args := #[Operand.tmp 207], argTypes := #[54] }  [guard (4, 'true')]
  apply x_take (i := 11) [50, 49, 41, 40, 31, 30, 15, 14, 13, 12, 11] rfl (by kernel_rfl) (fun _ _ _ h => h) HS.out
  · refine .inl ⟨by go_simp, fun W' hS => ?_⟩
    obtain ⟨s0, s1, s2, s3, s4, s5, s6⟩ := hS; go_simp <;> with_reducible rfl
  try simp only [Act.put, List.setIfInBounds_toArray, List.set_cons_zero, List.set_cons_succ]
  -- 12: Op.binOp BinOp.lss 3 (Operand.tmp 203) (Operand.tmp 208) 3  [guard (4, 'true')]
  apply x_take (i := 12) [50, 49, 41, 40, 31, 30, 15, 14, 13, 12] rfl (by kernel_rfl) (fun _ _ _ h => h) HS.out
  · refine .inl ⟨by go_simp, fun W' hS => ?_⟩
    obtain ⟨s0, s1, s2, s3, s4, s5, s6⟩ := hS; go_simp <;> with_reducible rfl
  try simp only [Act.put, List.setIfInBounds_toArray, List.set_cons_zero, List.set_cons_succ]
  -- 13: Op.pick (Operand.tmp 201) (Operand.tmp 209) (Operand.const (Value.bool false))
  apply x_take (i := 13) [50, 49, 41, 40, 31, 30, 15, 14, 13] rfl (by kernel_rfl) (fun _ _ _ h => h) HS.out
  · refine .inl ⟨rfl, fun W' hS => ?_⟩
    obtain ⟨s0, s1, s2, s3, s4, s5, s6⟩ := hS; go_simp <;> with_reducible rfl
  try simp only [Act.put, List.setIfInBounds_toArray, List.set_cons_zero, List.set_cons_succ]
  -- 14: Op.binOp BinOp.neq 4 (Operand.tmp 197) (Operand.tmp 210) 4
  apply x_take (i := 14) [50, 49, 41, 40, 31, 30, 15, 14] rfl (by kernel_rfl) (fun _ _ _ h => h) HS.out
  · refine .inl ⟨rfl, fun W' hS => ?_⟩
    obtain ⟨s0, s1, s2, s3, s4, s5, s6⟩ := hS; go_simp <;> with_reducible rfl
  try simp only [Act.put, List.setIfInBounds_toArray, List.set_cons_zero, List.set_cons_succ]
  -- 15: Op.move (Operand.tmp 211)
  apply x_take (i := 15) [50, 49, 41, 40, 31, 30, 15] rfl (by kernel_rfl) (fun _ _ _ h => h) HS.out
  · refine .inl ⟨rfl, fun W' hS => ?_⟩
    obtain ⟨s0, s1, s2, s3, s4, s5, s6⟩ := hS; go_simp <;> with_reducible rfl
  try simp only [Act.put, List.setIfInBounds_toArray, List.set_cons_zero, List.set_cons_succ]
  -- 16: Op.move (Operand.tmp 21)  [guard (15, 'false')]
  apply x_take (i := 16) [50, 49, 41, 40, 31, 27, 17, 16] rfl (by kernel_rfl) (fun _ _ _ h => h) HS.out
  · refine .inl ⟨by go_simp, fun W' hS => ?_⟩
    obtain ⟨s0, s1, s2, s3, s4, s5, s6⟩ := hS; go_simp <;> with_reducible rfl
  try simp only [Act.put, List.setIfInBounds_toArray, List.set_cons_zero, List.set_cons_succ]
  -- 17: Op.move (Operand.tmp 213)  [guard (15, 'false')]
  apply x_take (i := 17) [50, 49, 41, 40, 31, 27, 17] rfl (by kernel_rfl) (fun _ _ _ h => h) HS.out
  · refine .inl ⟨by go_simp, fun W' hS => ?_⟩
    obtain ⟨s0, s1, s2, s3, s4, s5, s6⟩ := hS; go_simp <;> with_reducible rfl
  try simp only [Act.put, List.setIfInBounds_toArray, List.set_cons_zero, List.set_cons_succ]
  -- 18: Op.load 37 (Operand.tmp 20)  [guard (17, 'true')]
  apply x_take (i := 18) [50, 49, 41, 40, 31, 27, 18] rfl (by kernel_rfl) (fun _ _ _ h => h) HS.out
  · exact .inr ⟨by go_simp, rfl⟩
  try simp only [Act.put, List.setIfInBounds_toArray, List.set_cons_zero, List.set_cons_succ]
  -- 19: Op.move (Operand.tmp 7)  [guard (17, 'true')]
  apply x_take (i := 19) [50, 49, 41, 40, 31, 27, 26, 25, 22, 21, 20, 19] rfl (by kernel_rfl) (fun _ _ _ h => h) HS.out
  · exact .inr ⟨by go_simp, rfl⟩
  try simp only [Act.put, List.setIfInBounds_toArray, List.set_cons_zero, List.set_cons_succ]
  -- 20: Op.nilCheck (Operand.tmp 216)  [guard (17, 'true')]
  apply x_take (i := 20) [50, 49, 41, 40, 31, 27, 26, 25, 22, 21, 20] rfl (by kernel_rfl) (fun _ _ _ h => h) HS.out
  · exact .inr ⟨by go_simp, rfl⟩
  try simp only [Act.put, List.setIfInBounds_toArray, List.set_cons_zero, List.set_cons_succ]
  -- 21: Op.fieldAddr 58 (Operand.tmp 217) 2  [guard (17, 'true')]
  apply x_take (i := 21) [50, 49, 41, 40, 31, 27, 26, 25, 22, 21] rfl (by kernel_rfl) (fun _ _ _ h => h) HS.out
  · exact .inr ⟨by go_simp, rfl⟩
  try simp only [Act.put, List.setIfInBounds_toArray, List.set_cons_zero, List.set_cons_succ]
  -- 22: Op.load 54 (Operand.tmp 218)  [guard (17, 'true')]
  apply x_take (i := 22) [50, 49, 41, 40, 31, 27, 26, 25, 22] rfl (by kernel_rfl) (fun _ _ _ h => h) HS.out
  · exact .inr ⟨by go_simp, rfl⟩
  try simp only [Act.put, List.setIfInBounds_toArray, List.set_cons_zero, List.set_cons_succ]
  -- 23: Op.fieldAddr 34 (Operand.tmp 9) 1  [guard (17, 'true')]
  apply x_take (i := 23) [50, 49, 41, 40, 31, 27, 26, 25, 24, 23] rfl (by kernel_rfl) (fun _ _ _ h => h) HS.out
  · exact .inr ⟨by go_simp, rfl⟩
  try simp only [Act.put, List.setIfInBounds_toArray, List.set_cons_zero, List.set_cons_succ]
  -- 24: Op.load 3 (Operand.tmp 220)  [guard (17, 'true')]
  apply x_take (i := 24) [50, 49, 41, 40, 31, 27, 26, 25, 24] rfl (by kernel_rfl) (fun _ _ _ h => h) HS.out
  · exact .inr ⟨by go_simp, rfl⟩
  try simp only [Act.put, List.setIfInBounds_toArray, List.set_cons_zero, List.set_cons_succ]
  -- 25: Op.indexAddr 54 (Operand.tmp 219) (Operand.tmp 221)  [guard (17, 'true')]
  apply x_take (i := 25) [50, 49, 41, 40, 31, 27, 26, 25] rfl (by kernel_rfl) (fun _ _ _ h => h) HS.out
  · exact .inr ⟨by go_simp, rfl⟩
  try simp only [Act.put, List.setIfInBounds_toArray, List.set_cons_zero, List.set_cons_succ]
  -- 26: Op.load 32 (Operand.tmp 222)  [guard (17, 'true')]
  apply x_take (i := 26) [50, 49, 41, 40, 31, 27, 26] rfl (by kernel_rfl) (fun _ _ _ h => h) HS.out
  · exact .inr ⟨by go_simp, rfl⟩
  try simp only [Act.put, List.setIfInBounds_toArray, List.set_cons_zero, List.set_cons_succ]
  -- 27: Op.call { callee := Callee.value (Operand.func 21), args := #[Operand.tmp 215, Operand.tmp 223], argTypes := #  [guard (17, 'true')]
  apply x_take (i := 27) [50, 49, 41, 40, 31, 27] rfl (by kernel_rfl) (fun _ _ _ h => h) HS.out
  · exact .inr ⟨by go_simp, rfl⟩
  try simp only [Act.put, List.setIfInBounds_toArray, List.set_cons_zero, List.set_cons_succ]
  -- 28: Op.unOp UnOp.not 4 (Operand.tmp 224)  [guard (17, 'true')]
  apply x_take (i := 28) [50, 49, 41, 40, 31, 30, 29, 28] rfl (by kernel_rfl) (fun _ _ _ h => h) HS.out
  · exact .inr ⟨by go_simp, rfl⟩
  try simp only [Act.put, List.setIfInBounds_toArray, List.set_cons_zero, List.set_cons_succ]
  -- 29: Op.pick (Operand.tmp 214) (Operand.tmp 225) (Operand.const (Value.bool false))  [guard (15, 'false')]
  apply x_take (i := 29) [50, 49, 41, 40, 31, 30, 29] rfl (by kernel_rfl) (fun _ _ _ h => h) HS.out
  · refine .inl ⟨by go_simp, fun W' hS => ?_⟩
    obtain ⟨s0, s1, s2, s3, s4, s5, s6⟩ := hS; go_simp <;> with_reducible rfl
  try simp only [Act.put, List.setIfInBounds_toArray, List.set_cons_zero, List.set_cons_succ]
  -- 30: Op.pick (Operand.tmp 212) (Operand.const (Value.bool true)) (Operand.tmp 226)
  apply x_take (i := 30) [50, 49, 41, 40, 31, 30] rfl (by kernel_rfl) (fun _ _ _ h => h) HS.out
  · refine .inl ⟨rfl, fun W' hS => ?_⟩
    obtain ⟨s0, s1, s2, s3, s4, s5, s6⟩ := hS; go_simp <;> with_reducible rfl
  try simp only [Act.put, List.setIfInBounds_toArray, List.set_cons_zero, List.set_cons_succ]
  -- 31: Op.move (Operand.tmp 227)
  apply x_take (i := 31) [50, 49, 41, 40, 31] rfl (by kernel_rfl) (fun _ _ _ h => h) HS.out
  · refine .inl ⟨rfl, fun W' hS => ?_⟩
    obtain ⟨s0, s1, s2, s3, s4, s5, s6⟩ := hS; go_simp <;> with_reducible rfl
  try simp only [Act.put, List.setIfInBounds_toArray, List.set_cons_zero, List.set_cons_succ]
  -- 32: Op.move (Operand.tmp 5)  [guard (31, 'false')]
  apply x_take (i := 32) [50, 49, 41, 33, 32] rfl (by kernel_rfl) (fun _ _ _ h => h) HS.out
  · refine .inl ⟨by go_simp, fun W' hS => ?_⟩
    obtain ⟨s0, s1, s2, s3, s4, s5, s6⟩ := hS; go_simp <;> with_reducible rfl
  try simp only [Act.put, List.setIfInBounds_toArray, List.set_cons_zero, List.set_cons_succ]
  -- 34: Op.move (Operand.tmp 7)  [guard (31, 'false')]
  apply x_take (i := 34) [50, 49, 41, 40, 39, 38, 37, 36, 35, 34] rfl (by kernel_rfl) (fun _ _ _ h => h) HS.out
  · refine .inl ⟨by go_simp, fun W' hS => ?_⟩
    obtain ⟨s0, s1, s2, s3, s4, s5, s6⟩ := hS; go_simp <;> with_reducible rfl
  try simp only [Act.put, List.setIfInBounds_toArray, List.set_cons_zero, List.set_cons_succ]
  -- 35: Op.nilCheck (Operand.tmp 231)  [guard (31, 'false')]
  apply x_take (i := 35) [50, 49, 41, 40, 39, 38, 37, 36, 35] rfl (by kernel_rfl) (fun _ _ _ h => h) HS.out
  · refine .inl ⟨by go_simp, fun W' hS => ?_⟩
    obtain ⟨s0, s1, s2, s3, s4, s5, s6⟩ := hS; go_simp <;> with_reducible rfl
  try simp only [Act.put, List.setIfInBounds_toArray, List.set_cons_zero, List.set_cons_succ]
  -- 36: Op.fieldAddr 58 (Operand.tmp 232) 2  [guard (31, 'false')]
  apply x_take (i := 36) [50, 49, 41, 40, 39, 38, 37, 36] rfl (by kernel_rfl) (fun _ _ _ h => h) HS.out
  · refine .inl ⟨by go_simp, fun W' hS => ?_⟩
    obtain ⟨s0, s1, s2, s3, s4, s5, s6⟩ := hS; go_simp <;> with_reducible rfl
  try simp only [Act.put, List.setIfInBounds_toArray, List.set_cons_zero, List.set_cons_succ]
  -- 37: Op.load 54 (Operand.tmp 233)  [guard (31, 'false')]
  apply x_take (i := 37) [50, 49, 41, 40, 39, 38, 37] rfl (by kernel_rfl) (fun _ _ _ h => h) HS.out
  · refine .inl ⟨by go_simp, fun W' hS => ?_⟩
    obtain ⟨s0, s1, s2, s3, s4, s5, s6⟩ := hS; go_simp <;> with_reducible rfl
  try simp only [Act.put, List.setIfInBounds_toArray, List.set_cons_zero, List.set_cons_succ]
  -- 38: Op.call { callee := Callee.builtin Builtin.len, args := #[Operand.tmp 234], argTypes := #[54] }  [guard (31, 'false')]
  apply x_take (i := 38) [50, 49, 41, 40, 39, 38] rfl (by kernel_rfl) (fun _ _ _ h => h) HS.out
  · refine .inl ⟨by go_simp, fun W' hS => ?_⟩
    obtain ⟨s0, s1, s2, s3, s4, s5, s6⟩ := hS; go_simp <;> with_reducible rfl
  try simp only [Act.put, List.setIfInBounds_toArray, List.set_cons_zero, List.set_cons_succ]
  -- EFF 33: slot 230 := Op.call { callee := Callee.value (Operand.func 10), args := #[Operand.tmp 229], argTypes := #[25] }  [guard (31, 'false')]
  refine x_oneg (i := 33) (by kernel_rfl) rfl (by go_simp) (fun K hK => ?_)
  unfold Oper.wp
  go_simp
  refine (len_any hp7.out).mono ?_
  rintro e w7 ⟨rfl, rfl⟩
  refine hK _ _ (.inl HS.out) ?_; clear hK K
  try simp only [Act.put, List.setIfInBounds_toArray, List.set_cons_zero, List.set_cons_succ]
  -- 39: Op.binOp BinOp.neq 3 (Operand.tmp 230) (Operand.tmp 235) 3  [guard (31, 'false')]
  apply x_take (i := 39) [50, 49, 41, 40, 39] rfl (by kernel_rfl) (fun _ _ _ h => h) HS.out
  · refine .inl ⟨by go_simp, fun W' hS => ?_⟩
    obtain ⟨s0, s1, s2, s3, s4, s5, s6⟩ := hS; go_simp <;> with_reducible rfl
  try simp only [Act.put, List.setIfInBounds_toArray, List.set_cons_zero, List.set_cons_succ]
  -- 40: Op.pick (Operand.tmp 228) (Operand.const (Value.bool true)) (Operand.tmp 236)
  apply x_take (i := 40) [50, 49, 41, 40] rfl (by kernel_rfl) (fun _ _ _ h => h) HS.out
  · refine .inl ⟨rfl, fun W' hS => ?_⟩
    obtain ⟨s0, s1, s2, s3, s4, s5, s6⟩ := hS; go_simp <;> with_reducible rfl
  try simp only [Act.put, List.setIfInBounds_toArray, List.set_cons_zero, List.set_cons_succ]
  -- 41: Op.move (Operand.tmp 237)
  apply x_take (i := 41) [50, 49, 41] rfl (by kernel_rfl) (fun _ _ _ h => h) HS.out
  · refine .inl ⟨rfl, fun W' hS => ?_⟩
    obtain ⟨s0, s1, s2, s3, s4, s5, s6⟩ := hS; go_simp <;> with_reducible rfl
  try simp only [Act.put, List.setIfInBounds_toArray, List.set_cons_zero, List.set_cons_succ]
  -- 42: Op.move (Operand.tmp 5)  [guard (41, 'false')]
  apply x_take (i := 42) [50, 43, 42] rfl (by kernel_rfl) (fun _ _ _ h => h) HS.out
  · refine .inl ⟨by go_simp, fun W' hS => ?_⟩
    obtain ⟨s0, s1, s2, s3, s4, s5, s6⟩ := hS; go_simp <;> with_reducible rfl
  try simp only [Act.put, List.setIfInBounds_toArray, List.set_cons_zero, List.set_cons_succ]
  -- 44: Op.move (Operand.tmp 7)  [guard (41, 'false')]
  apply x_take (i := 44) [50, 49, 48, 47, 46, 45, 44] rfl (by kernel_rfl) (fun _ _ _ h => h) HS.out
  · refine .inl ⟨by go_simp, fun W' hS => ?_⟩
    obtain ⟨s0, s1, s2, s3, s4, s5, s6⟩ := hS; go_simp <;> with_reducible rfl
  try simp only [Act.put, List.setIfInBounds_toArray, List.set_cons_zero, List.set_cons_succ]
  -- 45: Op.nilCheck (Operand.tmp 241)  [guard (41, 'false')]
  apply x_take (i := 45) [50, 49, 48, 47, 46, 45] rfl (by kernel_rfl) (fun _ _ _ h => h) HS.out
  · refine .inl ⟨by go_simp, fun W' hS => ?_⟩
    obtain ⟨s0, s1, s2, s3, s4, s5, s6⟩ := hS; go_simp <;> with_reducible rfl
  try simp only [Act.put, List.setIfInBounds_toArray, List.set_cons_zero, List.set_cons_succ]
  -- 46: Op.fieldAddr 58 (Operand.tmp 242) 1  [guard (41, 'false')]
  apply x_take (i := 46) [50, 49, 48, 47, 46] rfl (by kernel_rfl) (fun _ _ _ h => h) HS.out
  · refine .inl ⟨by go_simp, fun W' hS => ?_⟩
    obtain ⟨s0, s1, s2, s3, s4, s5, s6⟩ := hS; go_simp <;> with_reducible rfl
  try simp only [Act.put, List.setIfInBounds_toArray, List.set_cons_zero, List.set_cons_succ]
  -- 47: Op.load 3 (Operand.tmp 243)  [guard (41, 'false')]
  apply x_take (i := 47) [50, 49, 48, 47] rfl (by kernel_rfl) (fun _ _ _ h => h) HS.out
  · refine .inl ⟨by go_simp, fun W' hS => ?_⟩
    obtain ⟨s0, s1, s2, s3, s4, s5, s6⟩ := hS; go_simp <;> with_reducible rfl
  try simp only [Act.put, List.setIfInBounds_toArray, List.set_cons_zero, List.set_cons_succ]
  -- EFF 43: slot 240 := Op.call { callee := Callee.value (Operand.func 15), args := #[Operand.tmp 239], argTypes := #[25] }  [guard (41, 'false')]
  refine x_oneg (i := 43) (by kernel_rfl) rfl (by go_simp) (fun K hK => ?_)
  unfold Oper.wp
  go_simp
  refine (lost_any hp7.out).mono ?_
  rintro e w7 ⟨rfl, rfl⟩
  refine hK _ _ (.inl HS.out) ?_; clear hK K
  try simp only [Act.put, List.setIfInBounds_toArray, List.set_cons_zero, List.set_cons_succ]
  -- 48: Op.binOp BinOp.neq 3 (Operand.tmp 240) (Operand.tmp 244) 3  [guard (41, 'false')]
  apply x_take (i := 48) [50, 49, 48] rfl (by kernel_rfl) (fun _ _ _ h => h) HS.out
  · refine .inl ⟨by go_simp, fun W' hS => ?_⟩
    obtain ⟨s0, s1, s2, s3, s4, s5, s6⟩ := hS; go_simp <;> with_reducible rfl
  try simp only [Act.put, List.setIfInBounds_toArray, List.set_cons_zero, List.set_cons_succ]
  -- 49: Op.pick (Operand.tmp 238) (Operand.const (Value.bool true)) (Operand.tmp 245)
  apply x_take (i := 49) [50, 49] rfl (by kernel_rfl) (fun _ _ _ h => h) HS.out
  · refine .inl ⟨rfl, fun W' hS => ?_⟩
    obtain ⟨s0, s1, s2, s3, s4, s5, s6⟩ := hS; go_simp <;> with_reducible rfl
  try simp only [Act.put, List.setIfInBounds_toArray, List.set_cons_zero, List.set_cons_succ]
  -- 50: Op.move (Operand.tmp 246)
  apply x_take (i := 50) [50] rfl (by kernel_rfl) (fun _ _ _ h => h) HS.out
  · refine .inl ⟨rfl, fun W' hS => ?_⟩
    obtain ⟨s0, s1, s2, s3, s4, s5, s6⟩ := hS; go_simp <;> with_reducible rfl
  try simp only [Act.put, List.setIfInBounds_toArray, List.set_cons_zero, List.set_cons_succ]
  -- 51: Op.move (Operand.tmp 5)  [guard (50, 'false')]
  apply x_take (i := 51) [61, 55, 51] rfl (by kernel_rfl) (fun _ _ _ h => h) HS.out
  · refine .inl ⟨by go_simp, fun W' hS => ?_⟩
    obtain ⟨s0, s1, s2, s3, s4, s5, s6⟩ := hS; go_simp <;> with_reducible rfl
  try simp only [Act.put, List.setIfInBounds_toArray, List.set_cons_zero, List.set_cons_succ]
  -- 52: Op.fieldAddr 34 (Operand.tmp 9) 2  [guard (50, 'false')]
  apply x_take (i := 52) [61, 55, 54, 53, 52] rfl (by kernel_rfl) (fun _ _ _ h => h) HS.out
  · refine .inl ⟨by go_simp, fun W' hS => ?_⟩
    obtain ⟨s0, s1, s2, s3, s4, s5, s6⟩ := hS; go_simp <;> with_reducible rfl
  try simp only [Act.put, List.setIfInBounds_toArray, List.set_cons_zero, List.set_cons_succ]
  -- 53: Op.fieldAddr 32 (Operand.tmp 249) 1  [guard (50, 'false')]
  apply x_take (i := 53) [61, 55, 54, 53] rfl (by kernel_rfl) (fun _ _ _ h => h) HS.out
  · refine .inl ⟨by go_simp, fun W' hS => ?_⟩
    obtain ⟨s0, s1, s2, s3, s4, s5, s6⟩ := hS; go_simp <;> with_reducible rfl
  try simp only [Act.put, List.setIfInBounds_toArray, List.set_cons_zero, List.set_cons_succ]
  -- 54: Op.load 3 (Operand.tmp 250)  [guard (50, 'false')]
  apply x_take (i := 54) [61, 55, 54] rfl (by kernel_rfl) (fun _ _ _ h => h) HS.out
  · refine .inl ⟨by go_simp, fun W' hS => ?_⟩
    obtain ⟨s0, s1, s2, s3, s4, s5, s6⟩ := hS; go_simp <;> with_reducible rfl
  try simp only [Act.put, List.setIfInBounds_toArray, List.set_cons_zero, List.set_cons_succ]
  -- 56: Op.move (Operand.tmp 7)  [guard (50, 'false')]
  apply x_take (i := 56) [61, 60, 56] rfl (by kernel_rfl) (fun _ _ _ h => h) HS.out
  · refine .inl ⟨by go_simp, fun W' hS => ?_⟩
    obtain ⟨s0, s1, s2, s3, s4, s5, s6⟩ := hS; go_simp <;> with_reducible rfl
  try simp only [Act.put, List.setIfInBounds_toArray, List.set_cons_zero, List.set_cons_succ]
  -- 57: Op.fieldAddr 34 (Operand.tmp 9) 2  [guard (50, 'false')]
  apply x_take (i := 57) [61, 60, 59, 58, 57] rfl (by kernel_rfl) (fun _ _ _ h => h) HS.out
  · refine .inl ⟨by go_simp, fun W' hS => ?_⟩
    obtain ⟨s0, s1, s2, s3, s4, s5, s6⟩ := hS; go_simp <;> with_reducible rfl
  try simp only [Act.put, List.setIfInBounds_toArray, List.set_cons_zero, List.set_cons_succ]
  -- 58: Op.fieldAddr 32 (Operand.tmp 254) 1  [guard (50, 'false')]
  apply x_take (i := 58) [61, 60, 59, 58] rfl (by kernel_rfl) (fun _ _ _ h => h) HS.out
  · refine .inl ⟨by go_simp, fun W' hS => ?_⟩
    obtain ⟨s0, s1, s2, s3, s4, s5, s6⟩ := hS; go_simp <;> with_reducible rfl
  try simp only [Act.put, List.setIfInBounds_toArray, List.set_cons_zero, List.set_cons_succ]
  -- 59: Op.load 3 (Operand.tmp 255)  [guard (50, 'false')]
  apply x_take (i := 59) [61, 60, 59] rfl (by kernel_rfl) (fun _ _ _ h => h) HS.out
  · refine .inl ⟨by go_simp, fun W' hS => ?_⟩
    obtain ⟨s0, s1, s2, s3, s4, s5, s6⟩ := hS; go_simp <;> with_reducible rfl
  try simp only [Act.put, List.setIfInBounds_toArray, List.set_cons_zero, List.set_cons_succ]
  -- EFF 55: slot 252 := Op.call { callee := Callee.value (Operand.func 27), args := #[Operand.tmp 248, Operand.tmp 251], argTypes := #[25, 3] }  [guard (50, 'false')]
  refine x_oneg (i := 55) (by kernel_rfl) rfl (by go_simp) (fun K hK => ?_)
  unfold Oper.wp
  go_simp
  refine (to_any hp7.out _).mono ?_
  rintro e w7 ⟨rfl, rfl⟩
  refine hK _ _ (.inl HS.out) ?_; clear hK K
  try simp only [Act.put, List.setIfInBounds_toArray, List.set_cons_zero, List.set_cons_succ]
  -- EFF 60: slot 257 := Op.call { callee := Callee.value (Operand.func 28), args := #[Operand.tmp 253, Operand.tmp 256], argTypes := #[46, 3] }  [guard (50, 'false')]
  refine x_oneg (i := 60) (by kernel_rfl) rfl (by go_simp) (fun K hK => ?_)
  unfold Oper.wp
  go_simp
  refine (R.to_any hr7.out _).mono ?_
  rintro e w7 ⟨rfl, rfl⟩
  refine hK _ _ (.inl HS.out) ?_; clear hK K
  try simp only [Act.put, List.setIfInBounds_toArray, List.set_cons_zero, List.set_cons_succ]
  -- 61: Op.binOp BinOp.neq 3 (Operand.tmp 252) (Operand.tmp 257) 3  [guard (50, 'false')]
  apply x_take (i := 61) [61] rfl (by kernel_rfl) (fun _ _ _ h => h) HS.out
  · refine .inl ⟨by go_simp, fun W' hS => ?_⟩
    obtain ⟨s0, s1, s2, s3, s4, s5, s6⟩ := hS; go_simp <;> with_reducible rfl
  try simp only [Act.put, List.setIfInBounds_toArray, List.set_cons_zero, List.set_cons_succ]
  -- EFF 62: slot 259 := Op.pick (Operand.tmp 247) (Operand.const (Value.bool true)) (Operand.tmp 258)
  refine x_one (i := 62) (by kernel_rfl) rfl rfl (fun K hK => ?_)
  unfold Oper.wp
  go_simp
  refine hK _ _ (.inr rfl) ?_; clear hK K
  try simp only [Act.put, List.setIfInBounds_toArray, List.set_cons_zero, List.set_cons_succ]
  refine x_done (by kernel_rfl) ?_
  go_wp2_with (fail)
  exact hQ.out _ _ _ _ _ _ _ _ _ _ _ _ _ _ _ _ _ _ _ _ _ _ _ _ _ _ _ _ _ _ _ _ _ _ _ _ _ _ _ _ _ _ _ _ _ _ _ _ _ _ _ _ _ _ _ _ _ _ _ _ _ _ _ _ _ _ _ _ _ _ _ _ _  hend.out

end Go.Proofs.Ytjfbiifcjiidfaa
