/- PoolPlays: each case of its switch. -/
import Derived.Test.YtjfbiifcjiidfaaPK
namespace Go.Proofs.Ytjfbiifcjiidfaa
open Go.RowKit

/-- Where both pools stand behind so many acts. -/
structure LK (w : World) (bp br : Nat) (s : PS) (k : Nat) (wr : World) : Prop where
  p : IsP w.heap.size bp s (fun j => j < wr.heap.size) wr
  r : R.IsP w.heap.size br s (fun j => j < wr.heap.size) wr
  s : SK s k
  bel : Below w.heap.size w wr
def bx (a : Ac) (bv : Value) : Array Value := #[.int .i64 a.kind, .int .i64 a.i, .int .i64 a.x.from_, .int .i64 a.x.to_, bv]
/-- Behind the switch: both pools, and the act's own copy. -/
structure LB (w : World) (bp br : Nat) (s : PS) (k B : Nat) (a : Ac) (bv : Value) (wr : World) : Prop where
  p : IsP w.heap.size bp s (fun _ => True) wr
  r : R.IsP w.heap.size br s (fun _ => True) wr
  s : SK s k
  bel : Below w.heap.size w wr
  box : wr.heap[B]? = some (.cells (bx a bv) 34 (0, 0))


/-- Behind a send, while the sent parcel's bytes are turned. -/
structure XL (w : World) (bp br : Nat) (s : PS) (B X O : Nat) (a : Ac) (bv : Value) (Ax : Option Addr) (cx : Nat) (wr : World) : Prop where
  p : IsP w.heap.size bp s (fun j => j < B ∨ X ≤ j) wr
  r : R.IsP w.heap.size br s (fun j => j < B ∨ X ≤ j) wr
  bel : Below w.heap.size w wr
  box : wr.heap[B]? = some (.cells (bx a bv) 34 (0, 0))
  par : wr.heap[X]? = some (.cells #[.int .i64 a.x.from_, .int .i64 a.x.to_, .slice Ax a.x.b.length cx] 37 (0, 0))
  row : ∃ ys : List Int, wr.ownsRow O 5 1 (.slice Ax a.x.b.length cx) a.x.b.length (byV ys) ∧ ys.length = a.x.b.length

theorem XL.below {w : World} {bp br : Nat} {s : PS} {B X O : Nat} {a : Ac} {bv : Value} {Ax : Option Addr} {cx : Nat} {wr w' : World} (h : XL w bp br s B X O a bv Ax cx wr) (hb : Below wr.heap.size wr w') : XL w bp br s B X O a bv Ax cx w' := by
  obtain ⟨p, r, bel, box, par, ys, own, hl⟩ := h
  exact ⟨p.of_below hb, r.of_below hb, bel.trans (hb.mono bel.size), block_kept box hb, block_kept par hb, ys, own_fr (S := fun _ => False) own (Fr.of_below hb) (fun _ _ h => h), hl⟩
theorem own_free {w : World} {base n g c : Nat} {e : TypeId} {size : Nat} {xs : List Value} (h : w.ownsRow base e size (.slice (some ⟨g, 0, none⟩) n c) n xs) (j : Nat) : w.frozen? ⟨g, j, none⟩ = false := by
  rcases h.2 with ⟨e, _⟩ | ⟨g', cap, cur, e, _, hh, _⟩
  · cases e
  · cases e
    exact free_of_block hh j
theorem XL.set {w : World} {bp br : Nat} {s : PS} {B X O : Nat} {a : Ac} {bv : Value} {g : Nat} {cx : Nat} {wr : World} (h : XL w bp br s B X O a bv (some ⟨g, 0, none⟩) cx wr) (q : Nat) (hBO : B < O) (hgX : g < X) (hO : w.heap.size ≤ O) (z : Int) : XL w bp br s B X O a bv (some ⟨g, 0, none⟩) cx (wr.setCell ⟨g, q, none⟩ (.int .u8 z)) := by
  obtain ⟨p, r, bel, box, par, ys, own, hl⟩ := h
  have hgO := own_base own g rfl
  obtain ⟨c9, fz9, h9⟩ := own_kind own g rfl
  have hf : Fr (fun j => j = g) wr (wr.setCell ⟨g, q, none⟩ (.int .u8 z)) := (Fr.refl (fun j => j = g) wr).setCell (p := ⟨g, q, none⟩) (fun _ => rfl) _
  refine ⟨p.fr hf (fun j hj e => by subst e; exact p.no_u8 h9 hj) (fun j _ _ hj _ e => by omega), R.IsP.fr r hf (fun j hj e => by subst e; exact rNo r h9 hj) (fun j _ _ hj _ e => by omega), bel.trans (hf.below bel.size (fun j hj e => by omega)), fr_block box hf (by omega), fr_block par hf (by omega), ys.set q z, own_set_u8 own z, by rw [List.length_set, hl]⟩


def findBlock (n : Nat) : Code → Option Code
  | .block i c => if i = n then some (.block i c) else findBlock n c
  | .seq a b => match findBlock n a with
    | some c => some c
    | none => findBlock n b
  | .loop c => findBlock n c
  | .scope c => findBlock n c
  | .cond _ a b => match findBlock n a with
    | some c => some c
    | none => findBlock n b
  | _ => none
theorem wp_normal {P : Program} {c : Code} {Q : Exit → Act → World → Prop} {a : Act} {w : World} (h : c.wp P (Exit.then (fun a' w' => Q .normal a' w') (fun _ _ _ => False)) a w) : c.wp P Q a w := Code.wp_mono (fun e a w h => by cases e <;> first | exact h | exact h.elim) h
noncomputable def swC : Code := ((Try.f4.body.bind (findBlock 2)).getD .skip)

set_option maxHeartbeats 40000000 in
set_option maxRecDepth 1000000 in
set_option linter.unusedSimpArgs false in
set_option linter.unusedVariables false in
theorem sw_else (w0 : World) (bp br B k : Nat) (s : PS) (a : Ac) (Ab : Option Addr) (cb : Nat) (W1 : World) (KK : Act → World → Prop) (c0 c1 c2 c3 c4 c6 c8 c10 c11 c12 c13 c14 c15 c16 c17 c18 c19 c20 c21 c22 c23 c24 c25 c26 c27 c28 c29 c30 c31 c32 c33 c34 c35 c36 c37 c38 c39 c40 c41 c42 c43 c44 c45 c46 c47 c48 c49 c50 c51 c52 c53 c54 c55 c56 c57 c58 c59 c60 c61 c62 c63 c64 c65 c66 c67 c68 c69 c70 c71 c72 c73 c75 c76 c77 c78 c79 c80 c81 c82 c83 c84 c85 c86 c87 c88 c89 c90 c91 c92 c93 c94 c95 c96 c97 c98 c99 c100 c101 c102 c103 c104 c105 c106 c107 c108 c109 c110 c111 c112 c113 c114 c115 c116 c117 c118 c119 c120 c121 c122 c123 c124 c125 c126 c127 c128 c129 c130 c131 c132 c133 c134 c135 c136 c137 c138 c139 c140 c141 c142 c143 c144 c145 c146 c147 c148 c149 c150 c151 c152 c153 c154 c155 c156 c157 c158 c159 c160 c161 c162 c163 c164 c165 c166 c167 c168 c169 c170 c171 c172 c173 c174 c175 c176 c177 c178 c179 c180 c181 c182 c183 c184 c185 c186 c187 c188 c189 c190 c191 c192 c193 c194 c195 c196 c197 c198 c199 c200 c201 c202 c203 c204 c205 c206 c207 c208 c209 c210 c211 c212 c213 c214 c215 c216 c217 c218 c219 c220 c221 c222 c223 c224 c225 c226 c227 c228 c229 c230 c231 c232 c233 c234 c235 c236 c237 c238 c239 c240 c241 c242 c243 c244 c245 c246 c247 c248 c249 c250 c251 c252 c253 c254 c255 c256 c257 c258 c259 : Value)
    (hp1 : IsP w0.heap.size bp s (fun j => j < B) W1) (hr1 : R.IsP w0.heap.size br s (fun j => j < B) W1) (hsk : SK s k) (hk2 : k ≤ 120) (hB1 : Below w0.heap.size w0 W1) (hA : W1.heap[B]? = some (.cells #[.int .i64 a.kind, .int .i64 a.i, .int .i64 a.x.from_, .int .i64 a.x.to_, .slice Ab a.x.b.length cb] 34 (0, 0))) (hB0 : w0.heap.size ≤ B) (hshort : a.x.b.length ≤ 500) (hbytes : Rd w0 (.slice Ab a.x.b.length cb) a.x.b.length (byV a.x.b))
    (h0 : (a.kind == 0) = false) (h1 : (a.kind == 1) = false) (h2 : (a.kind == 2) = false) (h3 : (a.kind == 3) = false) (h4 : (a.kind == 4) = false) (h5 : (a.kind == 5) = false)
    (hQ : ∀ (u4 u10 u11 u12 u13 u14 u15 u16 u17 u18 u19 u75 u76 u77 u78 u79 u80 u81 u82 u83 u84 u85 u86 u87 u88 u89 u90 u91 u92 u93 u94 u95 u96 u97 u98 u99 u100 u101 u102 u103 u104 u105 u106 u107 u108 u109 u110 u111 u112 u113 u114 u115 u116 u117 u118 u119 u120 u121 u122 u123 u124 u125 u126 u127 u128 u129 u130 u131 u132 u133 u134 u135 u136 u137 u138 u139 u140 u141 u142 u143 u144 u145 u146 u147 u148 u149 u150 u151 u152 u153 u154 u155 u156 u157 u158 u159 u160 u161 u162 u163 u164 u165 u166 u167 u168 u169 u170 u171 u172 u173 u174 u175 u176 u177 u178 u179 u180 u181 u182 u183 u184 u185 u186 u187 u188 u189 : Value) (bp' : Nat) (s' : PS) (wx : World), LB w0 bp' br s' (k + 1) B a (.slice Ab a.x.b.length cb) wx → KK ⟨#[c0, c1, c2, c3, u4, .pointer (some ⟨bp', 0, none⟩), c6, .pointer (some ⟨br, 0, none⟩), c8, .pointer (some ⟨B, 0, none⟩), u10, u11, u12, u13, u14, u15, u16, u17, u18, u19, c20, c21, c22, c23, c24, c25, c26, c27, c28, c29, c30, c31, c32, c33, c34, c35, c36, c37, c38, c39, c40, c41, c42, c43, c44, c45, c46, c47, c48, c49, c50, c51, c52, c53, c54, c55, c56, c57, c58, c59, c60, c61, c62, c63, c64, c65, c66, c67, c68, c69, c70, c71, c72, c73, .int .i64 a.kind, u75, u76, u77, u78, u79, u80, u81, u82, u83, u84, u85, u86, u87, u88, u89, u90, u91, u92, u93, u94, u95, u96, u97, u98, u99, u100, u101, u102, u103, u104, u105, u106, u107, u108, u109, u110, u111, u112, u113, u114, u115, u116, u117, u118, u119, u120, u121, u122, u123, u124, u125, u126, u127, u128, u129, u130, u131, u132, u133, u134, u135, u136, u137, u138, u139, u140, u141, u142, u143, u144, u145, u146, u147, u148, u149, u150, u151, u152, u153, u154, u155, u156, u157, u158, u159, u160, u161, u162, u163, u164, u165, u166, u167, u168, u169, u170, u171, u172, u173, u174, u175, u176, u177, u178, u179, u180, u181, u182, u183, u184, u185, u186, u187, u188, u189, c190, c191, c192, c193, c194, c195, c196, c197, c198, c199, c200, c201, c202, c203, c204, c205, c206, c207, c208, c209, c210, c211, c212, c213, c214, c215, c216, c217, c218, c219, c220, c221, c222, c223, c224, c225, c226, c227, c228, c229, c230, c231, c232, c233, c234, c235, c236, c237, c238, c239, c240, c241, c242, c243, c244, c245, c246, c247, c248, c249, c250, c251, c252, c253, c254, c255, c256, c257, c258, c259], []⟩ wx) :
    Code.wp Try.prog swC (Exit.then KK (fun _ _ _ => False)) ⟨#[c0, c1, c2, c3, c4, .pointer (some ⟨bp, 0, none⟩), c6, .pointer (some ⟨br, 0, none⟩), c8, .pointer (some ⟨B, 0, none⟩), c10, c11, c12, c13, c14, c15, c16, c17, c18, c19, c20, c21, c22, c23, c24, c25, c26, c27, c28, c29, c30, c31, c32, c33, c34, c35, c36, c37, c38, c39, c40, c41, c42, c43, c44, c45, c46, c47, c48, c49, c50, c51, c52, c53, c54, c55, c56, c57, c58, c59, c60, c61, c62, c63, c64, c65, c66, c67, c68, c69, c70, c71, c72, c73, .int .i64 a.kind, c75, c76, c77, c78, c79, c80, c81, c82, c83, c84, c85, c86, c87, c88, c89, c90, c91, c92, c93, c94, c95, c96, c97, c98, c99, c100, c101, c102, c103, c104, c105, c106, c107, c108, c109, c110, c111, c112, c113, c114, c115, c116, c117, c118, c119, c120, c121, c122, c123, c124, c125, c126, c127, c128, c129, c130, c131, c132, c133, c134, c135, c136, c137, c138, c139, c140, c141, c142, c143, c144, c145, c146, c147, c148, c149, c150, c151, c152, c153, c154, c155, c156, c157, c158, c159, c160, c161, c162, c163, c164, c165, c166, c167, c168, c169, c170, c171, c172, c173, c174, c175, c176, c177, c178, c179, c180, c181, c182, c183, c184, c185, c186, c187, c188, c189, c190, c191, c192, c193, c194, c195, c196, c197, c198, c199, c200, c201, c202, c203, c204, c205, c206, c207, c208, c209, c210, c211, c212, c213, c214, c215, c216, c217, c218, c219, c220, c221, c222, c223, c224, c225, c226, c227, c228, c229, c230, c231, c232, c233, c234, c235, c236, c237, c238, c239, c240, c241, c242, c243, c244, c245, c246, c247, c248, c249, c250, c251, c252, c253, c254, c255, c256, c257, c258, c259], []⟩ W1 := by
  conv => arg 2; whnf
  have hszA := lt_of_block hA
  have hbytes1 := hbytes.below (hB1.mono (Nat.le_refl _))
  have q0 : W1.cell? ⟨B, 0, none⟩ = some (.int .i64 a.kind) := cell_of_block hA 0
  have q1 : W1.cell? ⟨B, 1, none⟩ = some (.int .i64 a.i) := cell_of_block hA 1
  have q2 : W1.cell? ⟨B, 2, none⟩ = some (.int .i64 a.x.from_) := cell_of_block hA 2
  have q3 : W1.cell? ⟨B, 3, none⟩ = some (.int .i64 a.x.to_) := cell_of_block hA 3
  have q4 : W1.cell? ⟨B, 4, none⟩ = some (.slice Ab a.x.b.length cb) := cell_of_block hA 4
  replace hp1 := Lib.hid hp1
  replace hr1 := Lib.hid hr1
  replace hsk := Lib.hid hsk
  replace hB1 := Lib.hid hB1
  replace hA := Lib.hid hA
  replace hbytes := Lib.hid hbytes
  replace hbytes1 := Lib.hid hbytes1
  replace hQ := Lib.hid hQ
  go_wp2
  exact hQ.out _ _ _ _ _ _ _ _ _ _ _ _ _ _ _ _ _ _ _ _ _ _ _ _ _ _ _ _ _ _ _ _ _ _ _ _ _ _ _ _ _ _ _ _ _ _ _ _ _ _ _ _ _ _ _ _ _ _ _ _ _ _ _ _ _ _ _ _ _ _ _ _ _ _ _ _ _ _ _ _ _ _ _ _ _ _ _ _ _ _ _ _ _ _ _ _ _ _ _ _ _ _ _ _ _ _ _ _ _ _ _ _ _ _ _ _ _ _ _ _ _ _ _ _ _ _ _ _ _ (Lib.hid ⟨hp1.out.mono (fun _ _ _ => trivial), hr1.out.mono (fun _ _ _ => trivial), hsk.out.next, hB1.out, hA.out⟩).out

set_option maxHeartbeats 40000000 in
set_option maxRecDepth 1000000 in
set_option linter.unusedSimpArgs false in
set_option linter.unusedVariables false in
theorem sw_clone (w0 : World) (bp br B k : Nat) (s : PS) (a : Ac) (Ab : Option Addr) (cb : Nat) (W1 : World) (KK : Act → World → Prop) (c0 c1 c2 c3 c4 c6 c8 c10 c11 c12 c13 c14 c15 c16 c17 c18 c19 c20 c21 c22 c23 c24 c25 c26 c27 c28 c29 c30 c31 c32 c33 c34 c35 c36 c37 c38 c39 c40 c41 c42 c43 c44 c45 c46 c47 c48 c49 c50 c51 c52 c53 c54 c55 c56 c57 c58 c59 c60 c61 c62 c63 c64 c65 c66 c67 c68 c69 c70 c71 c72 c73 c75 c76 c77 c78 c79 c80 c81 c82 c83 c84 c85 c86 c87 c88 c89 c90 c91 c92 c93 c94 c95 c96 c97 c98 c99 c100 c101 c102 c103 c104 c105 c106 c107 c108 c109 c110 c111 c112 c113 c114 c115 c116 c117 c118 c119 c120 c121 c122 c123 c124 c125 c126 c127 c128 c129 c130 c131 c132 c133 c134 c135 c136 c137 c138 c139 c140 c141 c142 c143 c144 c145 c146 c147 c148 c149 c150 c151 c152 c153 c154 c155 c156 c157 c158 c159 c160 c161 c162 c163 c164 c165 c166 c167 c168 c169 c170 c171 c172 c173 c174 c175 c176 c177 c178 c179 c180 c181 c182 c183 c184 c185 c186 c187 c188 c189 c190 c191 c192 c193 c194 c195 c196 c197 c198 c199 c200 c201 c202 c203 c204 c205 c206 c207 c208 c209 c210 c211 c212 c213 c214 c215 c216 c217 c218 c219 c220 c221 c222 c223 c224 c225 c226 c227 c228 c229 c230 c231 c232 c233 c234 c235 c236 c237 c238 c239 c240 c241 c242 c243 c244 c245 c246 c247 c248 c249 c250 c251 c252 c253 c254 c255 c256 c257 c258 c259 : Value)
    (hp1 : IsP w0.heap.size bp s (fun j => j < B) W1) (hr1 : R.IsP w0.heap.size br s (fun j => j < B) W1) (hsk : SK s k) (hk2 : k ≤ 120) (hB1 : Below w0.heap.size w0 W1) (hA : W1.heap[B]? = some (.cells #[.int .i64 a.kind, .int .i64 a.i, .int .i64 a.x.from_, .int .i64 a.x.to_, .slice Ab a.x.b.length cb] 34 (0, 0))) (hB0 : w0.heap.size ≤ B) (hshort : a.x.b.length ≤ 500) (hbytes : Rd w0 (.slice Ab a.x.b.length cb) a.x.b.length (byV a.x.b))
    (h0 : (a.kind == 0) = false) (h1 : (a.kind == 1) = false) (h2 : (a.kind == 2) = false) (h3 : (a.kind == 3) = false) (h4 : (a.kind == 4) = false) (h5 : (a.kind == 5) = true)
    (hQ : ∀ (u4 u10 u11 u12 u13 u14 u15 u16 u17 u18 u19 u75 u76 u77 u78 u79 u80 u81 u82 u83 u84 u85 u86 u87 u88 u89 u90 u91 u92 u93 u94 u95 u96 u97 u98 u99 u100 u101 u102 u103 u104 u105 u106 u107 u108 u109 u110 u111 u112 u113 u114 u115 u116 u117 u118 u119 u120 u121 u122 u123 u124 u125 u126 u127 u128 u129 u130 u131 u132 u133 u134 u135 u136 u137 u138 u139 u140 u141 u142 u143 u144 u145 u146 u147 u148 u149 u150 u151 u152 u153 u154 u155 u156 u157 u158 u159 u160 u161 u162 u163 u164 u165 u166 u167 u168 u169 u170 u171 u172 u173 u174 u175 u176 u177 u178 u179 u180 u181 u182 u183 u184 u185 u186 u187 u188 u189 : Value) (bp' : Nat) (s' : PS) (wx : World), LB w0 bp' br s' (k + 1) B a (.slice Ab a.x.b.length cb) wx → KK ⟨#[c0, c1, c2, c3, u4, .pointer (some ⟨bp', 0, none⟩), c6, .pointer (some ⟨br, 0, none⟩), c8, .pointer (some ⟨B, 0, none⟩), u10, u11, u12, u13, u14, u15, u16, u17, u18, u19, c20, c21, c22, c23, c24, c25, c26, c27, c28, c29, c30, c31, c32, c33, c34, c35, c36, c37, c38, c39, c40, c41, c42, c43, c44, c45, c46, c47, c48, c49, c50, c51, c52, c53, c54, c55, c56, c57, c58, c59, c60, c61, c62, c63, c64, c65, c66, c67, c68, c69, c70, c71, c72, c73, .int .i64 a.kind, u75, u76, u77, u78, u79, u80, u81, u82, u83, u84, u85, u86, u87, u88, u89, u90, u91, u92, u93, u94, u95, u96, u97, u98, u99, u100, u101, u102, u103, u104, u105, u106, u107, u108, u109, u110, u111, u112, u113, u114, u115, u116, u117, u118, u119, u120, u121, u122, u123, u124, u125, u126, u127, u128, u129, u130, u131, u132, u133, u134, u135, u136, u137, u138, u139, u140, u141, u142, u143, u144, u145, u146, u147, u148, u149, u150, u151, u152, u153, u154, u155, u156, u157, u158, u159, u160, u161, u162, u163, u164, u165, u166, u167, u168, u169, u170, u171, u172, u173, u174, u175, u176, u177, u178, u179, u180, u181, u182, u183, u184, u185, u186, u187, u188, u189, c190, c191, c192, c193, c194, c195, c196, c197, c198, c199, c200, c201, c202, c203, c204, c205, c206, c207, c208, c209, c210, c211, c212, c213, c214, c215, c216, c217, c218, c219, c220, c221, c222, c223, c224, c225, c226, c227, c228, c229, c230, c231, c232, c233, c234, c235, c236, c237, c238, c239, c240, c241, c242, c243, c244, c245, c246, c247, c248, c249, c250, c251, c252, c253, c254, c255, c256, c257, c258, c259], []⟩ wx) :
    Code.wp Try.prog swC (Exit.then KK (fun _ _ _ => False)) ⟨#[c0, c1, c2, c3, c4, .pointer (some ⟨bp, 0, none⟩), c6, .pointer (some ⟨br, 0, none⟩), c8, .pointer (some ⟨B, 0, none⟩), c10, c11, c12, c13, c14, c15, c16, c17, c18, c19, c20, c21, c22, c23, c24, c25, c26, c27, c28, c29, c30, c31, c32, c33, c34, c35, c36, c37, c38, c39, c40, c41, c42, c43, c44, c45, c46, c47, c48, c49, c50, c51, c52, c53, c54, c55, c56, c57, c58, c59, c60, c61, c62, c63, c64, c65, c66, c67, c68, c69, c70, c71, c72, c73, .int .i64 a.kind, c75, c76, c77, c78, c79, c80, c81, c82, c83, c84, c85, c86, c87, c88, c89, c90, c91, c92, c93, c94, c95, c96, c97, c98, c99, c100, c101, c102, c103, c104, c105, c106, c107, c108, c109, c110, c111, c112, c113, c114, c115, c116, c117, c118, c119, c120, c121, c122, c123, c124, c125, c126, c127, c128, c129, c130, c131, c132, c133, c134, c135, c136, c137, c138, c139, c140, c141, c142, c143, c144, c145, c146, c147, c148, c149, c150, c151, c152, c153, c154, c155, c156, c157, c158, c159, c160, c161, c162, c163, c164, c165, c166, c167, c168, c169, c170, c171, c172, c173, c174, c175, c176, c177, c178, c179, c180, c181, c182, c183, c184, c185, c186, c187, c188, c189, c190, c191, c192, c193, c194, c195, c196, c197, c198, c199, c200, c201, c202, c203, c204, c205, c206, c207, c208, c209, c210, c211, c212, c213, c214, c215, c216, c217, c218, c219, c220, c221, c222, c223, c224, c225, c226, c227, c228, c229, c230, c231, c232, c233, c234, c235, c236, c237, c238, c239, c240, c241, c242, c243, c244, c245, c246, c247, c248, c249, c250, c251, c252, c253, c254, c255, c256, c257, c258, c259], []⟩ W1 := by
  conv => arg 2; whnf
  have hszA := lt_of_block hA
  have hbytes1 := hbytes.below (hB1.mono (Nat.le_refl _))
  have q0 : W1.cell? ⟨B, 0, none⟩ = some (.int .i64 a.kind) := cell_of_block hA 0
  have q1 : W1.cell? ⟨B, 1, none⟩ = some (.int .i64 a.i) := cell_of_block hA 1
  have q2 : W1.cell? ⟨B, 2, none⟩ = some (.int .i64 a.x.from_) := cell_of_block hA 2
  have q3 : W1.cell? ⟨B, 3, none⟩ = some (.int .i64 a.x.to_) := cell_of_block hA 3
  have q4 : W1.cell? ⟨B, 4, none⟩ = some (.slice Ab a.x.b.length cb) := cell_of_block hA 4
  replace hp1 := Lib.hid hp1
  replace hr1 := Lib.hid hr1
  replace hsk := Lib.hid hsk
  replace hB1 := Lib.hid hB1
  replace hA := Lib.hid hA
  replace hbytes := Lib.hid hbytes
  replace hbytes1 := Lib.hid hbytes1
  replace hQ := Lib.hid hQ
  go_wp2_with (fail)
  refine (clone_any hp1.out (hsk.out.ok (by omega))).mono ?_
  rintro e w3 ⟨rfl, hC, hb3⟩
  have hp3 := hp1.out.of_below hb3
  have hr3 := hr1.out.of_below hb3
  have hA3 := block_kept hA.out hb3
  have hB3 := hB1.out.trans (hb3.mono hB1.out.size)
  replace hb3 := Lib.hid hb3
  replace hC := Lib.hid hC
  replace hp3 := Lib.hid hp3
  replace hr3 := Lib.hid hr3
  replace hA3 := Lib.hid hA3
  replace hB3 := Lib.hid hB3
  go_wp2_with (fail)
  refine (all_any hp3.out).mono ?_
  rintro e w4 ⟨_, _, v4, _, rfl, hown4, _, hf4⟩
  obtain ⟨A4, c4, rfl, _⟩ := own_slice hown4
  have hf4' : Fr (Wr bp w3) w3 w4 := hf4.mono (fun _ _ e => .inl e)
  have hbl := hp1.out.lt
  have hC4 : IsP w0.heap.size W1.heap.size s (fun _ => True) w4 := ((hC.out.fr hf4 (fun j hj e => by have := hC.out.wr_low j hj; omega) (fun j _ _ hj _ e => by have hj : W1.heap.size ≤ j := hj; omega)).mono (fun _ _ _ => trivial)).base hB1.out.size
  have hend : Hid (LB w0 W1.heap.size br s (k + 1) B a (.slice Ab a.x.b.length cb) w4) := Lib.hid ⟨hC4, (rOver hr3.out hp3.out hf4').mono (fun _ _ _ => trivial), hsk.out.next, hp3.out.bel hf4' hB3.out (Nat.le_refl _), hp3.out.keep hf4' hA3.out (by decide)⟩
  clear hown4 hf4 hf4' hC4 hbl
  go_wp2_with (fail)
  exact hQ.out _ _ _ _ _ _ _ _ _ _ _ _ _ _ _ _ _ _ _ _ _ _ _ _ _ _ _ _ _ _ _ _ _ _ _ _ _ _ _ _ _ _ _ _ _ _ _ _ _ _ _ _ _ _ _ _ _ _ _ _ _ _ _ _ _ _ _ _ _ _ _ _ _ _ _ _ _ _ _ _ _ _ _ _ _ _ _ _ _ _ _ _ _ _ _ _ _ _ _ _ _ _ _ _ _ _ _ _ _ _ _ _ _ _ _ _ _ _ _ _ _ _ _ _ _ _ _ _ _ hend.out

set_option maxHeartbeats 40000000 in
set_option maxRecDepth 1000000 in
set_option linter.unusedSimpArgs false in
set_option linter.unusedVariables false in
theorem sw_all (w0 : World) (bp br B k : Nat) (s : PS) (a : Ac) (Ab : Option Addr) (cb : Nat) (W1 : World) (KK : Act → World → Prop) (c0 c1 c2 c3 c4 c6 c8 c10 c11 c12 c13 c14 c15 c16 c17 c18 c19 c20 c21 c22 c23 c24 c25 c26 c27 c28 c29 c30 c31 c32 c33 c34 c35 c36 c37 c38 c39 c40 c41 c42 c43 c44 c45 c46 c47 c48 c49 c50 c51 c52 c53 c54 c55 c56 c57 c58 c59 c60 c61 c62 c63 c64 c65 c66 c67 c68 c69 c70 c71 c72 c73 c75 c76 c77 c78 c79 c80 c81 c82 c83 c84 c85 c86 c87 c88 c89 c90 c91 c92 c93 c94 c95 c96 c97 c98 c99 c100 c101 c102 c103 c104 c105 c106 c107 c108 c109 c110 c111 c112 c113 c114 c115 c116 c117 c118 c119 c120 c121 c122 c123 c124 c125 c126 c127 c128 c129 c130 c131 c132 c133 c134 c135 c136 c137 c138 c139 c140 c141 c142 c143 c144 c145 c146 c147 c148 c149 c150 c151 c152 c153 c154 c155 c156 c157 c158 c159 c160 c161 c162 c163 c164 c165 c166 c167 c168 c169 c170 c171 c172 c173 c174 c175 c176 c177 c178 c179 c180 c181 c182 c183 c184 c185 c186 c187 c188 c189 c190 c191 c192 c193 c194 c195 c196 c197 c198 c199 c200 c201 c202 c203 c204 c205 c206 c207 c208 c209 c210 c211 c212 c213 c214 c215 c216 c217 c218 c219 c220 c221 c222 c223 c224 c225 c226 c227 c228 c229 c230 c231 c232 c233 c234 c235 c236 c237 c238 c239 c240 c241 c242 c243 c244 c245 c246 c247 c248 c249 c250 c251 c252 c253 c254 c255 c256 c257 c258 c259 : Value)
    (hp1 : IsP w0.heap.size bp s (fun j => j < B) W1) (hr1 : R.IsP w0.heap.size br s (fun j => j < B) W1) (hsk : SK s k) (hk2 : k ≤ 120) (hB1 : Below w0.heap.size w0 W1) (hA : W1.heap[B]? = some (.cells #[.int .i64 a.kind, .int .i64 a.i, .int .i64 a.x.from_, .int .i64 a.x.to_, .slice Ab a.x.b.length cb] 34 (0, 0))) (hB0 : w0.heap.size ≤ B) (hshort : a.x.b.length ≤ 500) (hbytes : Rd w0 (.slice Ab a.x.b.length cb) a.x.b.length (byV a.x.b))
    (h0 : (a.kind == 0) = false) (h1 : (a.kind == 1) = false) (h2 : (a.kind == 2) = false) (h3 : (a.kind == 3) = false) (h4 : (a.kind == 4) = true)
    (hQ : ∀ (u4 u10 u11 u12 u13 u14 u15 u16 u17 u18 u19 u75 u76 u77 u78 u79 u80 u81 u82 u83 u84 u85 u86 u87 u88 u89 u90 u91 u92 u93 u94 u95 u96 u97 u98 u99 u100 u101 u102 u103 u104 u105 u106 u107 u108 u109 u110 u111 u112 u113 u114 u115 u116 u117 u118 u119 u120 u121 u122 u123 u124 u125 u126 u127 u128 u129 u130 u131 u132 u133 u134 u135 u136 u137 u138 u139 u140 u141 u142 u143 u144 u145 u146 u147 u148 u149 u150 u151 u152 u153 u154 u155 u156 u157 u158 u159 u160 u161 u162 u163 u164 u165 u166 u167 u168 u169 u170 u171 u172 u173 u174 u175 u176 u177 u178 u179 u180 u181 u182 u183 u184 u185 u186 u187 u188 u189 : Value) (bp' : Nat) (s' : PS) (wx : World), LB w0 bp' br s' (k + 1) B a (.slice Ab a.x.b.length cb) wx → KK ⟨#[c0, c1, c2, c3, u4, .pointer (some ⟨bp', 0, none⟩), c6, .pointer (some ⟨br, 0, none⟩), c8, .pointer (some ⟨B, 0, none⟩), u10, u11, u12, u13, u14, u15, u16, u17, u18, u19, c20, c21, c22, c23, c24, c25, c26, c27, c28, c29, c30, c31, c32, c33, c34, c35, c36, c37, c38, c39, c40, c41, c42, c43, c44, c45, c46, c47, c48, c49, c50, c51, c52, c53, c54, c55, c56, c57, c58, c59, c60, c61, c62, c63, c64, c65, c66, c67, c68, c69, c70, c71, c72, c73, .int .i64 a.kind, u75, u76, u77, u78, u79, u80, u81, u82, u83, u84, u85, u86, u87, u88, u89, u90, u91, u92, u93, u94, u95, u96, u97, u98, u99, u100, u101, u102, u103, u104, u105, u106, u107, u108, u109, u110, u111, u112, u113, u114, u115, u116, u117, u118, u119, u120, u121, u122, u123, u124, u125, u126, u127, u128, u129, u130, u131, u132, u133, u134, u135, u136, u137, u138, u139, u140, u141, u142, u143, u144, u145, u146, u147, u148, u149, u150, u151, u152, u153, u154, u155, u156, u157, u158, u159, u160, u161, u162, u163, u164, u165, u166, u167, u168, u169, u170, u171, u172, u173, u174, u175, u176, u177, u178, u179, u180, u181, u182, u183, u184, u185, u186, u187, u188, u189, c190, c191, c192, c193, c194, c195, c196, c197, c198, c199, c200, c201, c202, c203, c204, c205, c206, c207, c208, c209, c210, c211, c212, c213, c214, c215, c216, c217, c218, c219, c220, c221, c222, c223, c224, c225, c226, c227, c228, c229, c230, c231, c232, c233, c234, c235, c236, c237, c238, c239, c240, c241, c242, c243, c244, c245, c246, c247, c248, c249, c250, c251, c252, c253, c254, c255, c256, c257, c258, c259], []⟩ wx) :
    Code.wp Try.prog swC (Exit.then KK (fun _ _ _ => False)) ⟨#[c0, c1, c2, c3, c4, .pointer (some ⟨bp, 0, none⟩), c6, .pointer (some ⟨br, 0, none⟩), c8, .pointer (some ⟨B, 0, none⟩), c10, c11, c12, c13, c14, c15, c16, c17, c18, c19, c20, c21, c22, c23, c24, c25, c26, c27, c28, c29, c30, c31, c32, c33, c34, c35, c36, c37, c38, c39, c40, c41, c42, c43, c44, c45, c46, c47, c48, c49, c50, c51, c52, c53, c54, c55, c56, c57, c58, c59, c60, c61, c62, c63, c64, c65, c66, c67, c68, c69, c70, c71, c72, c73, .int .i64 a.kind, c75, c76, c77, c78, c79, c80, c81, c82, c83, c84, c85, c86, c87, c88, c89, c90, c91, c92, c93, c94, c95, c96, c97, c98, c99, c100, c101, c102, c103, c104, c105, c106, c107, c108, c109, c110, c111, c112, c113, c114, c115, c116, c117, c118, c119, c120, c121, c122, c123, c124, c125, c126, c127, c128, c129, c130, c131, c132, c133, c134, c135, c136, c137, c138, c139, c140, c141, c142, c143, c144, c145, c146, c147, c148, c149, c150, c151, c152, c153, c154, c155, c156, c157, c158, c159, c160, c161, c162, c163, c164, c165, c166, c167, c168, c169, c170, c171, c172, c173, c174, c175, c176, c177, c178, c179, c180, c181, c182, c183, c184, c185, c186, c187, c188, c189, c190, c191, c192, c193, c194, c195, c196, c197, c198, c199, c200, c201, c202, c203, c204, c205, c206, c207, c208, c209, c210, c211, c212, c213, c214, c215, c216, c217, c218, c219, c220, c221, c222, c223, c224, c225, c226, c227, c228, c229, c230, c231, c232, c233, c234, c235, c236, c237, c238, c239, c240, c241, c242, c243, c244, c245, c246, c247, c248, c249, c250, c251, c252, c253, c254, c255, c256, c257, c258, c259], []⟩ W1 := by
  conv => arg 2; whnf
  have hszA := lt_of_block hA
  have hbytes1 := hbytes.below (hB1.mono (Nat.le_refl _))
  have q0 : W1.cell? ⟨B, 0, none⟩ = some (.int .i64 a.kind) := cell_of_block hA 0
  have q1 : W1.cell? ⟨B, 1, none⟩ = some (.int .i64 a.i) := cell_of_block hA 1
  have q2 : W1.cell? ⟨B, 2, none⟩ = some (.int .i64 a.x.from_) := cell_of_block hA 2
  have q3 : W1.cell? ⟨B, 3, none⟩ = some (.int .i64 a.x.to_) := cell_of_block hA 3
  have q4 : W1.cell? ⟨B, 4, none⟩ = some (.slice Ab a.x.b.length cb) := cell_of_block hA 4
  replace hp1 := Lib.hid hp1
  replace hr1 := Lib.hid hr1
  replace hsk := Lib.hid hsk
  replace hB1 := Lib.hid hB1
  replace hA := Lib.hid hA
  replace hbytes := Lib.hid hbytes
  replace hbytes1 := Lib.hid hbytes1
  replace hQ := Lib.hid hQ
  go_wp2_with (fail)
  refine (all_any hp1.out).mono ?_
  rintro e w3 ⟨v9, bs9, v2, hPA, rfl, hown, hP3, hF3⟩
  have hF3' : Fr (Wr bp W1) W1 w3 := hF3.mono (fun _ _ e => .inl e)
  have hR3 := rOver hr1.out hp1.out hF3'
  have hA3 := hp1.out.keep hF3' hA.out (by decide)
  have hB3 := hp1.out.bel hF3' hB1.out (Nat.le_refl _)
  have hby3 : ∀ i (h : i < s.l.length) (h' : i < bs9.length), Rd w3 bs9[i] s.l[i].b.length (byV s.l[i].b) := fun i h1 h2 => (hPA.byt i h1 h2).fr hF3 (fun g9 hg9 e => (hPA.byt_ne i h2 g9 hg9).1 e)
  have hle9 := hPA.len
  have hne9 : ∀ i (h : i < bs9.length) g9, (bs9[i]).ownBlock = some g9 → g9 ≠ br := fun i hi g9 hg9 e => by
    obtain ⟨_, c9, fz, h9⟩ := hPA.own i hi g9 hg9
    exact rNo hr1.out h9 (.inl e)
  replace hne9 := Lib.hid hne9
  have hln : s.l.length ≤ 1024 := by have := hPA.pos; omega
  obtain ⟨A2, c2, rfl, _⟩ := own_slice hown
  clear hPA hF3 hF3'
  replace hP3 := Lib.hid hP3
  replace hR3 := Lib.hid hR3
  replace hA3 := Lib.hid hA3
  replace hB3 := Lib.hid hB3
  replace hby3 := Lib.hid hby3
  replace hown := Lib.hid hown
  replace hle9 := Lib.hid hle9
  go_wp2_with (fail)
  refine (R.all_any hR3.out).mono ?_
  rintro e w4 ⟨vr, bsr, hRA, rfl, hownr, hbyr, hR4, hF4⟩
  have hF4' : Fr (R.Wr br w3) w3 w4 := hF4.mono (fun _ _ e => .inl e)
  have hP4 := hP3.out.over hR3.out hF4'
  have hA4 := rKeep hR3.out hF4' hA3.out (by decide)
  have hB4 := rBel hR3.out hF4' hB3.out (Nat.le_refl _)
  have hlr := hRA.len
  have hbrl := hRA.lt
  have hown4 := own_fr hown.out hF4 (fun j hj e => by
    obtain ⟨c9, fz, h9⟩ := own_kind hown.out j hj
    rw [e, hRA.blk] at h9
    simp at h9)
  have hby4 : ∀ i (h : i < s.l.length) (h' : i < bs9.length), Rd w4 bs9[i] s.l[i].b.length (byV s.l[i].b) := fun i h1 h2 => (hby3.out i h1 h2).fr hF4 (fun g9 hg9 e => absurd e (hne9.out i h2 g9 hg9))
  have hend4 : ∀ w5 : World, Below w4.heap.size w4 w5 → LB w0 bp br { s with l := [] } (k + 1) B a (.slice Ab a.x.b.length cb) w5 := fun w5 hb5 => ⟨(hP4.of_below hb5).mono (fun _ _ _ => trivial), (hR4.of_below hb5).mono (fun _ _ _ => trivial), hsk.out.all, hB4.trans (hb5.mono hB4.size), block_kept hA4 hb5⟩
  obtain ⟨Ar, cr, rfl, _⟩ := own_slice hownr
  clear hRA hF4 hF4' hP4 hA4 hB4 hR4
  replace hown4 := Lib.hid hown4
  replace hownr := Lib.hid hownr
  replace hby4 := Lib.hid hby4
  replace hbyr := Lib.hid hbyr
  replace hend4 := Lib.hid hend4
  replace hlr := Lib.hid hlr
  go_wp2_with (fail)
  go_loopw [18] (fun i wx => ∃ q : Nat, q ≤ s.l.length ∧ i = .int .i64 q ∧ Hid (Below w4.heap.size w4 wx)) (fun i _ => s.l.length - (intOf i).toNat)
  case atStart => exact ⟨0, Nat.zero_le _, rfl, Lib.hid (Below.refl _ _)⟩
  case round =>
    obtain ⟨q, hq, rfl, HQ⟩ := hrel
    by_cases hql : q < s.l.length
    · obtain ⟨g2, c2', e, _, _, hcell⟩ := own_succ hown4.out (by omega)
      cases e
      obtain ⟨g3, c3', e, _, _, hcelr⟩ := own_succ hownr.out (by omega)
      cases e
      obtain ⟨p0, p1, p2⟩ := pcV_at hle9.out hql
      obtain ⟨t0, t1, t2⟩ := pcV_at hlr.out hql
      have x0 := cell_kept HQ.out (hcell _ _ p0)
      have x1 := cell_kept HQ.out (hcell _ _ p1)
      have x2 := cell_kept HQ.out (hcell _ _ p2)
      have z0 := cell_kept HQ.out (hcelr _ _ t0)
      have z1 := cell_kept HQ.out (hcelr _ _ t1)
      have z2 := cell_kept HQ.out (hcelr _ _ t2)
      have hrx := (hby4.out q hql (by rw [hle9.out]; exact hql)).below HQ.out
      have hrz := (hbyr.out q hql (by rw [hlr.out]; exact hql)).below HQ.out
      clear p0 p1 p2 t0 t1 t2 hcell hcelr
      generalize s.l[q] = x9 at *
      obtain ⟨Ax, cx, hvx⟩ := hrx.slice
      obtain ⟨Az, cz, hvz⟩ := hrz.slice
      rw [hvx] at hrx x2
      rw [hvz] at hrz z2
      have hq1 : (q : Int) < (s.l.length : Int) := by omega
      have hrxd := hrx.below (Below.refl _ _).drew
      have hrzd := hrz.below (Below.refl _ _).drew
      have HS : Hid (wr.drew.cell? ⟨g2, q * 3, none⟩ = some (.int .i64 x9.from_) ∧ wr.drew.cell? ⟨g2, q * 3 + 1, none⟩ = some (.int .i64 x9.to_) ∧ wr.drew.cell? ⟨g2, q * 3 + 2, none⟩ = some (.slice Ax x9.b.length cx) ∧ wr.drew.cell? ⟨g3, q * 3, none⟩ = some (.int .i64 x9.from_) ∧ wr.drew.cell? ⟨g3, q * 3 + 1, none⟩ = some (.int .i64 x9.to_) ∧ wr.drew.cell? ⟨g3, q * 3 + 2, none⟩ = some (.slice Az x9.b.length cz)) := Lib.hid ⟨x0, x1, x2, z0, z1, z2⟩
      clear hrx hrz
      replace hrxd := Lib.hid hrxd
      replace hrzd := Lib.hid hrzd
      replace hvx := Lib.hid hvx
      replace hvz := Lib.hid hvz
      go_upto_region 39 with (fail)
      refine region_x (fun W' => W'.cell? ⟨g2, q * 3, none⟩ = some (.int .i64 x9.from_) ∧ W'.cell? ⟨g2, q * 3 + 1, none⟩ = some (.int .i64 x9.to_) ∧ W'.cell? ⟨g2, q * 3 + 2, none⟩ = some (.slice Ax x9.b.length cx) ∧ W'.cell? ⟨g3, q * 3, none⟩ = some (.int .i64 x9.from_) ∧ W'.cell? ⟨g3, q * 3 + 1, none⟩ = some (.int .i64 x9.to_) ∧ W'.cell? ⟨g3, q * 3 + 2, none⟩ = some (.slice Az x9.b.length cz)) 9 (by kernel_rfl) ?_
      -- 0: Op.move (Operand.tmp 16)
      apply x_take (i := 0) [8, 3, 2, 0] rfl (by kernel_rfl) (fun _ _ _ h => h) HS.out
      · refine .inl ⟨rfl, fun W' hS => ?_⟩
        obtain ⟨s0, s1, s2, s3, s4, s5⟩ := hS; go_simp <;> with_reducible rfl
      try simp only [Act.put, List.setIfInBounds_toArray, List.set_cons_zero, List.set_cons_succ]
      -- 1: Op.move (Operand.tmp 18)
      apply x_take (i := 1) [8, 3, 2, 1] rfl (by kernel_rfl) (fun _ _ _ h => h) HS.out
      · refine .inl ⟨rfl, fun W' hS => ?_⟩
        obtain ⟨s0, s1, s2, s3, s4, s5⟩ := hS; go_simp <;> with_reducible rfl
      try simp only [Act.put, List.setIfInBounds_toArray, List.set_cons_zero, List.set_cons_succ]
      -- 2: Op.indexAddr 41 (Operand.tmp 173) (Operand.tmp 174)
      apply x_take (i := 2) [8, 3, 2] rfl (by kernel_rfl) (fun _ _ _ h => h) HS.out
      · refine .inl ⟨rfl, fun W' hS => ?_⟩
        obtain ⟨s0, s1, s2, s3, s4, s5⟩ := hS; go_simp <;> with_reducible rfl
      try simp only [Act.put, List.setIfInBounds_toArray, List.set_cons_zero, List.set_cons_succ]
      -- 3: Op.load 37 (Operand.tmp 175)
      apply x_take (i := 3) [8, 3] rfl (by kernel_rfl) (fun _ _ _ h => h) HS.out
      · refine .inl ⟨rfl, fun W' hS => ?_⟩
        obtain ⟨s0, s1, s2, s3, s4, s5⟩ := hS; go_simp <;> with_reducible rfl
      try simp only [Act.put, List.setIfInBounds_toArray, List.set_cons_zero, List.set_cons_succ]
      -- 4: Op.move (Operand.tmp 17)
      apply x_take (i := 4) [8, 7, 6, 4] rfl (by kernel_rfl) (fun _ _ _ h => h) HS.out
      · refine .inl ⟨rfl, fun W' hS => ?_⟩
        obtain ⟨s0, s1, s2, s3, s4, s5⟩ := hS; go_simp <;> with_reducible rfl
      try simp only [Act.put, List.setIfInBounds_toArray, List.set_cons_zero, List.set_cons_succ]
      -- 5: Op.move (Operand.tmp 18)
      apply x_take (i := 5) [8, 7, 6, 5] rfl (by kernel_rfl) (fun _ _ _ h => h) HS.out
      · refine .inl ⟨rfl, fun W' hS => ?_⟩
        obtain ⟨s0, s1, s2, s3, s4, s5⟩ := hS; go_simp <;> with_reducible rfl
      try simp only [Act.put, List.setIfInBounds_toArray, List.set_cons_zero, List.set_cons_succ]
      -- 6: Op.indexAddr 54 (Operand.tmp 177) (Operand.tmp 178)
      apply x_take (i := 6) [8, 7, 6] rfl (by kernel_rfl) (fun _ _ _ h => h) HS.out
      · refine .inl ⟨rfl, fun W' hS => ?_⟩
        obtain ⟨s0, s1, s2, s3, s4, s5⟩ := hS; go_simp <;> with_reducible rfl
      try simp only [Act.put, List.setIfInBounds_toArray, List.set_cons_zero, List.set_cons_succ]
      -- 7: Op.load 32 (Operand.tmp 179)
      apply x_take (i := 7) [8, 7] rfl (by kernel_rfl) (fun _ _ _ h => h) HS.out
      · refine .inl ⟨rfl, fun W' hS => ?_⟩
        obtain ⟨s0, s1, s2, s3, s4, s5⟩ := hS; go_simp <;> with_reducible rfl
      try simp only [Act.put, List.setIfInBounds_toArray, List.set_cons_zero, List.set_cons_succ]
      -- EFF 8: slot 181 := Op.call { callee := Callee.value (Operand.func 21), args := #[Operand.tmp 176, Operand.tmp 180], argTypes := #[37, 32] }
      refine x_one (i := 8) (by kernel_rfl) rfl rfl (fun K hK => ?_)
      unfold Oper.wp
      go_simp
      refine (same_true x9 _ _ _ hrxd.out hrzd.out).mono ?_
      rintro e w7 ⟨rfl, hb7⟩
      have hb7' := (Below.refl wr.heap.size wr).drew.trans hb7
      have HS : Hid (w7.cell? ⟨g2, q * 3, none⟩ = some (.int .i64 x9.from_) ∧ w7.cell? ⟨g2, q * 3 + 1, none⟩ = some (.int .i64 x9.to_) ∧ w7.cell? ⟨g2, q * 3 + 2, none⟩ = some (.slice Ax x9.b.length cx) ∧ w7.cell? ⟨g3, q * 3, none⟩ = some (.int .i64 x9.from_) ∧ w7.cell? ⟨g3, q * 3 + 1, none⟩ = some (.int .i64 x9.to_) ∧ w7.cell? ⟨g3, q * 3 + 2, none⟩ = some (.slice Az x9.b.length cz)) := Lib.hid ⟨cell_kept hb7' x0, cell_kept hb7' x1, cell_kept hb7' x2, cell_kept hb7' z0, cell_kept hb7' z1, cell_kept hb7' z2⟩
      replace hb7' := Lib.hid hb7'
      clear hb7 x0 x1 x2 z0 z1 z2
      refine hK _ _ (.inl HS.out) ?_; clear hK K
      try simp only [Act.put, List.setIfInBounds_toArray, List.set_cons_zero, List.set_cons_succ]
      -- EFF 9: slot 182 := Op.unOp UnOp.not 4 (Operand.tmp 181)
      refine x_one (i := 9) (by kernel_rfl) rfl rfl (fun K hK => ?_)
      unfold Oper.wp
      go_simp
      refine hK _ _ (.inr rfl) ?_; clear hK K
      try simp only [Act.put, List.setIfInBounds_toArray, List.set_cons_zero, List.set_cons_succ]
      refine x_done (by kernel_rfl) ?_
      go_wp2_with (fail)
      go_roundw
      case rel => exact ⟨q + 1, by omega, by go_num, Lib.hid (HQ.out.trans (hb7'.out.mono HQ.out.size))⟩
      case measure => simp [intOf]; omega
    · have hq1 : ¬ (q : Int) < (s.l.length : Int) := by omega
      go_wp2_with (fail)
      exact hQ.out _ _ _ _ _ _ _ _ _ _ _ _ _ _ _ _ _ _ _ _ _ _ _ _ _ _ _ _ _ _ _ _ _ _ _ _ _ _ _ _ _ _ _ _ _ _ _ _ _ _ _ _ _ _ _ _ _ _ _ _ _ _ _ _ _ _ _ _ _ _ _ _ _ _ _ _ _ _ _ _ _ _ _ _ _ _ _ _ _ _ _ _ _ _ _ _ _ _ _ _ _ _ _ _ _ _ _ _ _ _ _ _ _ _ _ _ _ _ _ _ _ _ _ _ _ _ _ _ _ (Lib.hid (hend4.out _ HQ.out)).out

set_option maxHeartbeats 40000000 in
set_option maxRecDepth 1000000 in
set_option linter.unusedSimpArgs false in
set_option linter.unusedVariables false in
theorem sw_drop (w0 : World) (bp br B k : Nat) (s : PS) (a : Ac) (Ab : Option Addr) (cb : Nat) (W1 : World) (KK : Act → World → Prop) (c0 c1 c2 c3 c4 c6 c8 c10 c11 c12 c13 c14 c15 c16 c17 c18 c19 c20 c21 c22 c23 c24 c25 c26 c27 c28 c29 c30 c31 c32 c33 c34 c35 c36 c37 c38 c39 c40 c41 c42 c43 c44 c45 c46 c47 c48 c49 c50 c51 c52 c53 c54 c55 c56 c57 c58 c59 c60 c61 c62 c63 c64 c65 c66 c67 c68 c69 c70 c71 c72 c73 c75 c76 c77 c78 c79 c80 c81 c82 c83 c84 c85 c86 c87 c88 c89 c90 c91 c92 c93 c94 c95 c96 c97 c98 c99 c100 c101 c102 c103 c104 c105 c106 c107 c108 c109 c110 c111 c112 c113 c114 c115 c116 c117 c118 c119 c120 c121 c122 c123 c124 c125 c126 c127 c128 c129 c130 c131 c132 c133 c134 c135 c136 c137 c138 c139 c140 c141 c142 c143 c144 c145 c146 c147 c148 c149 c150 c151 c152 c153 c154 c155 c156 c157 c158 c159 c160 c161 c162 c163 c164 c165 c166 c167 c168 c169 c170 c171 c172 c173 c174 c175 c176 c177 c178 c179 c180 c181 c182 c183 c184 c185 c186 c187 c188 c189 c190 c191 c192 c193 c194 c195 c196 c197 c198 c199 c200 c201 c202 c203 c204 c205 c206 c207 c208 c209 c210 c211 c212 c213 c214 c215 c216 c217 c218 c219 c220 c221 c222 c223 c224 c225 c226 c227 c228 c229 c230 c231 c232 c233 c234 c235 c236 c237 c238 c239 c240 c241 c242 c243 c244 c245 c246 c247 c248 c249 c250 c251 c252 c253 c254 c255 c256 c257 c258 c259 : Value)
    (hp1 : IsP w0.heap.size bp s (fun j => j < B) W1) (hr1 : R.IsP w0.heap.size br s (fun j => j < B) W1) (hsk : SK s k) (hk2 : k ≤ 120) (hB1 : Below w0.heap.size w0 W1) (hA : W1.heap[B]? = some (.cells #[.int .i64 a.kind, .int .i64 a.i, .int .i64 a.x.from_, .int .i64 a.x.to_, .slice Ab a.x.b.length cb] 34 (0, 0))) (hB0 : w0.heap.size ≤ B) (hshort : a.x.b.length ≤ 500) (hbytes : Rd w0 (.slice Ab a.x.b.length cb) a.x.b.length (byV a.x.b))
    (h0 : (a.kind == 0) = false) (h1 : (a.kind == 1) = false) (h2 : (a.kind == 2) = false) (h3 : (a.kind == 3) = true)
    (hQ : ∀ (u4 u10 u11 u12 u13 u14 u15 u16 u17 u18 u19 u75 u76 u77 u78 u79 u80 u81 u82 u83 u84 u85 u86 u87 u88 u89 u90 u91 u92 u93 u94 u95 u96 u97 u98 u99 u100 u101 u102 u103 u104 u105 u106 u107 u108 u109 u110 u111 u112 u113 u114 u115 u116 u117 u118 u119 u120 u121 u122 u123 u124 u125 u126 u127 u128 u129 u130 u131 u132 u133 u134 u135 u136 u137 u138 u139 u140 u141 u142 u143 u144 u145 u146 u147 u148 u149 u150 u151 u152 u153 u154 u155 u156 u157 u158 u159 u160 u161 u162 u163 u164 u165 u166 u167 u168 u169 u170 u171 u172 u173 u174 u175 u176 u177 u178 u179 u180 u181 u182 u183 u184 u185 u186 u187 u188 u189 : Value) (bp' : Nat) (s' : PS) (wx : World), LB w0 bp' br s' (k + 1) B a (.slice Ab a.x.b.length cb) wx → KK ⟨#[c0, c1, c2, c3, u4, .pointer (some ⟨bp', 0, none⟩), c6, .pointer (some ⟨br, 0, none⟩), c8, .pointer (some ⟨B, 0, none⟩), u10, u11, u12, u13, u14, u15, u16, u17, u18, u19, c20, c21, c22, c23, c24, c25, c26, c27, c28, c29, c30, c31, c32, c33, c34, c35, c36, c37, c38, c39, c40, c41, c42, c43, c44, c45, c46, c47, c48, c49, c50, c51, c52, c53, c54, c55, c56, c57, c58, c59, c60, c61, c62, c63, c64, c65, c66, c67, c68, c69, c70, c71, c72, c73, .int .i64 a.kind, u75, u76, u77, u78, u79, u80, u81, u82, u83, u84, u85, u86, u87, u88, u89, u90, u91, u92, u93, u94, u95, u96, u97, u98, u99, u100, u101, u102, u103, u104, u105, u106, u107, u108, u109, u110, u111, u112, u113, u114, u115, u116, u117, u118, u119, u120, u121, u122, u123, u124, u125, u126, u127, u128, u129, u130, u131, u132, u133, u134, u135, u136, u137, u138, u139, u140, u141, u142, u143, u144, u145, u146, u147, u148, u149, u150, u151, u152, u153, u154, u155, u156, u157, u158, u159, u160, u161, u162, u163, u164, u165, u166, u167, u168, u169, u170, u171, u172, u173, u174, u175, u176, u177, u178, u179, u180, u181, u182, u183, u184, u185, u186, u187, u188, u189, c190, c191, c192, c193, c194, c195, c196, c197, c198, c199, c200, c201, c202, c203, c204, c205, c206, c207, c208, c209, c210, c211, c212, c213, c214, c215, c216, c217, c218, c219, c220, c221, c222, c223, c224, c225, c226, c227, c228, c229, c230, c231, c232, c233, c234, c235, c236, c237, c238, c239, c240, c241, c242, c243, c244, c245, c246, c247, c248, c249, c250, c251, c252, c253, c254, c255, c256, c257, c258, c259], []⟩ wx) :
    Code.wp Try.prog swC (Exit.then KK (fun _ _ _ => False)) ⟨#[c0, c1, c2, c3, c4, .pointer (some ⟨bp, 0, none⟩), c6, .pointer (some ⟨br, 0, none⟩), c8, .pointer (some ⟨B, 0, none⟩), c10, c11, c12, c13, c14, c15, c16, c17, c18, c19, c20, c21, c22, c23, c24, c25, c26, c27, c28, c29, c30, c31, c32, c33, c34, c35, c36, c37, c38, c39, c40, c41, c42, c43, c44, c45, c46, c47, c48, c49, c50, c51, c52, c53, c54, c55, c56, c57, c58, c59, c60, c61, c62, c63, c64, c65, c66, c67, c68, c69, c70, c71, c72, c73, .int .i64 a.kind, c75, c76, c77, c78, c79, c80, c81, c82, c83, c84, c85, c86, c87, c88, c89, c90, c91, c92, c93, c94, c95, c96, c97, c98, c99, c100, c101, c102, c103, c104, c105, c106, c107, c108, c109, c110, c111, c112, c113, c114, c115, c116, c117, c118, c119, c120, c121, c122, c123, c124, c125, c126, c127, c128, c129, c130, c131, c132, c133, c134, c135, c136, c137, c138, c139, c140, c141, c142, c143, c144, c145, c146, c147, c148, c149, c150, c151, c152, c153, c154, c155, c156, c157, c158, c159, c160, c161, c162, c163, c164, c165, c166, c167, c168, c169, c170, c171, c172, c173, c174, c175, c176, c177, c178, c179, c180, c181, c182, c183, c184, c185, c186, c187, c188, c189, c190, c191, c192, c193, c194, c195, c196, c197, c198, c199, c200, c201, c202, c203, c204, c205, c206, c207, c208, c209, c210, c211, c212, c213, c214, c215, c216, c217, c218, c219, c220, c221, c222, c223, c224, c225, c226, c227, c228, c229, c230, c231, c232, c233, c234, c235, c236, c237, c238, c239, c240, c241, c242, c243, c244, c245, c246, c247, c248, c249, c250, c251, c252, c253, c254, c255, c256, c257, c258, c259], []⟩ W1 := by
  conv => arg 2; whnf
  have hszA := lt_of_block hA
  have hbytes1 := hbytes.below (hB1.mono (Nat.le_refl _))
  have q0 : W1.cell? ⟨B, 0, none⟩ = some (.int .i64 a.kind) := cell_of_block hA 0
  have q1 : W1.cell? ⟨B, 1, none⟩ = some (.int .i64 a.i) := cell_of_block hA 1
  have q2 : W1.cell? ⟨B, 2, none⟩ = some (.int .i64 a.x.from_) := cell_of_block hA 2
  have q3 : W1.cell? ⟨B, 3, none⟩ = some (.int .i64 a.x.to_) := cell_of_block hA 3
  have q4 : W1.cell? ⟨B, 4, none⟩ = some (.slice Ab a.x.b.length cb) := cell_of_block hA 4
  replace hp1 := Lib.hid hp1
  replace hr1 := Lib.hid hr1
  replace hsk := Lib.hid hsk
  replace hB1 := Lib.hid hB1
  replace hA := Lib.hid hA
  replace hbytes := Lib.hid hbytes
  replace hbytes1 := Lib.hid hbytes1
  replace hQ := Lib.hid hQ
  go_upto_region 29 with (fail)
  have hp1d := Lib.hid (hp1.out.of_below (Below.refl _ _).drew)
  have hr1d := Lib.hid (hr1.out.of_below (Below.refl _ _).drew)
  have hA1d : Hid (W1.drew.heap[B]? = _) := Lib.hid (block_kept hA.out (Below.refl _ _).drew)
  have hB1d := Lib.hid hB1.out.drew
  have HS : Hid (W1.drew.cell? ⟨B, 1, none⟩ = some (.int .i64 a.i)) := Lib.hid q1
  refine region_x (fun W' => W'.cell? ⟨B, 1, none⟩ = some (.int .i64 a.i)) 9 (by kernel_rfl) ?_
  -- 0: Op.move (Operand.tmp 5)
  apply x_take (i := 0) [4, 3, 0] rfl (by kernel_rfl) (fun _ _ _ h => h) HS.out
  · refine .inl ⟨rfl, fun W' hS => ?_⟩
    go_simp <;> with_reducible rfl
  try simp only [Act.put, List.setIfInBounds_toArray, List.set_cons_zero, List.set_cons_succ]
  -- 1: Op.fieldAddr 34 (Operand.tmp 9) 1
  apply x_take (i := 1) [4, 3, 2, 1] rfl (by kernel_rfl) (fun _ _ _ h => h) HS.out
  · refine .inl ⟨rfl, fun W' hS => ?_⟩
    go_simp <;> with_reducible rfl
  try simp only [Act.put, List.setIfInBounds_toArray, List.set_cons_zero, List.set_cons_succ]
  -- 2: Op.load 3 (Operand.tmp 147)
  apply x_take (i := 2) [4, 3, 2] rfl (by kernel_rfl) (fun _ _ _ h => h) HS.out
  · refine .inl ⟨rfl, fun W' hS => ?_⟩
    go_simp <;> with_reducible rfl
  try simp only [Act.put, List.setIfInBounds_toArray, List.set_cons_zero, List.set_cons_succ]
  -- 5: Op.move (Operand.tmp 7)
  apply x_take (i := 5) [8, 5] rfl (by kernel_rfl) (fun _ _ _ h => h) HS.out
  · refine .inl ⟨rfl, fun W' hS => ?_⟩
    go_simp <;> with_reducible rfl
  try simp only [Act.put, List.setIfInBounds_toArray, List.set_cons_zero, List.set_cons_succ]
  -- 6: Op.fieldAddr 34 (Operand.tmp 9) 1
  apply x_take (i := 6) [8, 7, 6] rfl (by kernel_rfl) (fun _ _ _ h => h) HS.out
  · refine .inl ⟨rfl, fun W' hS => ?_⟩
    go_simp <;> with_reducible rfl
  try simp only [Act.put, List.setIfInBounds_toArray, List.set_cons_zero, List.set_cons_succ]
  -- 7: Op.load 3 (Operand.tmp 152)
  apply x_take (i := 7) [8, 7] rfl (by kernel_rfl) (fun _ _ _ h => h) HS.out
  · refine .inl ⟨rfl, fun W' hS => ?_⟩
    go_simp <;> with_reducible rfl
  try simp only [Act.put, List.setIfInBounds_toArray, List.set_cons_zero, List.set_cons_succ]
  -- EFF 3: slot 149 := Op.call { callee := Callee.value (Operand.func 13), args := #[Operand.tmp 146, Operand.tmp 148], argTypes := #[25, 3] }
  refine x_one (i := 3) (by kernel_rfl) rfl rfl (fun K hK => ?_)
  unfold Oper.wp
  go_simp
  refine (drop_any hp1d.out (hsk.out.ok (by omega)) a.i).mono ?_
  rintro e w3 ⟨rfl, hP3, hF3⟩
  have hR3 := rOver hr1d.out hp1d.out hF3
  have hA3 := hp1d.out.keep hF3 hA1d.out (by decide)
  have hB3 := hp1d.out.bel hF3 hB1d.out (Nat.le_refl _)
  have HS : Hid (w3.cell? ⟨B, 1, none⟩ = some (.int .i64 a.i)) := Lib.hid (cell_of_block hA3 1)
  replace hP3 := Lib.hid hP3
  replace hR3 := Lib.hid hR3
  replace hA3 := Lib.hid hA3
  replace hB3 := Lib.hid hB3
  clear hF3
  refine hK _ _ (.inl HS.out) ?_; clear hK K
  try simp only [Act.put, List.setIfInBounds_toArray, List.set_cons_zero, List.set_cons_succ]
  -- EFF 4: slot 150 := Op.call { callee := Callee.value (Operand.func 9), args := #[Operand.tmp 149], argTypes := #[26] }
  refine x_one (i := 4) (by kernel_rfl) rfl rfl (fun K hK => ?_)
  unfold Oper.wp
  go_simp
  refine (num_any _ _).mono ?_
  rintro e w3 ⟨rfl, rfl⟩
  refine hK _ _ (.inl HS.out) ?_; clear hK K
  try simp only [Act.put, List.setIfInBounds_toArray, List.set_cons_zero, List.set_cons_succ]
  -- EFF 8: slot 154 := Op.call { callee := Callee.value (Operand.func 24), args := #[Operand.tmp 151, Operand.tmp 153], argTypes := #[46, 3] }
  refine x_one (i := 8) (by kernel_rfl) rfl rfl (fun K hK => ?_)
  unfold Oper.wp
  go_simp
  refine (R.drop_any hR3.out (hsk.out.ok (by omega)) a.i).mono ?_
  rintro e w4 ⟨rfl, hR4, hF4⟩
  have hP4 := hP3.out.over hR3.out hF4
  have hA4 := rKeep hR3.out hF4 hA3.out (by decide)
  have hB4 := rBel hR3.out hF4 hB3.out (Nat.le_refl _)
  have hend : Hid (LB w0 bp br (dropS s a.i) (k + 1) B a (.slice Ab a.x.b.length cb) w4) := Lib.hid ⟨hP4.mono (fun _ _ _ => trivial), hR4.mono (fun _ _ _ => trivial), hsk.out.drop a.i, hB4, hA4⟩
  have HS : Hid (w4.cell? ⟨B, 1, none⟩ = some (.int .i64 a.i)) := Lib.hid (cell_of_block hA4 1)
  clear hP4 hA4 hB4 hR4 hF4
  refine hK _ _ (.inl HS.out) ?_; clear hK K
  try simp only [Act.put, List.setIfInBounds_toArray, List.set_cons_zero, List.set_cons_succ]
  -- EFF 9: slot 155 := Op.binOp BinOp.neq 3 (Operand.tmp 150) (Operand.tmp 154) 3
  refine x_one (i := 9) (by kernel_rfl) rfl rfl (fun K hK => ?_)
  unfold Oper.wp
  go_simp
  refine hK _ _ (.inr rfl) ?_; clear hK K
  try simp only [Act.put, List.setIfInBounds_toArray, List.set_cons_zero, List.set_cons_succ]
  refine x_done (by kernel_rfl) ?_
  go_wp2_with (fail)
  exact hQ.out _ _ _ _ _ _ _ _ _ _ _ _ _ _ _ _ _ _ _ _ _ _ _ _ _ _ _ _ _ _ _ _ _ _ _ _ _ _ _ _ _ _ _ _ _ _ _ _ _ _ _ _ _ _ _ _ _ _ _ _ _ _ _ _ _ _ _ _ _ _ _ _ _ _ _ _ _ _ _ _ _ _ _ _ _ _ _ _ _ _ _ _ _ _ _ _ _ _ _ _ _ _ _ _ _ _ _ _ _ _ _ _ _ _ _ _ _ _ _ _ _ _ _ _ _ _ _ _ _ hend.out

set_option maxHeartbeats 40000000 in
set_option maxRecDepth 1000000 in
set_option linter.unusedSimpArgs false in
set_option linter.unusedVariables false in
theorem sw_twice (w0 : World) (bp br B k : Nat) (s : PS) (a : Ac) (Ab : Option Addr) (cb : Nat) (W1 : World) (KK : Act → World → Prop) (c0 c1 c2 c3 c4 c6 c8 c10 c11 c12 c13 c14 c15 c16 c17 c18 c19 c20 c21 c22 c23 c24 c25 c26 c27 c28 c29 c30 c31 c32 c33 c34 c35 c36 c37 c38 c39 c40 c41 c42 c43 c44 c45 c46 c47 c48 c49 c50 c51 c52 c53 c54 c55 c56 c57 c58 c59 c60 c61 c62 c63 c64 c65 c66 c67 c68 c69 c70 c71 c72 c73 c75 c76 c77 c78 c79 c80 c81 c82 c83 c84 c85 c86 c87 c88 c89 c90 c91 c92 c93 c94 c95 c96 c97 c98 c99 c100 c101 c102 c103 c104 c105 c106 c107 c108 c109 c110 c111 c112 c113 c114 c115 c116 c117 c118 c119 c120 c121 c122 c123 c124 c125 c126 c127 c128 c129 c130 c131 c132 c133 c134 c135 c136 c137 c138 c139 c140 c141 c142 c143 c144 c145 c146 c147 c148 c149 c150 c151 c152 c153 c154 c155 c156 c157 c158 c159 c160 c161 c162 c163 c164 c165 c166 c167 c168 c169 c170 c171 c172 c173 c174 c175 c176 c177 c178 c179 c180 c181 c182 c183 c184 c185 c186 c187 c188 c189 c190 c191 c192 c193 c194 c195 c196 c197 c198 c199 c200 c201 c202 c203 c204 c205 c206 c207 c208 c209 c210 c211 c212 c213 c214 c215 c216 c217 c218 c219 c220 c221 c222 c223 c224 c225 c226 c227 c228 c229 c230 c231 c232 c233 c234 c235 c236 c237 c238 c239 c240 c241 c242 c243 c244 c245 c246 c247 c248 c249 c250 c251 c252 c253 c254 c255 c256 c257 c258 c259 : Value)
    (hp1 : IsP w0.heap.size bp s (fun j => j < B) W1) (hr1 : R.IsP w0.heap.size br s (fun j => j < B) W1) (hsk : SK s k) (hk2 : k ≤ 120) (hB1 : Below w0.heap.size w0 W1) (hA : W1.heap[B]? = some (.cells #[.int .i64 a.kind, .int .i64 a.i, .int .i64 a.x.from_, .int .i64 a.x.to_, .slice Ab a.x.b.length cb] 34 (0, 0))) (hB0 : w0.heap.size ≤ B) (hshort : a.x.b.length ≤ 500) (hbytes : Rd w0 (.slice Ab a.x.b.length cb) a.x.b.length (byV a.x.b))
    (h0 : (a.kind == 0) = false) (h1 : (a.kind == 1) = false) (h2 : (a.kind == 2) = true)
    (hQ : ∀ (u4 u10 u11 u12 u13 u14 u15 u16 u17 u18 u19 u75 u76 u77 u78 u79 u80 u81 u82 u83 u84 u85 u86 u87 u88 u89 u90 u91 u92 u93 u94 u95 u96 u97 u98 u99 u100 u101 u102 u103 u104 u105 u106 u107 u108 u109 u110 u111 u112 u113 u114 u115 u116 u117 u118 u119 u120 u121 u122 u123 u124 u125 u126 u127 u128 u129 u130 u131 u132 u133 u134 u135 u136 u137 u138 u139 u140 u141 u142 u143 u144 u145 u146 u147 u148 u149 u150 u151 u152 u153 u154 u155 u156 u157 u158 u159 u160 u161 u162 u163 u164 u165 u166 u167 u168 u169 u170 u171 u172 u173 u174 u175 u176 u177 u178 u179 u180 u181 u182 u183 u184 u185 u186 u187 u188 u189 : Value) (bp' : Nat) (s' : PS) (wx : World), LB w0 bp' br s' (k + 1) B a (.slice Ab a.x.b.length cb) wx → KK ⟨#[c0, c1, c2, c3, u4, .pointer (some ⟨bp', 0, none⟩), c6, .pointer (some ⟨br, 0, none⟩), c8, .pointer (some ⟨B, 0, none⟩), u10, u11, u12, u13, u14, u15, u16, u17, u18, u19, c20, c21, c22, c23, c24, c25, c26, c27, c28, c29, c30, c31, c32, c33, c34, c35, c36, c37, c38, c39, c40, c41, c42, c43, c44, c45, c46, c47, c48, c49, c50, c51, c52, c53, c54, c55, c56, c57, c58, c59, c60, c61, c62, c63, c64, c65, c66, c67, c68, c69, c70, c71, c72, c73, .int .i64 a.kind, u75, u76, u77, u78, u79, u80, u81, u82, u83, u84, u85, u86, u87, u88, u89, u90, u91, u92, u93, u94, u95, u96, u97, u98, u99, u100, u101, u102, u103, u104, u105, u106, u107, u108, u109, u110, u111, u112, u113, u114, u115, u116, u117, u118, u119, u120, u121, u122, u123, u124, u125, u126, u127, u128, u129, u130, u131, u132, u133, u134, u135, u136, u137, u138, u139, u140, u141, u142, u143, u144, u145, u146, u147, u148, u149, u150, u151, u152, u153, u154, u155, u156, u157, u158, u159, u160, u161, u162, u163, u164, u165, u166, u167, u168, u169, u170, u171, u172, u173, u174, u175, u176, u177, u178, u179, u180, u181, u182, u183, u184, u185, u186, u187, u188, u189, c190, c191, c192, c193, c194, c195, c196, c197, c198, c199, c200, c201, c202, c203, c204, c205, c206, c207, c208, c209, c210, c211, c212, c213, c214, c215, c216, c217, c218, c219, c220, c221, c222, c223, c224, c225, c226, c227, c228, c229, c230, c231, c232, c233, c234, c235, c236, c237, c238, c239, c240, c241, c242, c243, c244, c245, c246, c247, c248, c249, c250, c251, c252, c253, c254, c255, c256, c257, c258, c259], []⟩ wx) :
    Code.wp Try.prog swC (Exit.then KK (fun _ _ _ => False)) ⟨#[c0, c1, c2, c3, c4, .pointer (some ⟨bp, 0, none⟩), c6, .pointer (some ⟨br, 0, none⟩), c8, .pointer (some ⟨B, 0, none⟩), c10, c11, c12, c13, c14, c15, c16, c17, c18, c19, c20, c21, c22, c23, c24, c25, c26, c27, c28, c29, c30, c31, c32, c33, c34, c35, c36, c37, c38, c39, c40, c41, c42, c43, c44, c45, c46, c47, c48, c49, c50, c51, c52, c53, c54, c55, c56, c57, c58, c59, c60, c61, c62, c63, c64, c65, c66, c67, c68, c69, c70, c71, c72, c73, .int .i64 a.kind, c75, c76, c77, c78, c79, c80, c81, c82, c83, c84, c85, c86, c87, c88, c89, c90, c91, c92, c93, c94, c95, c96, c97, c98, c99, c100, c101, c102, c103, c104, c105, c106, c107, c108, c109, c110, c111, c112, c113, c114, c115, c116, c117, c118, c119, c120, c121, c122, c123, c124, c125, c126, c127, c128, c129, c130, c131, c132, c133, c134, c135, c136, c137, c138, c139, c140, c141, c142, c143, c144, c145, c146, c147, c148, c149, c150, c151, c152, c153, c154, c155, c156, c157, c158, c159, c160, c161, c162, c163, c164, c165, c166, c167, c168, c169, c170, c171, c172, c173, c174, c175, c176, c177, c178, c179, c180, c181, c182, c183, c184, c185, c186, c187, c188, c189, c190, c191, c192, c193, c194, c195, c196, c197, c198, c199, c200, c201, c202, c203, c204, c205, c206, c207, c208, c209, c210, c211, c212, c213, c214, c215, c216, c217, c218, c219, c220, c221, c222, c223, c224, c225, c226, c227, c228, c229, c230, c231, c232, c233, c234, c235, c236, c237, c238, c239, c240, c241, c242, c243, c244, c245, c246, c247, c248, c249, c250, c251, c252, c253, c254, c255, c256, c257, c258, c259], []⟩ W1 := by
  conv => arg 2; whnf
  have hszA := lt_of_block hA
  have hbytes1 := hbytes.below (hB1.mono (Nat.le_refl _))
  have q0 : W1.cell? ⟨B, 0, none⟩ = some (.int .i64 a.kind) := cell_of_block hA 0
  have q1 : W1.cell? ⟨B, 1, none⟩ = some (.int .i64 a.i) := cell_of_block hA 1
  have q2 : W1.cell? ⟨B, 2, none⟩ = some (.int .i64 a.x.from_) := cell_of_block hA 2
  have q3 : W1.cell? ⟨B, 3, none⟩ = some (.int .i64 a.x.to_) := cell_of_block hA 3
  have q4 : W1.cell? ⟨B, 4, none⟩ = some (.slice Ab a.x.b.length cb) := cell_of_block hA 4
  replace hp1 := Lib.hid hp1
  replace hr1 := Lib.hid hr1
  replace hsk := Lib.hid hsk
  replace hB1 := Lib.hid hB1
  replace hA := Lib.hid hA
  replace hbytes := Lib.hid hbytes
  replace hbytes1 := Lib.hid hbytes1
  replace hQ := Lib.hid hQ
  go_upto_region 26 with (fail)
  have hp1d := Lib.hid (hp1.out.of_below (Below.refl _ _).drew)
  have hr1d := Lib.hid (hr1.out.of_below (Below.refl _ _).drew)
  have hA1d : Hid (W1.drew.heap[B]? = _) := Lib.hid (block_kept hA.out (Below.refl _ _).drew)
  have hB1d := Lib.hid hB1.out.drew
  have HS : Hid (W1.drew.cell? ⟨B, 1, none⟩ = some (.int .i64 a.i)) := Lib.hid q1
  refine region_x (fun W' => W'.cell? ⟨B, 1, none⟩ = some (.int .i64 a.i)) 9 (by kernel_rfl) ?_
  -- 0: Op.move (Operand.tmp 5)
  apply x_take (i := 0) [4, 3, 0] rfl (by kernel_rfl) (fun _ _ _ h => h) HS.out
  · refine .inl ⟨rfl, fun W' hS => ?_⟩
    go_simp <;> with_reducible rfl
  try simp only [Act.put, List.setIfInBounds_toArray, List.set_cons_zero, List.set_cons_succ]
  -- 1: Op.fieldAddr 34 (Operand.tmp 9) 1
  apply x_take (i := 1) [4, 3, 2, 1] rfl (by kernel_rfl) (fun _ _ _ h => h) HS.out
  · refine .inl ⟨rfl, fun W' hS => ?_⟩
    go_simp <;> with_reducible rfl
  try simp only [Act.put, List.setIfInBounds_toArray, List.set_cons_zero, List.set_cons_succ]
  -- 2: Op.load 3 (Operand.tmp 135)
  apply x_take (i := 2) [4, 3, 2] rfl (by kernel_rfl) (fun _ _ _ h => h) HS.out
  · refine .inl ⟨rfl, fun W' hS => ?_⟩
    go_simp <;> with_reducible rfl
  try simp only [Act.put, List.setIfInBounds_toArray, List.set_cons_zero, List.set_cons_succ]
  -- 5: Op.move (Operand.tmp 7)
  apply x_take (i := 5) [8, 5] rfl (by kernel_rfl) (fun _ _ _ h => h) HS.out
  · refine .inl ⟨rfl, fun W' hS => ?_⟩
    go_simp <;> with_reducible rfl
  try simp only [Act.put, List.setIfInBounds_toArray, List.set_cons_zero, List.set_cons_succ]
  -- 6: Op.fieldAddr 34 (Operand.tmp 9) 1
  apply x_take (i := 6) [8, 7, 6] rfl (by kernel_rfl) (fun _ _ _ h => h) HS.out
  · refine .inl ⟨rfl, fun W' hS => ?_⟩
    go_simp <;> with_reducible rfl
  try simp only [Act.put, List.setIfInBounds_toArray, List.set_cons_zero, List.set_cons_succ]
  -- 7: Op.load 3 (Operand.tmp 140)
  apply x_take (i := 7) [8, 7] rfl (by kernel_rfl) (fun _ _ _ h => h) HS.out
  · refine .inl ⟨rfl, fun W' hS => ?_⟩
    go_simp <;> with_reducible rfl
  try simp only [Act.put, List.setIfInBounds_toArray, List.set_cons_zero, List.set_cons_succ]
  -- EFF 3: slot 137 := Op.call { callee := Callee.value (Operand.func 22), args := #[Operand.tmp 134, Operand.tmp 136], argTypes := #[25, 3] }
  refine x_one (i := 3) (by kernel_rfl) rfl rfl (fun K hK => ?_)
  unfold Oper.wp
  go_simp
  refine (twice_any hp1d.out (hsk.out.ok (by omega)) a.i).mono ?_
  rintro e w3 ⟨rfl, hP3, hF3⟩
  have hR3 := rOver hr1d.out hp1d.out hF3
  have hA3 := hp1d.out.keep hF3 hA1d.out (by decide)
  have hB3 := hp1d.out.bel hF3 hB1d.out (Nat.le_refl _)
  have HS : Hid (w3.cell? ⟨B, 1, none⟩ = some (.int .i64 a.i)) := Lib.hid (cell_of_block hA3 1)
  replace hP3 := Lib.hid hP3
  replace hR3 := Lib.hid hR3
  replace hA3 := Lib.hid hA3
  replace hB3 := Lib.hid hB3
  clear hF3
  refine hK _ _ (.inl HS.out) ?_; clear hK K
  try simp only [Act.put, List.setIfInBounds_toArray, List.set_cons_zero, List.set_cons_succ]
  -- EFF 4: slot 138 := Op.call { callee := Callee.value (Operand.func 9), args := #[Operand.tmp 137], argTypes := #[26] }
  refine x_one (i := 4) (by kernel_rfl) rfl rfl (fun K hK => ?_)
  unfold Oper.wp
  go_simp
  refine (num_any _ _).mono ?_
  rintro e w3 ⟨rfl, rfl⟩
  refine hK _ _ (.inl HS.out) ?_; clear hK K
  try simp only [Act.put, List.setIfInBounds_toArray, List.set_cons_zero, List.set_cons_succ]
  -- EFF 8: slot 142 := Op.call { callee := Callee.value (Operand.func 23), args := #[Operand.tmp 139, Operand.tmp 141], argTypes := #[46, 3] }
  refine x_one (i := 8) (by kernel_rfl) rfl rfl (fun K hK => ?_)
  unfold Oper.wp
  go_simp
  refine (R.twice_any hR3.out (hsk.out.ok (by omega)) a.i).mono ?_
  rintro e w4 ⟨rfl, hR4, hF4⟩
  have hP4 := hP3.out.over hR3.out hF4
  have hA4 := rKeep hR3.out hF4 hA3.out (by decide)
  have hB4 := rBel hR3.out hF4 hB3.out (Nat.le_refl _)
  have hend : Hid (LB w0 bp br (twiceS s a.i) (k + 1) B a (.slice Ab a.x.b.length cb) w4) := Lib.hid ⟨hP4.mono (fun _ _ _ => trivial), hR4.mono (fun _ _ _ => trivial), hsk.out.twice a.i, hB4, hA4⟩
  have HS : Hid (w4.cell? ⟨B, 1, none⟩ = some (.int .i64 a.i)) := Lib.hid (cell_of_block hA4 1)
  clear hP4 hA4 hB4 hR4 hF4
  refine hK _ _ (.inl HS.out) ?_; clear hK K
  try simp only [Act.put, List.setIfInBounds_toArray, List.set_cons_zero, List.set_cons_succ]
  -- EFF 9: slot 143 := Op.binOp BinOp.neq 3 (Operand.tmp 138) (Operand.tmp 142) 3
  refine x_one (i := 9) (by kernel_rfl) rfl rfl (fun K hK => ?_)
  unfold Oper.wp
  go_simp
  refine hK _ _ (.inr rfl) ?_; clear hK K
  try simp only [Act.put, List.setIfInBounds_toArray, List.set_cons_zero, List.set_cons_succ]
  refine x_done (by kernel_rfl) ?_
  go_wp2_with (fail)
  exact hQ.out _ _ _ _ _ _ _ _ _ _ _ _ _ _ _ _ _ _ _ _ _ _ _ _ _ _ _ _ _ _ _ _ _ _ _ _ _ _ _ _ _ _ _ _ _ _ _ _ _ _ _ _ _ _ _ _ _ _ _ _ _ _ _ _ _ _ _ _ _ _ _ _ _ _ _ _ _ _ _ _ _ _ _ _ _ _ _ _ _ _ _ _ _ _ _ _ _ _ _ _ _ _ _ _ _ _ _ _ _ _ _ _ _ _ _ _ _ _ _ _ _ _ _ _ _ _ _ _ _ hend.out

set_option maxHeartbeats 40000000 in
set_option maxRecDepth 1000000 in
set_option linter.unusedSimpArgs false in
set_option linter.unusedVariables false in
theorem sw_take (w0 : World) (bp br B k : Nat) (s : PS) (a : Ac) (Ab : Option Addr) (cb : Nat) (W1 : World) (KK : Act → World → Prop) (c0 c1 c2 c3 c4 c6 c8 c10 c11 c12 c13 c14 c15 c16 c17 c18 c19 c20 c21 c22 c23 c24 c25 c26 c27 c28 c29 c30 c31 c32 c33 c34 c35 c36 c37 c38 c39 c40 c41 c42 c43 c44 c45 c46 c47 c48 c49 c50 c51 c52 c53 c54 c55 c56 c57 c58 c59 c60 c61 c62 c63 c64 c65 c66 c67 c68 c69 c70 c71 c72 c73 c75 c76 c77 c78 c79 c80 c81 c82 c83 c84 c85 c86 c87 c88 c89 c90 c91 c92 c93 c94 c95 c96 c97 c98 c99 c100 c101 c102 c103 c104 c105 c106 c107 c108 c109 c110 c111 c112 c113 c114 c115 c116 c117 c118 c119 c120 c121 c122 c123 c124 c125 c126 c127 c128 c129 c130 c131 c132 c133 c134 c135 c136 c137 c138 c139 c140 c141 c142 c143 c144 c145 c146 c147 c148 c149 c150 c151 c152 c153 c154 c155 c156 c157 c158 c159 c160 c161 c162 c163 c164 c165 c166 c167 c168 c169 c170 c171 c172 c173 c174 c175 c176 c177 c178 c179 c180 c181 c182 c183 c184 c185 c186 c187 c188 c189 c190 c191 c192 c193 c194 c195 c196 c197 c198 c199 c200 c201 c202 c203 c204 c205 c206 c207 c208 c209 c210 c211 c212 c213 c214 c215 c216 c217 c218 c219 c220 c221 c222 c223 c224 c225 c226 c227 c228 c229 c230 c231 c232 c233 c234 c235 c236 c237 c238 c239 c240 c241 c242 c243 c244 c245 c246 c247 c248 c249 c250 c251 c252 c253 c254 c255 c256 c257 c258 c259 : Value)
    (hp1 : IsP w0.heap.size bp s (fun j => j < B) W1) (hr1 : R.IsP w0.heap.size br s (fun j => j < B) W1) (hsk : SK s k) (hk2 : k ≤ 120) (hB1 : Below w0.heap.size w0 W1) (hA : W1.heap[B]? = some (.cells #[.int .i64 a.kind, .int .i64 a.i, .int .i64 a.x.from_, .int .i64 a.x.to_, .slice Ab a.x.b.length cb] 34 (0, 0))) (hB0 : w0.heap.size ≤ B) (hshort : a.x.b.length ≤ 500) (hbytes : Rd w0 (.slice Ab a.x.b.length cb) a.x.b.length (byV a.x.b))
    (h0 : (a.kind == 0) = false) (h1 : (a.kind == 1) = true)
    (hQ : ∀ (u4 u10 u11 u12 u13 u14 u15 u16 u17 u18 u19 u75 u76 u77 u78 u79 u80 u81 u82 u83 u84 u85 u86 u87 u88 u89 u90 u91 u92 u93 u94 u95 u96 u97 u98 u99 u100 u101 u102 u103 u104 u105 u106 u107 u108 u109 u110 u111 u112 u113 u114 u115 u116 u117 u118 u119 u120 u121 u122 u123 u124 u125 u126 u127 u128 u129 u130 u131 u132 u133 u134 u135 u136 u137 u138 u139 u140 u141 u142 u143 u144 u145 u146 u147 u148 u149 u150 u151 u152 u153 u154 u155 u156 u157 u158 u159 u160 u161 u162 u163 u164 u165 u166 u167 u168 u169 u170 u171 u172 u173 u174 u175 u176 u177 u178 u179 u180 u181 u182 u183 u184 u185 u186 u187 u188 u189 : Value) (bp' : Nat) (s' : PS) (wx : World), LB w0 bp' br s' (k + 1) B a (.slice Ab a.x.b.length cb) wx → KK ⟨#[c0, c1, c2, c3, u4, .pointer (some ⟨bp', 0, none⟩), c6, .pointer (some ⟨br, 0, none⟩), c8, .pointer (some ⟨B, 0, none⟩), u10, u11, u12, u13, u14, u15, u16, u17, u18, u19, c20, c21, c22, c23, c24, c25, c26, c27, c28, c29, c30, c31, c32, c33, c34, c35, c36, c37, c38, c39, c40, c41, c42, c43, c44, c45, c46, c47, c48, c49, c50, c51, c52, c53, c54, c55, c56, c57, c58, c59, c60, c61, c62, c63, c64, c65, c66, c67, c68, c69, c70, c71, c72, c73, .int .i64 a.kind, u75, u76, u77, u78, u79, u80, u81, u82, u83, u84, u85, u86, u87, u88, u89, u90, u91, u92, u93, u94, u95, u96, u97, u98, u99, u100, u101, u102, u103, u104, u105, u106, u107, u108, u109, u110, u111, u112, u113, u114, u115, u116, u117, u118, u119, u120, u121, u122, u123, u124, u125, u126, u127, u128, u129, u130, u131, u132, u133, u134, u135, u136, u137, u138, u139, u140, u141, u142, u143, u144, u145, u146, u147, u148, u149, u150, u151, u152, u153, u154, u155, u156, u157, u158, u159, u160, u161, u162, u163, u164, u165, u166, u167, u168, u169, u170, u171, u172, u173, u174, u175, u176, u177, u178, u179, u180, u181, u182, u183, u184, u185, u186, u187, u188, u189, c190, c191, c192, c193, c194, c195, c196, c197, c198, c199, c200, c201, c202, c203, c204, c205, c206, c207, c208, c209, c210, c211, c212, c213, c214, c215, c216, c217, c218, c219, c220, c221, c222, c223, c224, c225, c226, c227, c228, c229, c230, c231, c232, c233, c234, c235, c236, c237, c238, c239, c240, c241, c242, c243, c244, c245, c246, c247, c248, c249, c250, c251, c252, c253, c254, c255, c256, c257, c258, c259], []⟩ wx) :
    Code.wp Try.prog swC (Exit.then KK (fun _ _ _ => False)) ⟨#[c0, c1, c2, c3, c4, .pointer (some ⟨bp, 0, none⟩), c6, .pointer (some ⟨br, 0, none⟩), c8, .pointer (some ⟨B, 0, none⟩), c10, c11, c12, c13, c14, c15, c16, c17, c18, c19, c20, c21, c22, c23, c24, c25, c26, c27, c28, c29, c30, c31, c32, c33, c34, c35, c36, c37, c38, c39, c40, c41, c42, c43, c44, c45, c46, c47, c48, c49, c50, c51, c52, c53, c54, c55, c56, c57, c58, c59, c60, c61, c62, c63, c64, c65, c66, c67, c68, c69, c70, c71, c72, c73, .int .i64 a.kind, c75, c76, c77, c78, c79, c80, c81, c82, c83, c84, c85, c86, c87, c88, c89, c90, c91, c92, c93, c94, c95, c96, c97, c98, c99, c100, c101, c102, c103, c104, c105, c106, c107, c108, c109, c110, c111, c112, c113, c114, c115, c116, c117, c118, c119, c120, c121, c122, c123, c124, c125, c126, c127, c128, c129, c130, c131, c132, c133, c134, c135, c136, c137, c138, c139, c140, c141, c142, c143, c144, c145, c146, c147, c148, c149, c150, c151, c152, c153, c154, c155, c156, c157, c158, c159, c160, c161, c162, c163, c164, c165, c166, c167, c168, c169, c170, c171, c172, c173, c174, c175, c176, c177, c178, c179, c180, c181, c182, c183, c184, c185, c186, c187, c188, c189, c190, c191, c192, c193, c194, c195, c196, c197, c198, c199, c200, c201, c202, c203, c204, c205, c206, c207, c208, c209, c210, c211, c212, c213, c214, c215, c216, c217, c218, c219, c220, c221, c222, c223, c224, c225, c226, c227, c228, c229, c230, c231, c232, c233, c234, c235, c236, c237, c238, c239, c240, c241, c242, c243, c244, c245, c246, c247, c248, c249, c250, c251, c252, c253, c254, c255, c256, c257, c258, c259], []⟩ W1 := by
  conv => arg 2; whnf
  have hszA := lt_of_block hA
  have hbytes1 := hbytes.below (hB1.mono (Nat.le_refl _))
  have q0 : W1.cell? ⟨B, 0, none⟩ = some (.int .i64 a.kind) := cell_of_block hA 0
  have q1 : W1.cell? ⟨B, 1, none⟩ = some (.int .i64 a.i) := cell_of_block hA 1
  have q2 : W1.cell? ⟨B, 2, none⟩ = some (.int .i64 a.x.from_) := cell_of_block hA 2
  have q3 : W1.cell? ⟨B, 3, none⟩ = some (.int .i64 a.x.to_) := cell_of_block hA 3
  have q4 : W1.cell? ⟨B, 4, none⟩ = some (.slice Ab a.x.b.length cb) := cell_of_block hA 4
  replace hp1 := Lib.hid hp1
  replace hr1 := Lib.hid hr1
  replace hsk := Lib.hid hsk
  replace hB1 := Lib.hid hB1
  replace hA := Lib.hid hA
  replace hbytes := Lib.hid hbytes
  replace hbytes1 := Lib.hid hbytes1
  replace hQ := Lib.hid hQ
  go_wp2_with (fail)
  refine (take_any hp1.out (hsk.out.ok (by omega)) a.i).mono ?_
  rintro e w3 ⟨vx, rfl, hx, hP3, hF3⟩
  obtain ⟨Ax, cx, rfl, _⟩ := own_slice hx
  have hR3 := rOver hr1.out hp1.out hF3
  have hA3 := hp1.out.keep hF3 hA.out (by decide)
  have hB3 := hp1.out.bel hF3 hB1.out (Nat.le_refl _)
  have hskt := hsk.out.take a.i
  generalize hit : itemAt s a.i = x9 at *
  generalize hrt : takeR s a.i = r9 at *
  have hbb : Below w3.heap.size w3 (w3.alloc (.cells #[.int .i64 x9.from_, .int .i64 x9.to_, .slice Ax x9.b.length cx] 37)) := (Below.refl _ _).alloc (Nat.le_refl _) _
  have hX4 := alloc_new w3 (.cells #[.int .i64 x9.from_, .int .i64 x9.to_, .slice Ax x9.b.length cx] 37)
  have hP4 := hP3.of_below hbb
  have hR4 := hR3.of_below hbb
  have hA4 := block_kept hA3 hbb
  have hB4 := hB3.trans (hbb.mono hB3.size)
  have hx4 := own_fr (S := fun _ => False) hx (Fr.of_below hbb) (fun _ _ h => h)
  have q5 : (w3.alloc (.cells #[.int .i64 x9.from_, .int .i64 x9.to_, .slice Ax x9.b.length cx] 37)).cell? ⟨B, 1, none⟩ = some (.int .i64 a.i) := cell_of_block hA4 1
  clear hP3 hF3 hR3 hA3 hB3 hbb hx
  replace hX4 := Lib.hid hX4
  replace hP4 := Lib.hid hP4
  replace hR4 := Lib.hid hR4
  replace hA4 := Lib.hid hA4
  replace hB4 := Lib.hid hB4
  replace hx4 := Lib.hid hx4
  replace hskt := Lib.hid hskt
  replace hit := Lib.hid hit
  replace hrt := Lib.hid hrt
  go_upto_region 22 with (fail)
  generalize w3.alloc (.cells #[.int .i64 x9.from_, .int .i64 x9.to_, .slice Ax x9.b.length cx] 37) = W4 at hX4 hP4 hR4 hA4 hB4 hx4 q5 ⊢
  go_wp2_with (fail)
  refine (R.take_any hR4.out a.i).mono ?_
  rw [hit.out, hrt.out]
  rintro e w5 ⟨vy, rfl, hy, hR5, hF5⟩
  obtain ⟨Ay, cy, hvy⟩ := hy.slice
  subst hvy
  have hP5 := hP4.out.over hR4.out hF5
  have hA5 := rKeep hR4.out hF5 hA4.out (by decide)
  have hX5 := rKeep hR4.out hF5 hX4.out (by decide)
  have hB5 := rBel hR4.out hF5 hB4.out (Nat.le_refl _)
  have hx5 := own_fr hx4.out hF5 (fun j hj => by obtain ⟨c9, fz, h9⟩ := own_kind hx4.out j hj; exact rNo hR4.out h9)
  have hbb : Below w5.heap.size w5 (w5.alloc (.cells #[.int .i64 x9.from_, .int .i64 x9.to_, .slice Ay x9.b.length cy] 32)) := (Below.refl _ _).alloc (Nat.le_refl _) _
  have hY6 := alloc_new w5 (.cells #[.int .i64 x9.from_, .int .i64 x9.to_, .slice Ay x9.b.length cy] 32)
  have hP6 := hP5.of_below hbb
  have hR6 := hR5.of_below hbb
  have hA6 := block_kept hA5 hbb
  have hX6 := block_kept hX5 hbb
  have hB6 := hB5.trans (hbb.mono hB5.size)
  have hx6 := (Rd.of_own hx5).below hbb
  have hy6 := hy.below hbb
  clear hP5 hR5 hA5 hX5 hB5 hx5 hy hbb hF5 q5
  replace hY6 := Lib.hid hY6
  replace hP6 := Lib.hid hP6
  replace hR6 := Lib.hid hR6
  replace hA6 := Lib.hid hA6
  replace hX6 := Lib.hid hX6
  replace hB6 := Lib.hid hB6
  replace hx6 := Lib.hid hx6
  replace hy6 := Lib.hid hy6
  go_upto_region 23 with (fail)
  generalize w5.alloc (.cells #[.int .i64 x9.from_, .int .i64 x9.to_, .slice Ay x9.b.length cy] 32) = W6 at hY6 hP6 hR6 hA6 hX6 hB6 hx6 hy6 ⊢
  have u0 : W6.cell? ⟨w3.heap.size, 0, none⟩ = some (.int .i64 x9.from_) := cell_of_block hX6.out 0
  have u1 : W6.cell? ⟨w3.heap.size, 1, none⟩ = some (.int .i64 x9.to_) := cell_of_block hX6.out 1
  have u2 : W6.cell? ⟨w3.heap.size, 2, none⟩ = some (.slice Ax x9.b.length cx) := cell_of_block hX6.out 2
  have u3 : W6.cell? ⟨w5.heap.size, 0, none⟩ = some (.int .i64 x9.from_) := cell_of_block hY6.out 0
  have u4 : W6.cell? ⟨w5.heap.size, 1, none⟩ = some (.int .i64 x9.to_) := cell_of_block hY6.out 1
  have u5 : W6.cell? ⟨w5.heap.size, 2, none⟩ = some (.slice Ay x9.b.length cy) := cell_of_block hY6.out 2
  go_wp2_with (fail)
  refine (same_true x9 _ _ _ hx6.out hy6.out).mono ?_
  rintro e w7 ⟨rfl, hb7⟩
  have hend : Hid (LB w0 bp br (takeS s a.i) (k + 1) B a (.slice Ab a.x.b.length cb) w7) := Lib.hid ⟨(hP6.out.of_below hb7).mono (fun _ _ _ => trivial), (hR6.out.of_below hb7).mono (fun _ _ _ => trivial), hskt.out, hB6.out.trans (hb7.mono hB6.out.size), block_kept hA6.out hb7⟩
  clear hb7 u0 u1 u2 u3 u4 u5
  go_wp2_with (go_at_call 9; refine (num_any _ _).mono ?_; rintro e w9 ⟨rfl, rfl⟩)
  exact hQ.out _ _ _ _ _ _ _ _ _ _ _ _ _ _ _ _ _ _ _ _ _ _ _ _ _ _ _ _ _ _ _ _ _ _ _ _ _ _ _ _ _ _ _ _ _ _ _ _ _ _ _ _ _ _ _ _ _ _ _ _ _ _ _ _ _ _ _ _ _ _ _ _ _ _ _ _ _ _ _ _ _ _ _ _ _ _ _ _ _ _ _ _ _ _ _ _ _ _ _ _ _ _ _ _ _ _ _ _ _ _ _ _ _ _ _ _ _ _ _ _ _ _ _ _ _ _ _ _ _ hend.out

set_option maxHeartbeats 40000000 in
set_option maxRecDepth 1000000 in
set_option linter.unusedSimpArgs false in
set_option linter.unusedVariables false in
theorem sw_send (w0 : World) (bp br B k : Nat) (s : PS) (a : Ac) (Ab : Option Addr) (cb : Nat) (W1 : World) (KK : Act → World → Prop) (c0 c1 c2 c3 c4 c6 c8 c10 c11 c12 c13 c14 c15 c16 c17 c18 c19 c20 c21 c22 c23 c24 c25 c26 c27 c28 c29 c30 c31 c32 c33 c34 c35 c36 c37 c38 c39 c40 c41 c42 c43 c44 c45 c46 c47 c48 c49 c50 c51 c52 c53 c54 c55 c56 c57 c58 c59 c60 c61 c62 c63 c64 c65 c66 c67 c68 c69 c70 c71 c72 c73 c75 c76 c77 c78 c79 c80 c81 c82 c83 c84 c85 c86 c87 c88 c89 c90 c91 c92 c93 c94 c95 c96 c97 c98 c99 c100 c101 c102 c103 c104 c105 c106 c107 c108 c109 c110 c111 c112 c113 c114 c115 c116 c117 c118 c119 c120 c121 c122 c123 c124 c125 c126 c127 c128 c129 c130 c131 c132 c133 c134 c135 c136 c137 c138 c139 c140 c141 c142 c143 c144 c145 c146 c147 c148 c149 c150 c151 c152 c153 c154 c155 c156 c157 c158 c159 c160 c161 c162 c163 c164 c165 c166 c167 c168 c169 c170 c171 c172 c173 c174 c175 c176 c177 c178 c179 c180 c181 c182 c183 c184 c185 c186 c187 c188 c189 c190 c191 c192 c193 c194 c195 c196 c197 c198 c199 c200 c201 c202 c203 c204 c205 c206 c207 c208 c209 c210 c211 c212 c213 c214 c215 c216 c217 c218 c219 c220 c221 c222 c223 c224 c225 c226 c227 c228 c229 c230 c231 c232 c233 c234 c235 c236 c237 c238 c239 c240 c241 c242 c243 c244 c245 c246 c247 c248 c249 c250 c251 c252 c253 c254 c255 c256 c257 c258 c259 : Value)
    (hp1 : IsP w0.heap.size bp s (fun j => j < B) W1) (hr1 : R.IsP w0.heap.size br s (fun j => j < B) W1) (hsk : SK s k) (hk2 : k ≤ 120) (hB1 : Below w0.heap.size w0 W1) (hA : W1.heap[B]? = some (.cells #[.int .i64 a.kind, .int .i64 a.i, .int .i64 a.x.from_, .int .i64 a.x.to_, .slice Ab a.x.b.length cb] 34 (0, 0))) (hB0 : w0.heap.size ≤ B) (hshort : a.x.b.length ≤ 500) (hbytes : Rd w0 (.slice Ab a.x.b.length cb) a.x.b.length (byV a.x.b))
    (h0 : (a.kind == 0) = true)
    (hQ : ∀ (u4 u10 u11 u12 u13 u14 u15 u16 u17 u18 u19 u75 u76 u77 u78 u79 u80 u81 u82 u83 u84 u85 u86 u87 u88 u89 u90 u91 u92 u93 u94 u95 u96 u97 u98 u99 u100 u101 u102 u103 u104 u105 u106 u107 u108 u109 u110 u111 u112 u113 u114 u115 u116 u117 u118 u119 u120 u121 u122 u123 u124 u125 u126 u127 u128 u129 u130 u131 u132 u133 u134 u135 u136 u137 u138 u139 u140 u141 u142 u143 u144 u145 u146 u147 u148 u149 u150 u151 u152 u153 u154 u155 u156 u157 u158 u159 u160 u161 u162 u163 u164 u165 u166 u167 u168 u169 u170 u171 u172 u173 u174 u175 u176 u177 u178 u179 u180 u181 u182 u183 u184 u185 u186 u187 u188 u189 : Value) (bp' : Nat) (s' : PS) (wx : World), LB w0 bp' br s' (k + 1) B a (.slice Ab a.x.b.length cb) wx → KK ⟨#[c0, c1, c2, c3, u4, .pointer (some ⟨bp', 0, none⟩), c6, .pointer (some ⟨br, 0, none⟩), c8, .pointer (some ⟨B, 0, none⟩), u10, u11, u12, u13, u14, u15, u16, u17, u18, u19, c20, c21, c22, c23, c24, c25, c26, c27, c28, c29, c30, c31, c32, c33, c34, c35, c36, c37, c38, c39, c40, c41, c42, c43, c44, c45, c46, c47, c48, c49, c50, c51, c52, c53, c54, c55, c56, c57, c58, c59, c60, c61, c62, c63, c64, c65, c66, c67, c68, c69, c70, c71, c72, c73, .int .i64 a.kind, u75, u76, u77, u78, u79, u80, u81, u82, u83, u84, u85, u86, u87, u88, u89, u90, u91, u92, u93, u94, u95, u96, u97, u98, u99, u100, u101, u102, u103, u104, u105, u106, u107, u108, u109, u110, u111, u112, u113, u114, u115, u116, u117, u118, u119, u120, u121, u122, u123, u124, u125, u126, u127, u128, u129, u130, u131, u132, u133, u134, u135, u136, u137, u138, u139, u140, u141, u142, u143, u144, u145, u146, u147, u148, u149, u150, u151, u152, u153, u154, u155, u156, u157, u158, u159, u160, u161, u162, u163, u164, u165, u166, u167, u168, u169, u170, u171, u172, u173, u174, u175, u176, u177, u178, u179, u180, u181, u182, u183, u184, u185, u186, u187, u188, u189, c190, c191, c192, c193, c194, c195, c196, c197, c198, c199, c200, c201, c202, c203, c204, c205, c206, c207, c208, c209, c210, c211, c212, c213, c214, c215, c216, c217, c218, c219, c220, c221, c222, c223, c224, c225, c226, c227, c228, c229, c230, c231, c232, c233, c234, c235, c236, c237, c238, c239, c240, c241, c242, c243, c244, c245, c246, c247, c248, c249, c250, c251, c252, c253, c254, c255, c256, c257, c258, c259], []⟩ wx) :
    Code.wp Try.prog swC (Exit.then KK (fun _ _ _ => False)) ⟨#[c0, c1, c2, c3, c4, .pointer (some ⟨bp, 0, none⟩), c6, .pointer (some ⟨br, 0, none⟩), c8, .pointer (some ⟨B, 0, none⟩), c10, c11, c12, c13, c14, c15, c16, c17, c18, c19, c20, c21, c22, c23, c24, c25, c26, c27, c28, c29, c30, c31, c32, c33, c34, c35, c36, c37, c38, c39, c40, c41, c42, c43, c44, c45, c46, c47, c48, c49, c50, c51, c52, c53, c54, c55, c56, c57, c58, c59, c60, c61, c62, c63, c64, c65, c66, c67, c68, c69, c70, c71, c72, c73, .int .i64 a.kind, c75, c76, c77, c78, c79, c80, c81, c82, c83, c84, c85, c86, c87, c88, c89, c90, c91, c92, c93, c94, c95, c96, c97, c98, c99, c100, c101, c102, c103, c104, c105, c106, c107, c108, c109, c110, c111, c112, c113, c114, c115, c116, c117, c118, c119, c120, c121, c122, c123, c124, c125, c126, c127, c128, c129, c130, c131, c132, c133, c134, c135, c136, c137, c138, c139, c140, c141, c142, c143, c144, c145, c146, c147, c148, c149, c150, c151, c152, c153, c154, c155, c156, c157, c158, c159, c160, c161, c162, c163, c164, c165, c166, c167, c168, c169, c170, c171, c172, c173, c174, c175, c176, c177, c178, c179, c180, c181, c182, c183, c184, c185, c186, c187, c188, c189, c190, c191, c192, c193, c194, c195, c196, c197, c198, c199, c200, c201, c202, c203, c204, c205, c206, c207, c208, c209, c210, c211, c212, c213, c214, c215, c216, c217, c218, c219, c220, c221, c222, c223, c224, c225, c226, c227, c228, c229, c230, c231, c232, c233, c234, c235, c236, c237, c238, c239, c240, c241, c242, c243, c244, c245, c246, c247, c248, c249, c250, c251, c252, c253, c254, c255, c256, c257, c258, c259], []⟩ W1 := by
  conv => arg 2; whnf
  have hszA := lt_of_block hA
  have hbytes1 := hbytes.below (hB1.mono (Nat.le_refl _))
  have q0 : W1.cell? ⟨B, 0, none⟩ = some (.int .i64 a.kind) := cell_of_block hA 0
  have q1 : W1.cell? ⟨B, 1, none⟩ = some (.int .i64 a.i) := cell_of_block hA 1
  have q2 : W1.cell? ⟨B, 2, none⟩ = some (.int .i64 a.x.from_) := cell_of_block hA 2
  have q3 : W1.cell? ⟨B, 3, none⟩ = some (.int .i64 a.x.to_) := cell_of_block hA 3
  have q4 : W1.cell? ⟨B, 4, none⟩ = some (.slice Ab a.x.b.length cb) := cell_of_block hA 4
  replace hp1 := Lib.hid hp1
  replace hr1 := Lib.hid hr1
  replace hsk := Lib.hid hsk
  replace hB1 := Lib.hid hB1
  replace hA := Lib.hid hA
  replace hbytes := Lib.hid hbytes
  replace hbytes1 := Lib.hid hbytes1
  replace hQ := Lib.hid hQ
  go_wp2_with (fail)
  refine (own_any a.x Ab cb _ hbytes1.out (by omega)).mono ?_
  rintro e w3 ⟨vx, rfl, hx, hb3⟩
  obtain ⟨Ax, cx, rfl, _⟩ := own_slice hx
  have hX4 := alloc_new w3 (.cells #[.int .i64 a.x.from_, .int .i64 a.x.to_, .slice Ax a.x.b.length cx] 37)
  have hb34 : Below w3.heap.size w3 (w3.alloc (.cells #[.int .i64 a.x.from_, .int .i64 a.x.to_, .slice Ax a.x.b.length cx] 37)) := (Below.refl _ _).alloc (Nat.le_refl _) _
  have hb4 : Below W1.heap.size W1 (w3.alloc (.cells #[.int .i64 a.x.from_, .int .i64 a.x.to_, .slice Ax a.x.b.length cx] 37)) := hb3.trans (hb34.mono hb3.size)
  have hx4 := own_fr (S := fun _ => False) hx (Fr.of_below hb34) (fun _ _ h => h)
  have hgx : ∀ j, (Value.slice Ax a.x.b.length cx).ownBlock = some j → W1.heap.size ≤ j ∧ j < w3.heap.size := fun j hj => ⟨own_base hx j hj, own_lt hx j hj⟩
  have hs3 := hb3.size
  clear hb34 hx
  replace hX4 := Lib.hid hX4
  replace hb4 := Lib.hid hb4
  replace hx4 := Lib.hid hx4
  replace hgx := Lib.hid hgx
  replace hb3 := Lib.hid hb3
  go_upto_region 14 with (fail)
  generalize w3.alloc (.cells #[.int .i64 a.x.from_, .int .i64 a.x.to_, .slice Ax a.x.b.length cx] 37) = W4 at hX4 hb4 hx4 ⊢
  have hs4 := lt_of_block hX4.out
  have hb4d : Hid (Below W1.heap.size W1 W4.drew) := hb4.out.drew
  have hp4 := Lib.hid (hp1.out.of_below hb4d.out)
  have hr4 := Lib.hid (hr1.out.of_below hb4d.out)
  have hA4 := Lib.hid (block_kept hA.out hb4d.out)
  have hB4 := Lib.hid (hB1.out.trans (hb4d.out.mono hB1.out.size))
  have hx4d := Lib.hid (own_fr (S := fun _ => False) hx4.out (Fr.of_below (Below.refl _ W4).drew) (fun _ _ h => h))
  have hX4d : Hid (W4.drew.heap[w3.heap.size]? = _) := Lib.hid (block_kept hX4.out (Below.refl _ W4).drew)
  have hby4 := Lib.hid (hbytes1.out.below hb4d.out)
  have HS : Hid (W4.drew.cell? ⟨w3.heap.size, 0, none⟩ = some (.int .i64 a.x.from_) ∧ W4.drew.cell? ⟨w3.heap.size, 1, none⟩ = some (.int .i64 a.x.to_) ∧ W4.drew.cell? ⟨w3.heap.size, 2, none⟩ = some (.slice Ax a.x.b.length cx) ∧ W4.drew.cell? ⟨B, 2, none⟩ = some (.int .i64 a.x.from_) ∧ W4.drew.cell? ⟨B, 3, none⟩ = some (.int .i64 a.x.to_) ∧ W4.drew.cell? ⟨B, 4, none⟩ = some (.slice Ab a.x.b.length cb)) := Lib.hid ⟨cell_of_block hX4d.out 0, cell_of_block hX4d.out 1, cell_of_block hX4d.out 2, cell_of_block hA4.out 2, cell_of_block hA4.out 3, cell_of_block hA4.out 4⟩
  refine region_x (fun W' => W'.cell? ⟨w3.heap.size, 0, none⟩ = some (.int .i64 a.x.from_) ∧ W'.cell? ⟨w3.heap.size, 1, none⟩ = some (.int .i64 a.x.to_) ∧ W'.cell? ⟨w3.heap.size, 2, none⟩ = some (.slice Ax a.x.b.length cx) ∧ W'.cell? ⟨B, 2, none⟩ = some (.int .i64 a.x.from_) ∧ W'.cell? ⟨B, 3, none⟩ = some (.int .i64 a.x.to_) ∧ W'.cell? ⟨B, 4, none⟩ = some (.slice Ab a.x.b.length cb)) 8 (by kernel_rfl) ?_
  -- 0: Op.move (Operand.tmp 5)
  apply x_take (i := 0) [3, 2, 0] rfl (by kernel_rfl) (fun _ _ _ h => h) HS.out
  · refine .inl ⟨rfl, fun W' hS => ?_⟩
    obtain ⟨s0, s1, s2, s3, s4, s5⟩ := hS; go_simp <;> with_reducible rfl
  try simp only [Act.put, List.setIfInBounds_toArray, List.set_cons_zero, List.set_cons_succ]
  -- 1: Op.load 37 (Operand.tmp 10)
  apply x_take (i := 1) [3, 2, 1] rfl (by kernel_rfl) (fun _ _ _ h => h) HS.out
  · refine .inl ⟨rfl, fun W' hS => ?_⟩
    obtain ⟨s0, s1, s2, s3, s4, s5⟩ := hS; go_simp <;> with_reducible rfl
  try simp only [Act.put, List.setIfInBounds_toArray, List.set_cons_zero, List.set_cons_succ]
  -- 4: Op.move (Operand.tmp 7)
  apply x_take (i := 4) [7, 4] rfl (by kernel_rfl) (fun _ _ _ h => h) HS.out
  · refine .inl ⟨rfl, fun W' hS => ?_⟩
    obtain ⟨s0, s1, s2, s3, s4, s5⟩ := hS; go_simp <;> with_reducible rfl
  try simp only [Act.put, List.setIfInBounds_toArray, List.set_cons_zero, List.set_cons_succ]
  -- 5: Op.fieldAddr 34 (Operand.tmp 9) 2
  apply x_take (i := 5) [7, 6, 5] rfl (by kernel_rfl) (fun _ _ _ h => h) HS.out
  · refine .inl ⟨rfl, fun W' hS => ?_⟩
    obtain ⟨s0, s1, s2, s3, s4, s5⟩ := hS; go_simp <;> with_reducible rfl
  try simp only [Act.put, List.setIfInBounds_toArray, List.set_cons_zero, List.set_cons_succ]
  -- 6: Op.load 32 (Operand.tmp 85)
  apply x_take (i := 6) [7, 6] rfl (by kernel_rfl) (fun _ _ _ h => h) HS.out
  · refine .inl ⟨rfl, fun W' hS => ?_⟩
    obtain ⟨s0, s1, s2, s3, s4, s5⟩ := hS; go_simp <;> with_reducible rfl
  try simp only [Act.put, List.setIfInBounds_toArray, List.set_cons_zero, List.set_cons_succ]
  -- EFF 2: slot 82 := Op.call { callee := Callee.value (Operand.func 11), args := #[Operand.tmp 80, Operand.tmp 81], argTypes := #[25, 37] }
  refine x_one (i := 2) (by kernel_rfl) rfl rfl (fun K hK => ?_)
  unfold Oper.wp
  go_simp
  refine (send_any hp4.out (hsk.out.ok (by omega)) a.x _ _ (Rd.of_own hx4d.out) (by omega)).mono ?_
  rintro e w5 ⟨rfl, hP5, hF5⟩
  have hP5' := hP5.mono (F' := fun j => j < B ∨ w3.heap.size ≤ j) (fun j _ e => by rcases e with e | e; exact .inl e; exact .inr (by have e : W4.heap.size ≤ j := e; omega))
  have hR5 := rOver hr4.out hp4.out hF5
  have hA5 := hp4.out.keep hF5 hA4.out (by decide)
  have hB5 := hp4.out.bel hF5 hB4.out (Nat.le_refl _)
  have hX5 := fr_block hX4d.out hF5 (fun hj => by have := hp1.out.wr_old hb4d.out _ hj; omega)
  have hx5 := own_fr hx4d.out hF5 (fun j hj => by obtain ⟨c9, fz, h9⟩ := own_kind hx4d.out j hj; exact hp4.out.no_u8 h9)
  have hs5 := hF5.size
  have hby5 : Rd w5 (.slice Ab a.x.b.length cb) a.x.b.length (byV a.x.b) := hbytes.out.below hB5
  have HS : Hid (w5.cell? ⟨w3.heap.size, 0, none⟩ = some (.int .i64 a.x.from_) ∧ w5.cell? ⟨w3.heap.size, 1, none⟩ = some (.int .i64 a.x.to_) ∧ w5.cell? ⟨w3.heap.size, 2, none⟩ = some (.slice Ax a.x.b.length cx) ∧ w5.cell? ⟨B, 2, none⟩ = some (.int .i64 a.x.from_) ∧ w5.cell? ⟨B, 3, none⟩ = some (.int .i64 a.x.to_) ∧ w5.cell? ⟨B, 4, none⟩ = some (.slice Ab a.x.b.length cb)) := Lib.hid ⟨cell_of_block hX5 0, cell_of_block hX5 1, cell_of_block hX5 2, cell_of_block hA5 2, cell_of_block hA5 3, cell_of_block hA5 4⟩
  replace hP5' := Lib.hid hP5'
  replace hR5 := Lib.hid hR5
  replace hA5 := Lib.hid hA5
  replace hB5 := Lib.hid hB5
  replace hX5 := Lib.hid hX5
  replace hx5 := Lib.hid hx5
  replace hs5 := Lib.hid hs5
  replace hby5 := Lib.hid hby5
  clear hP5 hF5
  refine hK _ _ (.inl HS.out) ?_; clear hK K
  try simp only [Act.put, List.setIfInBounds_toArray, List.set_cons_zero, List.set_cons_succ]
  -- EFF 3: slot 83 := Op.call { callee := Callee.value (Operand.func 9), args := #[Operand.tmp 82], argTypes := #[26] }
  refine x_one (i := 3) (by kernel_rfl) rfl rfl (fun K hK => ?_)
  unfold Oper.wp
  go_simp
  refine (num_any _ _).mono ?_
  rintro e w5 ⟨rfl, rfl⟩
  refine hK _ _ (.inl HS.out) ?_; clear hK K
  try simp only [Act.put, List.setIfInBounds_toArray, List.set_cons_zero, List.set_cons_succ]
  -- EFF 7: slot 87 := Op.call { callee := Callee.value (Operand.func 19), args := #[Operand.tmp 84, Operand.tmp 86], argTypes := #[46, 32] }
  refine x_one (i := 7) (by kernel_rfl) rfl rfl (fun K hK => ?_)
  unfold Oper.wp
  go_simp
  refine (R.send_any hR5.out (hsk.out.ok (by omega)) a.x _ _ hby5.out (by omega)).mono ?_
  rintro e w6 ⟨rfl, hR6, hF6⟩
  have hR6' := hR6.mono (F' := fun j => j < B ∨ w3.heap.size ≤ j) (fun j _ e => by rcases e with e | e; exact .inl e; exact .inr (by have e : w5.heap.size ≤ j := e; have h5 : W4.heap.size ≤ w5.heap.size := hs5.out; omega))
  have hP6 := hP5'.out.over hR5.out hF6
  have hA6 := rKeep hR5.out hF6 hA5.out (by decide)
  have hB6 := rBel hR5.out hF6 hB5.out (Nat.le_refl _)
  have hX6 := rKeep hR5.out hF6 hX5.out (by decide)
  have hx6 := own_fr hx5.out hF6 (fun j hj => by obtain ⟨c9, fz, h9⟩ := own_kind hx5.out j hj; exact rNo hR5.out h9)
  have HS : Hid (w6.cell? ⟨w3.heap.size, 0, none⟩ = some (.int .i64 a.x.from_) ∧ w6.cell? ⟨w3.heap.size, 1, none⟩ = some (.int .i64 a.x.to_) ∧ w6.cell? ⟨w3.heap.size, 2, none⟩ = some (.slice Ax a.x.b.length cx) ∧ w6.cell? ⟨B, 2, none⟩ = some (.int .i64 a.x.from_) ∧ w6.cell? ⟨B, 3, none⟩ = some (.int .i64 a.x.to_) ∧ w6.cell? ⟨B, 4, none⟩ = some (.slice Ab a.x.b.length cb)) := Lib.hid ⟨cell_of_block hX6 0, cell_of_block hX6 1, cell_of_block hX6 2, cell_of_block hA6 2, cell_of_block hA6 3, cell_of_block hA6 4⟩
  have HX6 : Hid (XL w0 bp br (sendS s a.x) B w3.heap.size W1.heap.size a (.slice Ab a.x.b.length cb) Ax cx w6) := Lib.hid ⟨hP6, hR6', hB6, hA6, hX6, _, hx6, rfl⟩
  clear hR6 hR6' hF6 hP6 hA6 hB6 hX6 hx6
  refine hK _ _ (.inl HS.out) ?_; clear hK K
  try simp only [Act.put, List.setIfInBounds_toArray, List.set_cons_zero, List.set_cons_succ]
  -- EFF 8: slot 88 := Op.binOp BinOp.neq 3 (Operand.tmp 83) (Operand.tmp 87) 3
  refine x_one (i := 8) (by kernel_rfl) rfl rfl (fun K hK => ?_)
  unfold Oper.wp
  go_simp
  refine hK _ _ (.inr rfl) ?_; clear hK K
  try simp only [Act.put, List.setIfInBounds_toArray, List.set_cons_zero, List.set_cons_succ]
  refine x_done (by kernel_rfl) ?_
  go_wp2_with (fail)
  have hgx' := hgx.out
  go_loopw [11] (fun i wx => ∃ q : Nat, q ≤ a.x.b.length ∧ i = .int .i64 q ∧ Hid (XL w0 bp br (sendS s a.x) B w3.heap.size W1.heap.size a (.slice Ab a.x.b.length cb) Ax cx wx)) (fun i _ => a.x.b.length - (intOf i).toNat)
  case atStart => exact ⟨0, Nat.zero_le _, rfl, HX6⟩
  case round =>
    obtain ⟨q, hq, rfl, HQ⟩ := hrel
    obtain ⟨hP8, hR8, hB8, hA8, hX8, ys, hx8, hys⟩ := HQ.out
    have n2 : wr.cell? ⟨w3.heap.size, 2, none⟩ = some (.slice Ax a.x.b.length cx) := cell_of_block hX8 2
    by_cases hql : q < a.x.b.length
    · obtain ⟨g1, c1, e1, _, _, hc1⟩ := own_succ hx8 (by omega)
      cases e1
      have hqy : q < ys.length := by omega
      have b0 := hc1 q _ (byV_at hqy)
      have f0 := own_free hx8 q
      have hgx2 := hgx' g1 rfl
      have hstep := fun z => (HQ.out.set q hszA hgx2.2 hB1.out.size z).below (Below.refl _ _).drew
      generalize ys[q] = yq at *
      have hq1 : (q : Int) < (a.x.b.length : Int) := by omega
      have HS : Hid (wr.drew.cell? ⟨w3.heap.size, 2, none⟩ = some (.slice (some ⟨g1, 0, none⟩) a.x.b.length cx) ∧ wr.drew.cell? ⟨g1, q, none⟩ = some (.int .u8 yq)) := Lib.hid ⟨n2, b0⟩
      clear hP8 hR8 hB8 hA8 hX8 hx8 hc1 hgx2
      replace hstep := Lib.hid hstep
      go_upto_region 19 with (fail)
      refine region_x (fun W' => W'.cell? ⟨w3.heap.size, 2, none⟩ = some (.slice (some ⟨g1, 0, none⟩) a.x.b.length cx) ∧ W'.cell? ⟨g1, q, none⟩ = some (.int .u8 yq)) 10 (by kernel_rfl) ?_
      -- 0: Op.fieldAddr 37 (Operand.tmp 10) 2
      apply x_take (i := 0) [0] rfl (by kernel_rfl) (fun _ _ _ h => h) HS.out
      · refine .inl ⟨rfl, fun W' hS => ?_⟩
        obtain ⟨s0, s1⟩ := hS; go_simp <;> with_reducible rfl
      try simp only [Act.put, List.setIfInBounds_toArray, List.set_cons_zero, List.set_cons_succ]
      -- 1: Op.load 30 (Operand.tmp 96)
      apply x_take (i := 1) [1] rfl (by kernel_rfl) (fun _ _ _ h => h) HS.out
      · refine .inl ⟨rfl, fun W' hS => ?_⟩
        obtain ⟨s0, s1⟩ := hS; go_simp <;> with_reducible rfl
      try simp only [Act.put, List.setIfInBounds_toArray, List.set_cons_zero, List.set_cons_succ]
      -- 2: Op.move (Operand.tmp 11)
      apply x_take (i := 2) [2] rfl (by kernel_rfl) (fun _ _ _ h => h) HS.out
      · refine .inl ⟨rfl, fun W' hS => ?_⟩
        obtain ⟨s0, s1⟩ := hS; go_simp <;> with_reducible rfl
      try simp only [Act.put, List.setIfInBounds_toArray, List.set_cons_zero, List.set_cons_succ]
      -- 3: Op.fieldAddr 37 (Operand.tmp 10) 2
      apply x_take (i := 3) [3] rfl (by kernel_rfl) (fun _ _ _ h => h) HS.out
      · refine .inl ⟨rfl, fun W' hS => ?_⟩
        obtain ⟨s0, s1⟩ := hS; go_simp <;> with_reducible rfl
      try simp only [Act.put, List.setIfInBounds_toArray, List.set_cons_zero, List.set_cons_succ]
      -- 4: Op.load 30 (Operand.tmp 99)
      apply x_take (i := 4) [4] rfl (by kernel_rfl) (fun _ _ _ h => h) HS.out
      · refine .inl ⟨rfl, fun W' hS => ?_⟩
        obtain ⟨s0, s1⟩ := hS; go_simp <;> with_reducible rfl
      try simp only [Act.put, List.setIfInBounds_toArray, List.set_cons_zero, List.set_cons_succ]
      -- 5: Op.move (Operand.tmp 11)
      apply x_take (i := 5) [5] rfl (by kernel_rfl) (fun _ _ _ h => h) HS.out
      · refine .inl ⟨rfl, fun W' hS => ?_⟩
        obtain ⟨s0, s1⟩ := hS; go_simp <;> with_reducible rfl
      try simp only [Act.put, List.setIfInBounds_toArray, List.set_cons_zero, List.set_cons_succ]
      -- 6: Op.indexAddr 30 (Operand.tmp 100) (Operand.tmp 101)
      apply x_take (i := 6) [6] rfl (by kernel_rfl) (fun _ _ _ h => h) HS.out
      · refine .inl ⟨rfl, fun W' hS => ?_⟩
        obtain ⟨s0, s1⟩ := hS; go_simp <;> with_reducible rfl
      try simp only [Act.put, List.setIfInBounds_toArray, List.set_cons_zero, List.set_cons_succ]
      -- 7: Op.load 5 (Operand.tmp 102)
      apply x_take (i := 7) [7] rfl (by kernel_rfl) (fun _ _ _ h => h) HS.out
      · refine .inl ⟨rfl, fun W' hS => ?_⟩
        obtain ⟨s0, s1⟩ := hS; go_simp <;> with_reducible rfl
      try simp only [Act.put, List.setIfInBounds_toArray, List.set_cons_zero, List.set_cons_succ]
      -- 8: Op.binOp BinOp.add 5 (Operand.tmp 103) (Operand.const (Value.int IntKind.u8 1)) 5
      apply x_take (i := 8) [8] rfl (by kernel_rfl) (fun _ _ _ h => h) HS.out
      · refine .inl ⟨rfl, fun W' hS => ?_⟩
        obtain ⟨s0, s1⟩ := hS; go_simp <;> with_reducible rfl
      try simp only [Act.put, List.setIfInBounds_toArray, List.set_cons_zero, List.set_cons_succ]
      -- 9: Op.indexAddr 30 (Operand.tmp 97) (Operand.tmp 98)
      apply x_take (i := 9) [9] rfl (by kernel_rfl) (fun _ _ _ h => h) HS.out
      · refine .inl ⟨rfl, fun W' hS => ?_⟩
        obtain ⟨s0, s1⟩ := hS; go_simp <;> with_reducible rfl
      try simp only [Act.put, List.setIfInBounds_toArray, List.set_cons_zero, List.set_cons_succ]
      -- EFF 10: slot None := Op.store 5 (Operand.tmp 105) (Operand.tmp 104)
      refine x_one (i := 10) (by kernel_rfl) rfl rfl (fun K hK => ?_)
      unfold Oper.wp
      go_simp
      refine hK _ _ (.inr rfl) ?_; clear hK K
      try simp only [Act.put, List.setIfInBounds_toArray, List.set_cons_zero, List.set_cons_succ]
      refine x_done (by kernel_rfl) ?_
      go_wp2_with (fail)
      go_roundw
      case rel => exact ⟨q + 1, by omega, by go_num, Lib.hid (hstep.out _)⟩
      case measure => simp [intOf]; omega
    · have hq1 : ¬ (q : Int) < (a.x.b.length : Int) := by omega
      have hend : Hid (LB w0 bp br (sendS s a.x) (k + 1) B a (.slice Ab a.x.b.length cb) wr) := Lib.hid ⟨hP8.mono (fun _ _ _ => trivial), hR8.mono (fun _ _ _ => trivial), hsk.out.send _ hshort, hB8, hA8⟩
      clear hP8 hR8 hB8 hA8 hX8 hx8
      go_wp2_with (fail)
      exact hQ.out _ _ _ _ _ _ _ _ _ _ _ _ _ _ _ _ _ _ _ _ _ _ _ _ _ _ _ _ _ _ _ _ _ _ _ _ _ _ _ _ _ _ _ _ _ _ _ _ _ _ _ _ _ _ _ _ _ _ _ _ _ _ _ _ _ _ _ _ _ _ _ _ _ _ _ _ _ _ _ _ _ _ _ _ _ _ _ _ _ _ _ _ _ _ _ _ _ _ _ _ _ _ _ _ _ _ _ _ _ _ _ _ _ _ _ _ _ _ _ _ _ _ _ _ _ _ _ _ _ hend.out

end Go.Proofs.Ytjfbiifcjiidfaa
