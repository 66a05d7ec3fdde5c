/- The structs' cells, the slices in them left as values. -/
import Derived.Test.YthgheamplcejkaaGreatTY
namespace Go.Proofs.YthgheamplcejkaaGreat
open Go.RowKit Go.ChangeShapes Go.WideShapes Go.Deep

theorem bools8 {l : List Bool} (h : l.length = 8) : l.map Value.bool = [.bool (l.getD 0 false), .bool (l.getD 1 false), .bool (l.getD 2 false), .bool (l.getD 3 false), .bool (l.getD 4 false), .bool (l.getD 5 false), .bool (l.getD 6 false), .bool (l.getD 7 false)] := by
  match l, h with
  | [_, _, _, _, _, _, _, _], _ => rfl

def D_api_Path.cs (x : D_api_Path) : List Value := [.int .i64 x.depth, .int .i64 x.bits]
structure D_api_Path.WF (X : D_api_Path) : Prop where
  depth : (Lit.int .i64 X.depth).wf = true
  bits : (Lit.int .i64 X.bits).wf = true
theorem D_api_Path.cells {w : World} {x : D_api_Path} {cs : List Value} (h : D_api_Path.k.K w x cs) : cs = D_api_Path.cs x ∧ D_api_Path.WF x := by
  obtain ⟨a0, a1, rfl, h0, h1⟩ := h
  obtain ⟨e0, w0⟩ := h0
  obtain ⟨e1, w1⟩ := h1
  refine ⟨?_, ⟨w0, w1⟩⟩
  simp_all [D_api_Path.cs]

def D_api_Point.cs (x : D_api_Point) : List Value := [.int .i64 x.x, .int .i64 x.y]
structure D_api_Point.WF (X : D_api_Point) : Prop where
  x : (Lit.int .i64 X.x).wf = true
  y : (Lit.int .i64 X.y).wf = true
theorem D_api_Point.cells {w : World} {x : D_api_Point} {cs : List Value} (h : D_api_Point.k.K w x cs) : cs = D_api_Point.cs x ∧ D_api_Point.WF x := by
  obtain ⟨a0, a1, rfl, h0, h1⟩ := h
  obtain ⟨e0, w0⟩ := h0
  obtain ⟨e1, w1⟩ := h1
  refine ⟨?_, ⟨w0, w1⟩⟩
  simp_all [D_api_Point.cs]

def D_gleberef07_Op.cs (x : D_gleberef07_Op) : List Value := [.int .i64 x.kind, .int .i64 x.at_.x, .int .i64 x.at_.y, .string x.key, .string x.value, .int .i64 x.client, .int .i64 x.seq]
structure D_gleberef07_Op.WF (X : D_gleberef07_Op) : Prop where
  kind : (Lit.int .i64 X.kind).wf = true
  at_ : D_api_Point.WF X.at_
  key : X.key.size ≤ maxLen
  value : X.value.size ≤ maxLen
  client : (Lit.int .i64 X.client).wf = true
  seq : (Lit.int .i64 X.seq).wf = true
theorem D_gleberef07_Op.cells {w : World} {x : D_gleberef07_Op} {cs : List Value} (h : D_gleberef07_Op.k.K w x cs) : cs = D_gleberef07_Op.cs x ∧ D_gleberef07_Op.WF x := by
  obtain ⟨a0, a1, a2, a3, a4, a5, a6, rfl, h0, h1, h2, h3, h4, h5⟩ := h
  obtain ⟨e0, w0⟩ := h0
  obtain ⟨e1, w1⟩ := D_api_Point.cells h1
  obtain ⟨e2, w2⟩ := h2
  obtain ⟨e3, w3⟩ := h3
  obtain ⟨e4, w4⟩ := h4
  obtain ⟨e5, w5⟩ := h5
  refine ⟨?_, ⟨w0, w1, w2, w3, w4, w5⟩⟩
  simp_all [D_gleberef07_Op.cs, D_api_Point.cs]

def D_gleberef11_Entry.cs (x : D_gleberef11_Entry) (s0 : Value) : List Value := [.int .i64 x.kind, .int .i64 x.op.kind, .int .i64 x.op.at_.x, .int .i64 x.op.at_.y, .string x.op.key, .string x.op.value, .int .i64 x.op.client, .int .i64 x.op.seq, .int .i64 x.node, .int .i64 x.epoch, .int .i64 x.by_, s0]
structure D_gleberef11_Entry.WF (X : D_gleberef11_Entry) : Prop where
  kind : (Lit.int .i64 X.kind).wf = true
  op : D_gleberef07_Op.WF X.op
  node : (Lit.int .i64 X.node).wf = true
  epoch : (Lit.int .i64 X.epoch).wf = true
  by_ : (Lit.int .i64 X.by_).wf = true
theorem D_gleberef11_Entry.cells {w : World} {x : D_gleberef11_Entry} {cs : List Value} (h : D_gleberef11_Entry.k.K w x cs) : ∃ s0, cs = D_gleberef11_Entry.cs x s0 ∧ RdK (RK.int .i64) w s0 x.chain ∧ D_gleberef11_Entry.WF x := by
  obtain ⟨a0, a1, a2, a3, a4, a5, a6, a7, a8, a9, a10, a11, rfl, h0, h1, h2, h3, h4, h5⟩ := h
  obtain ⟨e0, w0⟩ := h0
  obtain ⟨e1, w1⟩ := D_gleberef07_Op.cells h1
  obtain ⟨e2, w2⟩ := h2
  obtain ⟨e3, w3⟩ := h3
  obtain ⟨e4, w4⟩ := h4
  obtain ⟨s0, e5, r0⟩ := h5
  refine ⟨s0, ?_, r0, ⟨w0, w1, w2, w3, w4⟩⟩
  simp_all [D_gleberef11_Entry.cs, D_gleberef07_Op.cs]

def D_gleberef12_Note.cs (x : D_gleberef12_Note) (s0 s1 s2 : Value) : List Value := [.int .i64 x.kind, .int .i64 x.from_, .int .i64 x.to_, .int .i64 x.path.depth, .int .i64 x.path.bits, .int .i64 x.epoch, .int .i64 x.index, .int .i64 x.holder, s0, .int .i64 x.pend.kind, .int .i64 x.pend.op.kind, .int .i64 x.pend.op.at_.x, .int .i64 x.pend.op.at_.y, .string x.pend.op.key, .string x.pend.op.value, .int .i64 x.pend.op.client, .int .i64 x.pend.op.seq, .int .i64 x.pend.node, .int .i64 x.pend.epoch, .int .i64 x.pend.by_, s1, s2]
structure D_gleberef12_Note.WF (X : D_gleberef12_Note) : Prop where
  kind : (Lit.int .i64 X.kind).wf = true
  from_ : (Lit.int .i64 X.from_).wf = true
  to_ : (Lit.int .i64 X.to_).wf = true
  path : D_api_Path.WF X.path
  epoch : (Lit.int .i64 X.epoch).wf = true
  index : (Lit.int .i64 X.index).wf = true
  holder : (Lit.int .i64 X.holder).wf = true
  pend : D_gleberef11_Entry.WF X.pend
theorem D_gleberef12_Note.cells {w : World} {x : D_gleberef12_Note} {cs : List Value} (h : D_gleberef12_Note.k.K w x cs) : ∃ s0 s1 s2, cs = D_gleberef12_Note.cs x s0 s1 s2 ∧ RdK (RK.int .i64) w s0 x.chain ∧ RdK (RK.int .i64) w s1 x.pend.chain ∧ RdK (RK.int .u8) w s2 x.state ∧ D_gleberef12_Note.WF x := by
  obtain ⟨a0, a1, a2, a3, a4, a5, a6, a7, a8, a9, a10, a11, a12, a13, a14, a15, a16, a17, a18, a19, a20, a21, rfl, h0, h1, h2, h3, h4, h5, h6, h7, h8, h9⟩ := h
  obtain ⟨e0, w0⟩ := h0
  obtain ⟨e1, w1⟩ := h1
  obtain ⟨e2, w2⟩ := h2
  obtain ⟨e3, w3⟩ := D_api_Path.cells h3
  obtain ⟨e4, w4⟩ := h4
  obtain ⟨e5, w5⟩ := h5
  obtain ⟨e6, w6⟩ := h6
  obtain ⟨s0, e7, r0⟩ := h7
  obtain ⟨s1, e8, r1, w8⟩ := D_gleberef11_Entry.cells h8
  obtain ⟨s2, e9, r2⟩ := h9
  refine ⟨s0, s1, s2, ?_, r0, r1, r2, ⟨w0, w1, w2, w3, w4, w5, w6, w8⟩⟩
  simp_all [D_gleberef12_Note.cs, D_api_Path.cs, D_gleberef11_Entry.cs]

def D_glebelaw22_Act.cs (x : D_glebelaw22_Act) (s0 s1 s2 s3 : Value) : List Value := [.int .i64 x.kind, .int .i64 x.n, .int .i64 x.p.depth, .int .i64 x.p.bits, .int .i64 x.e.kind, .int .i64 x.e.op.kind, .int .i64 x.e.op.at_.x, .int .i64 x.e.op.at_.y, .string x.e.op.key, .string x.e.op.value, .int .i64 x.e.op.client, .int .i64 x.e.op.seq, .int .i64 x.e.node, .int .i64 x.e.epoch, .int .i64 x.e.by_, s0, .int .i64 x.note.kind, .int .i64 x.note.from_, .int .i64 x.note.to_, .int .i64 x.note.path.depth, .int .i64 x.note.path.bits, .int .i64 x.note.epoch, .int .i64 x.note.index, .int .i64 x.note.holder, s1, .int .i64 x.note.pend.kind, .int .i64 x.note.pend.op.kind, .int .i64 x.note.pend.op.at_.x, .int .i64 x.note.pend.op.at_.y, .string x.note.pend.op.key, .string x.note.pend.op.value, .int .i64 x.note.pend.op.client, .int .i64 x.note.pend.op.seq, .int .i64 x.note.pend.node, .int .i64 x.note.pend.epoch, .int .i64 x.note.pend.by_, s2, s3]
structure D_glebelaw22_Act.WF (X : D_glebelaw22_Act) : Prop where
  kind : (Lit.int .i64 X.kind).wf = true
  n : (Lit.int .i64 X.n).wf = true
  p : D_api_Path.WF X.p
  e : D_gleberef11_Entry.WF X.e
  note : D_gleberef12_Note.WF X.note
theorem D_glebelaw22_Act.cells {w : World} {x : D_glebelaw22_Act} {cs : List Value} (h : D_glebelaw22_Act.k.K w x cs) : ∃ s0 s1 s2 s3, cs = D_glebelaw22_Act.cs x s0 s1 s2 s3 ∧ RdK (RK.int .i64) w s0 x.e.chain ∧ RdK (RK.int .i64) w s1 x.note.chain ∧ RdK (RK.int .i64) w s2 x.note.pend.chain ∧ RdK (RK.int .u8) w s3 x.note.state ∧ D_glebelaw22_Act.WF x := by
  obtain ⟨a0, a1, a2, a3, a4, a5, a6, a7, a8, a9, a10, a11, a12, a13, a14, a15, a16, a17, a18, a19, a20, a21, a22, a23, a24, a25, a26, a27, a28, a29, a30, a31, a32, a33, a34, a35, a36, a37, rfl, h0, h1, h2, h3, h4⟩ := h
  obtain ⟨e0, w0⟩ := h0
  obtain ⟨e1, w1⟩ := h1
  obtain ⟨e2, w2⟩ := D_api_Path.cells h2
  obtain ⟨s0, e3, r0, w3⟩ := D_gleberef11_Entry.cells h3
  obtain ⟨s1, s2, s3, e4, r1, r2, r3, w4⟩ := D_gleberef12_Note.cells h4
  refine ⟨s0, s1, s2, s3, ?_, r0, r1, r2, r3, ⟨w0, w1, w2, w3, w4⟩⟩
  simp_all [D_glebelaw22_Act.cs, D_api_Path.cs, D_gleberef11_Entry.cs, D_gleberef12_Note.cs]

/-- A row's element k, where it is seen as a slice. -/
theorem RdK.at_ {α : Type} {k : RK α} {w : World} {A : Option Addr} {n c : Nat} {l : List α} (h : RdK k w (.slice A n c) l) (j : Nat) (hj : j < l.length) : ∃ g o, A = some ⟨g, o, none⟩ ∧ g < w.heap.size ∧ n = l.length ∧ ∃ cs, cs.length = k.sz ∧ k.K w l[j] cs ∧ ∀ i u, cs[i]? = some u → w.cell? ⟨g, o + j * k.sz + i, none⟩ = some u := by
  rcases h with ⟨rfl, _⟩ | ⟨g, o, c', he, _, _, hg, hc⟩
  · cases hj
  · cases he
    obtain ⟨cs, h1, h2, h3⟩ := hc j l[j] (List.getElem?_eq_getElem hj)
    exact ⟨g, o, rfl, hg, rfl, cs, h1, h2, fun i u hu => by rw [Nat.add_assoc]; exact h3 i u hu⟩
end Go.Proofs.YthgheamplcejkaaGreat
