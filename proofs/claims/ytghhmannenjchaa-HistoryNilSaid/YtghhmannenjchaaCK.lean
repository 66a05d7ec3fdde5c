/- The structs' cells, the slices in them left as values. -/
import Derived.Test.YtghhmannenjchaaTY
namespace Go.Proofs.Ytghhmannenjchaa
open Go.RowKit Go.ChangeShapes Go.WideShapes Go.Deep

def D_api_Point.cs (x : D_api_Point) : List Value := [.int .i64 x.x, .int .i64 x.y]
structure D_api_Point.WF (X : D_api_Point) : Prop where
  x : (Lit.int .i64 X.x).wf = true
  y : (Lit.int .i64 X.y).wf = true
theorem D_api_Point.cells {w : World} {x : D_api_Point} {cs : List Value} (h : D_api_Point.k.K w x cs) : cs = D_api_Point.cs x ∧ D_api_Point.WF x := by
  obtain ⟨a0, a1, rfl, h0, h1⟩ := h
  obtain ⟨e0, w0⟩ := h0
  obtain ⟨e1, w1⟩ := h1
  refine ⟨?_, ⟨w0, w1⟩⟩
  simp_all [D_api_Point.cs]

def D_gleberef07_Op.cs (x : D_gleberef07_Op) : List Value := [.int .i64 x.kind, .int .i64 x.at_.x, .int .i64 x.at_.y, .string x.key, .string x.value, .int .i64 x.client, .int .i64 x.seq]
structure D_gleberef07_Op.WF (X : D_gleberef07_Op) : Prop where
  kind : (Lit.int .i64 X.kind).wf = true
  at_ : D_api_Point.WF X.at_
  key : X.key.size ≤ maxLen
  value : X.value.size ≤ maxLen
  client : (Lit.int .i64 X.client).wf = true
  seq : (Lit.int .i64 X.seq).wf = true
theorem D_gleberef07_Op.cells {w : World} {x : D_gleberef07_Op} {cs : List Value} (h : D_gleberef07_Op.k.K w x cs) : cs = D_gleberef07_Op.cs x ∧ D_gleberef07_Op.WF x := by
  obtain ⟨a0, a1, a2, a3, a4, a5, a6, rfl, h0, h1, h2, h3, h4, h5⟩ := h
  obtain ⟨e0, w0⟩ := h0
  obtain ⟨e1, w1⟩ := D_api_Point.cells h1
  obtain ⟨e2, w2⟩ := h2
  obtain ⟨e3, w3⟩ := h3
  obtain ⟨e4, w4⟩ := h4
  obtain ⟨e5, w5⟩ := h5
  refine ⟨?_, ⟨w0, w1, w2, w3, w4, w5⟩⟩
  simp_all [D_gleberef07_Op.cs, D_api_Point.cs]

def D_gleberef04_Rect.cs (x : D_gleberef04_Rect) : List Value := [.int .i64 x.x, .int .i64 x.y, .int .i64 x.w, .int .i64 x.h]
structure D_gleberef04_Rect.WF (X : D_gleberef04_Rect) : Prop where
  x : (Lit.int .i64 X.x).wf = true
  y : (Lit.int .i64 X.y).wf = true
  w : (Lit.int .i64 X.w).wf = true
  h : (Lit.int .i64 X.h).wf = true
theorem D_gleberef04_Rect.cells {w : World} {x : D_gleberef04_Rect} {cs : List Value} (h : D_gleberef04_Rect.k.K w x cs) : cs = D_gleberef04_Rect.cs x ∧ D_gleberef04_Rect.WF x := by
  obtain ⟨a0, a1, a2, a3, rfl, h0, h1, h2, h3⟩ := h
  obtain ⟨e0, w0⟩ := h0
  obtain ⟨e1, w1⟩ := h1
  obtain ⟨e2, w2⟩ := h2
  obtain ⟨e3, w3⟩ := h3
  refine ⟨?_, ⟨w0, w1, w2, w3⟩⟩
  simp_all [D_gleberef04_Rect.cs]

def D_gleberef19_Call.cs (x : D_gleberef19_Call) : List Value := [.int .i64 x.seq, .bool x.win, .int .i64 x.op.kind, .int .i64 x.op.at_.x, .int .i64 x.op.at_.y, .string x.op.key, .string x.op.value, .int .i64 x.op.client, .int .i64 x.op.seq, .int .i64 x.rect.x, .int .i64 x.rect.y, .int .i64 x.rect.w, .int .i64 x.rect.h]
structure D_gleberef19_Call.WF (X : D_gleberef19_Call) : Prop where
  seq : (Lit.int .i64 X.seq).wf = true
  op : D_gleberef07_Op.WF X.op
  rect : D_gleberef04_Rect.WF X.rect
theorem D_gleberef19_Call.cells {w : World} {x : D_gleberef19_Call} {cs : List Value} (h : D_gleberef19_Call.k.K w x cs) : cs = D_gleberef19_Call.cs x ∧ D_gleberef19_Call.WF x := by
  obtain ⟨a0, a1, a2, a3, a4, a5, a6, a7, a8, a9, a10, a11, a12, rfl, h0, h1, h2, h3⟩ := h
  obtain ⟨e0, w0⟩ := h0
  have e1 := (show _ = _ from h1)
  obtain ⟨e2, w2⟩ := D_gleberef07_Op.cells h2
  obtain ⟨e3, w3⟩ := D_gleberef04_Rect.cells h3
  refine ⟨?_, ⟨w0, w2, w3⟩⟩
  simp_all [D_gleberef19_Call.cs, D_gleberef07_Op.cs, D_gleberef04_Rect.cs]

def D_gleberef07_Ans.cs (x : D_gleberef07_Ans) : List Value := [.int .i64 x.e, .bool x.found, .string x.value, .int .i64 x.ver]
structure D_gleberef07_Ans.WF (X : D_gleberef07_Ans) : Prop where
  e : (Lit.int .i64 X.e).wf = true
  value : X.value.size ≤ maxLen
  ver : (Lit.int .i64 X.ver).wf = true
theorem D_gleberef07_Ans.cells {w : World} {x : D_gleberef07_Ans} {cs : List Value} (h : D_gleberef07_Ans.k.K w x cs) : cs = D_gleberef07_Ans.cs x ∧ D_gleberef07_Ans.WF x := by
  obtain ⟨a0, a1, a2, a3, rfl, h0, h1, h2, h3⟩ := h
  obtain ⟨e0, w0⟩ := h0
  have e1 := (show _ = _ from h1)
  obtain ⟨e2, w2⟩ := h2
  obtain ⟨e3, w3⟩ := h3
  refine ⟨?_, ⟨w0, w2, w3⟩⟩
  simp_all [D_gleberef07_Ans.cs]

def D_gleberef07_Rec.cs (x : D_gleberef07_Rec) : List Value := [.int .i64 x.at_.x, .int .i64 x.at_.y, .string x.key, .string x.value, .int .i64 x.ver]
structure D_gleberef07_Rec.WF (X : D_gleberef07_Rec) : Prop where
  at_ : D_api_Point.WF X.at_
  key : X.key.size ≤ maxLen
  value : X.value.size ≤ maxLen
  ver : (Lit.int .i64 X.ver).wf = true
theorem D_gleberef07_Rec.cells {w : World} {x : D_gleberef07_Rec} {cs : List Value} (h : D_gleberef07_Rec.k.K w x cs) : cs = D_gleberef07_Rec.cs x ∧ D_gleberef07_Rec.WF x := by
  obtain ⟨a0, a1, a2, a3, a4, rfl, h0, h1, h2, h3⟩ := h
  obtain ⟨e0, w0⟩ := D_api_Point.cells h0
  obtain ⟨e1, w1⟩ := h1
  obtain ⟨e2, w2⟩ := h2
  obtain ⟨e3, w3⟩ := h3
  refine ⟨?_, ⟨w0, w1, w2, w3⟩⟩
  simp_all [D_gleberef07_Rec.cs, D_api_Point.cs]

def D_gleberef19_Result.cs (x : D_gleberef19_Result) (s0 : Value) : List Value := [.int .i64 x.call.seq, .bool x.call.win, .int .i64 x.call.op.kind, .int .i64 x.call.op.at_.x, .int .i64 x.call.op.at_.y, .string x.call.op.key, .string x.call.op.value, .int .i64 x.call.op.client, .int .i64 x.call.op.seq, .int .i64 x.call.rect.x, .int .i64 x.call.rect.y, .int .i64 x.call.rect.w, .int .i64 x.call.rect.h, .int .i64 x.e, .int .i64 x.ans.e, .bool x.ans.found, .string x.ans.value, .int .i64 x.ans.ver, s0]
structure D_gleberef19_Result.WF (X : D_gleberef19_Result) : Prop where
  call : D_gleberef19_Call.WF X.call
  e : (Lit.int .i64 X.e).wf = true
  ans : D_gleberef07_Ans.WF X.ans
theorem D_gleberef19_Result.cells {w : World} {x : D_gleberef19_Result} {cs : List Value} (h : D_gleberef19_Result.k.K w x cs) : ∃ s0, cs = D_gleberef19_Result.cs x s0 ∧ RdK D_gleberef07_Rec.k w s0 x.recs ∧ D_gleberef19_Result.WF x := by
  obtain ⟨a0, a1, a2, a3, a4, a5, a6, a7, a8, a9, a10, a11, a12, a13, a14, a15, a16, a17, a18, rfl, h0, h1, h2, h3⟩ := h
  obtain ⟨e0, w0⟩ := D_gleberef19_Call.cells h0
  obtain ⟨e1, w1⟩ := h1
  obtain ⟨e2, w2⟩ := D_gleberef07_Ans.cells h2
  obtain ⟨s0, e3, r0⟩ := h3
  refine ⟨s0, ?_, r0, ⟨w0, w1, w2⟩⟩
  simp_all [D_gleberef19_Result.cs, D_gleberef19_Call.cs, D_gleberef07_Ans.cs]

def D_glebelaw24_Act.cs (x : D_glebelaw24_Act) (s0 : Value) : List Value := [.int .i64 x.kind, .int .i64 x.node, .int .i64 x.now, .int .i64 x.r.call.seq, .bool x.r.call.win, .int .i64 x.r.call.op.kind, .int .i64 x.r.call.op.at_.x, .int .i64 x.r.call.op.at_.y, .string x.r.call.op.key, .string x.r.call.op.value, .int .i64 x.r.call.op.client, .int .i64 x.r.call.op.seq, .int .i64 x.r.call.rect.x, .int .i64 x.r.call.rect.y, .int .i64 x.r.call.rect.w, .int .i64 x.r.call.rect.h, .int .i64 x.r.e, .int .i64 x.r.ans.e, .bool x.r.ans.found, .string x.r.ans.value, .int .i64 x.r.ans.ver, s0]
structure D_glebelaw24_Act.WF (X : D_glebelaw24_Act) : Prop where
  kind : (Lit.int .i64 X.kind).wf = true
  node : (Lit.int .i64 X.node).wf = true
  now : (Lit.int .i64 X.now).wf = true
  r : D_gleberef19_Result.WF X.r
theorem D_glebelaw24_Act.cells {w : World} {x : D_glebelaw24_Act} {cs : List Value} (h : D_glebelaw24_Act.k.K w x cs) : ∃ s0, cs = D_glebelaw24_Act.cs x s0 ∧ RdK D_gleberef07_Rec.k w s0 x.r.recs ∧ D_glebelaw24_Act.WF x := by
  obtain ⟨a0, a1, a2, a3, a4, a5, a6, a7, a8, a9, a10, a11, a12, a13, a14, a15, a16, a17, a18, a19, a20, a21, rfl, h0, h1, h2, h3⟩ := h
  obtain ⟨e0, w0⟩ := h0
  obtain ⟨e1, w1⟩ := h1
  obtain ⟨e2, w2⟩ := h2
  obtain ⟨s0, e3, r0, w3⟩ := D_gleberef19_Result.cells h3
  refine ⟨s0, ?_, r0, ⟨w0, w1, w2, w3⟩⟩
  simp_all [D_glebelaw24_Act.cs, D_gleberef19_Result.cs]

/-- A row's element k, where it is seen as a slice. -/
theorem RdK.at_ {α : Type} {k : RK α} {w : World} {A : Option Addr} {n c : Nat} {l : List α} (h : RdK k w (.slice A n c) l) (j : Nat) (hj : j < l.length) : ∃ g o, A = some ⟨g, o, none⟩ ∧ g < w.heap.size ∧ n = l.length ∧ ∃ cs, cs.length = k.sz ∧ k.K w l[j] cs ∧ ∀ i u, cs[i]? = some u → w.cell? ⟨g, o + j * k.sz + i, none⟩ = some u := by
  rcases h with ⟨rfl, _⟩ | ⟨g, o, c', he, _, _, hg, hc⟩
  · cases hj
  · cases he
    obtain ⟨cs, h1, h2, h3⟩ := hc j l[j] (List.getElem?_eq_getElem hj)
    exact ⟨g, o, rfl, hg, rfl, cs, h1, h2, fun i u hu => by rw [Nat.add_assoc]; exact h3 i u hu⟩
end Go.Proofs.Ytghhmannenjchaa
