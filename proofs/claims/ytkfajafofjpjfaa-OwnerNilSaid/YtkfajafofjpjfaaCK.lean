/- The structs' cells, the slices in them left as values. -/
import Derived.Test.YtkfajafofjpjfaaTY
namespace Go.Proofs.Ytkfajafofjpjfaa
open Go.RowKit Go.ChangeShapes Go.WideShapes Go.Deep

theorem bools8 {l : List Bool} (h : l.length = 8) : l.map Value.bool = [.bool (l.getD 0 false), .bool (l.getD 1 false), .bool (l.getD 2 false), .bool (l.getD 3 false), .bool (l.getD 4 false), .bool (l.getD 5 false), .bool (l.getD 6 false), .bool (l.getD 7 false)] := by
  match l, h with
  | [_, _, _, _, _, _, _, _], _ => rfl

def D_api_Path.cs (x : D_api_Path) : List Value := [.int .i64 x.depth, .int .i64 x.bits]
structure D_api_Path.WF (X : D_api_Path) : Prop where
  depth : (Lit.int .i64 X.depth).wf = true
  bits : (Lit.int .i64 X.bits).wf = true
theorem D_api_Path.cells {w : World} {x : D_api_Path} {cs : List Value} (h : D_api_Path.k.K w x cs) : cs = D_api_Path.cs x ∧ D_api_Path.WF x := by
  obtain ⟨a0, a1, rfl, h0, h1⟩ := h
  obtain ⟨e0, w0⟩ := h0
  obtain ⟨e1, w1⟩ := h1
  refine ⟨?_, ⟨w0, w1⟩⟩
  simp_all [D_api_Path.cs]

def D_gleberef26_Hold.cs (x : D_gleberef26_Hold) : List Value := [.int .i64 x.who, .int .i64 x.path.depth, .int .i64 x.path.bits]
structure D_gleberef26_Hold.WF (X : D_gleberef26_Hold) : Prop where
  who : (Lit.int .i64 X.who).wf = true
  path : D_api_Path.WF X.path
theorem D_gleberef26_Hold.cells {w : World} {x : D_gleberef26_Hold} {cs : List Value} (h : D_gleberef26_Hold.k.K w x cs) : cs = D_gleberef26_Hold.cs x ∧ D_gleberef26_Hold.WF x := by
  obtain ⟨a0, a1, a2, rfl, h0, h1⟩ := h
  obtain ⟨e0, w0⟩ := h0
  obtain ⟨e1, w1⟩ := D_api_Path.cells h1
  refine ⟨?_, ⟨w0, w1⟩⟩
  simp_all [D_gleberef26_Hold.cs, D_api_Path.cs]

def D_glebelaw26_Step.cs (x : D_glebelaw26_Step) (s0 : Value) : List Value := [s0, .bool (x.s.getD 0 false), .bool (x.s.getD 1 false), .bool (x.s.getD 2 false), .bool (x.s.getD 3 false), .bool (x.s.getD 4 false), .bool (x.s.getD 5 false), .bool (x.s.getD 6 false), .bool (x.s.getD 7 false)]
structure D_glebelaw26_Step.WF (X : D_glebelaw26_Step) : Prop where
  triv : True
theorem D_glebelaw26_Step.cells {w : World} {x : D_glebelaw26_Step} {cs : List Value} (h : D_glebelaw26_Step.k.K w x cs) : ∃ s0, cs = D_glebelaw26_Step.cs x s0 ∧ RdK D_gleberef26_Hold.k w s0 x.l ∧ D_glebelaw26_Step.WF x := by
  obtain ⟨a0, a1, a2, a3, a4, a5, a6, a7, a8, rfl, h0, h1⟩ := h
  obtain ⟨s0, e0, r0⟩ := h0
  have e1 := h1.2.trans (bools8 h1.1)
  refine ⟨s0, ?_, r0, ⟨trivial⟩⟩
  simp_all [D_glebelaw26_Step.cs]

def D_api_Point.cs (x : D_api_Point) : List Value := [.int .i64 x.x, .int .i64 x.y]
structure D_api_Point.WF (X : D_api_Point) : Prop where
  x : (Lit.int .i64 X.x).wf = true
  y : (Lit.int .i64 X.y).wf = true
theorem D_api_Point.cells {w : World} {x : D_api_Point} {cs : List Value} (h : D_api_Point.k.K w x cs) : cs = D_api_Point.cs x ∧ D_api_Point.WF x := by
  obtain ⟨a0, a1, rfl, h0, h1⟩ := h
  obtain ⟨e0, w0⟩ := h0
  obtain ⟨e1, w1⟩ := h1
  refine ⟨?_, ⟨w0, w1⟩⟩
  simp_all [D_api_Point.cs]

/-- A row's element k, where it is seen as a slice. -/
theorem RdK.at_ {α : Type} {k : RK α} {w : World} {A : Option Addr} {n c : Nat} {l : List α} (h : RdK k w (.slice A n c) l) (j : Nat) (hj : j < l.length) : ∃ g o, A = some ⟨g, o, none⟩ ∧ g < w.heap.size ∧ n = l.length ∧ ∃ cs, cs.length = k.sz ∧ k.K w l[j] cs ∧ ∀ i u, cs[i]? = some u → w.cell? ⟨g, o + j * k.sz + i, none⟩ = some u := by
  rcases h with ⟨rfl, _⟩ | ⟨g, o, c', he, _, _, hg, hc⟩
  · cases hj
  · cases he
    obtain ⟨cs, h1, h2, h3⟩ := hc j l[j] (List.getElem?_eq_getElem hj)
    exact ⟨g, o, rfl, hg, rfl, cs, h1, h2, fun i u hu => by rw [Nat.add_assoc]; exact h3 i u hu⟩
end Go.Proofs.Ytkfajafofjpjfaa
