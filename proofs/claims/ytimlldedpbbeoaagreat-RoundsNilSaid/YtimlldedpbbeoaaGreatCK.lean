/- The structs' cells, the slices in them left as values. -/
import Derived.Test.YtimlldedpbbeoaaGreatTY
namespace Go.Proofs.YtimlldedpbbeoaaGreat
open Go.RowKit Go.ChangeShapes Go.WideShapes Go.Deep

theorem bools8 {l : List Bool} (h : l.length = 8) : l.map Value.bool = [.bool (l.getD 0 false), .bool (l.getD 1 false), .bool (l.getD 2 false), .bool (l.getD 3 false), .bool (l.getD 4 false), .bool (l.getD 5 false), .bool (l.getD 6 false), .bool (l.getD 7 false)] := by
  match l, h with
  | [_, _, _, _, _, _, _, _], _ => rfl

def D_api_Point.cs (x : D_api_Point) : List Value := [.int .i64 x.x, .int .i64 x.y]
structure D_api_Point.WF (X : D_api_Point) : Prop where
  x : (Lit.int .i64 X.x).wf = true
  y : (Lit.int .i64 X.y).wf = true
theorem D_api_Point.cells {w : World} {x : D_api_Point} {cs : List Value} (h : D_api_Point.k.K w x cs) : cs = D_api_Point.cs x ∧ D_api_Point.WF x := by
  obtain ⟨a0, a1, rfl, h0, h1⟩ := h
  obtain ⟨e0, w0⟩ := h0
  obtain ⟨e1, w1⟩ := h1
  refine ⟨?_, ⟨w0, w1⟩⟩
  simp_all [D_api_Point.cs]

def D_gleberef04_Rect.cs (x : D_gleberef04_Rect) : List Value := [.int .i64 x.x, .int .i64 x.y, .int .i64 x.w, .int .i64 x.h]
structure D_gleberef04_Rect.WF (X : D_gleberef04_Rect) : Prop where
  x : (Lit.int .i64 X.x).wf = true
  y : (Lit.int .i64 X.y).wf = true
  w : (Lit.int .i64 X.w).wf = true
  h : (Lit.int .i64 X.h).wf = true
theorem D_gleberef04_Rect.cells {w : World} {x : D_gleberef04_Rect} {cs : List Value} (h : D_gleberef04_Rect.k.K w x cs) : cs = D_gleberef04_Rect.cs x ∧ D_gleberef04_Rect.WF x := by
  obtain ⟨a0, a1, a2, a3, rfl, h0, h1, h2, h3⟩ := h
  obtain ⟨e0, w0⟩ := h0
  obtain ⟨e1, w1⟩ := h1
  obtain ⟨e2, w2⟩ := h2
  obtain ⟨e3, w3⟩ := h3
  refine ⟨?_, ⟨w0, w1, w2, w3⟩⟩
  simp_all [D_gleberef04_Rect.cs]

/-- A row's element k, where it is seen as a slice. -/
theorem RdK.at_ {α : Type} {k : RK α} {w : World} {A : Option Addr} {n c : Nat} {l : List α} (h : RdK k w (.slice A n c) l) (j : Nat) (hj : j < l.length) : ∃ g o, A = some ⟨g, o, none⟩ ∧ g < w.heap.size ∧ n = l.length ∧ ∃ cs, cs.length = k.sz ∧ k.K w l[j] cs ∧ ∀ i u, cs[i]? = some u → w.cell? ⟨g, o + j * k.sz + i, none⟩ = some u := by
  rcases h with ⟨rfl, _⟩ | ⟨g, o, c', he, _, _, hg, hc⟩
  · cases hj
  · cases he
    obtain ⟨cs, h1, h2, h3⟩ := hc j l[j] (List.getElem?_eq_getElem hj)
    exact ⟨g, o, rfl, hg, rfl, cs, h1, h2, fun i u hu => by rw [Nat.add_assoc]; exact h3 i u hu⟩
end Go.Proofs.YtimlldedpbbeoaaGreat
