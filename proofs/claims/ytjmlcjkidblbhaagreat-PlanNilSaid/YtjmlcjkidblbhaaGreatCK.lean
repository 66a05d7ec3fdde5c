/- The structs' cells, the slices in them left as values. -/
import Derived.Test.YtjmlcjkidblbhaaGreatTY
namespace Go.Proofs.YtjmlcjkidblbhaaGreat
open Go.RowKit Go.ChangeShapes Go.WideShapes Go.Deep

theorem bools8 {l : List Bool} (h : l.length = 8) : l.map Value.bool = [.bool (l.getD 0 false), .bool (l.getD 1 false), .bool (l.getD 2 false), .bool (l.getD 3 false), .bool (l.getD 4 false), .bool (l.getD 5 false), .bool (l.getD 6 false), .bool (l.getD 7 false)] := by
  match l, h with
  | [_, _, _, _, _, _, _, _], _ => rfl

def D_api_Path.cs (x : D_api_Path) : List Value := [.int .i64 x.depth, .int .i64 x.bits]
structure D_api_Path.WF (X : D_api_Path) : Prop where
  depth : (Lit.int .i64 X.depth).wf = true
  bits : (Lit.int .i64 X.bits).wf = true
theorem D_api_Path.cells {w : World} {x : D_api_Path} {cs : List Value} (h : D_api_Path.k.K w x cs) : cs = D_api_Path.cs x ∧ D_api_Path.WF x := by
  obtain ⟨a0, a1, rfl, h0, h1⟩ := h
  obtain ⟨e0, w0⟩ := h0
  obtain ⟨e1, w1⟩ := h1
  refine ⟨?_, ⟨w0, w1⟩⟩
  simp_all [D_api_Path.cs]

def D_gleberef13_Zone.cs (x : D_gleberef13_Zone) (s0 : Value) : List Value := [.int .i64 x.path.depth, .int .i64 x.path.bits, .int .i64 x.epoch, .int .i64 x.holder, s0]
structure D_gleberef13_Zone.WF (X : D_gleberef13_Zone) : Prop where
  path : D_api_Path.WF X.path
  epoch : (Lit.int .i64 X.epoch).wf = true
  holder : (Lit.int .i64 X.holder).wf = true
theorem D_gleberef13_Zone.cells {w : World} {x : D_gleberef13_Zone} {cs : List Value} (h : D_gleberef13_Zone.k.K w x cs) : ∃ s0, cs = D_gleberef13_Zone.cs x s0 ∧ RdK (RK.int .i64) w s0 x.chain ∧ D_gleberef13_Zone.WF x := by
  obtain ⟨a0, a1, a2, a3, a4, rfl, h0, h1, h2, h3⟩ := h
  obtain ⟨e0, w0⟩ := D_api_Path.cells h0
  obtain ⟨e1, w1⟩ := h1
  obtain ⟨e2, w2⟩ := h2
  obtain ⟨s0, e3, r0⟩ := h3
  refine ⟨s0, ?_, r0, ⟨w0, w1, w2⟩⟩
  simp_all [D_gleberef13_Zone.cs, D_api_Path.cs]

/-- A row's element k, where it is seen as a slice. -/
theorem RdK.at_ {α : Type} {k : RK α} {w : World} {A : Option Addr} {n c : Nat} {l : List α} (h : RdK k w (.slice A n c) l) (j : Nat) (hj : j < l.length) : ∃ g o, A = some ⟨g, o, none⟩ ∧ g < w.heap.size ∧ n = l.length ∧ ∃ cs, cs.length = k.sz ∧ k.K w l[j] cs ∧ ∀ i u, cs[i]? = some u → w.cell? ⟨g, o + j * k.sz + i, none⟩ = some u := by
  rcases h with ⟨rfl, _⟩ | ⟨g, o, c', he, _, _, hg, hc⟩
  · cases hj
  · cases he
    obtain ⟨cs, h1, h2, h3⟩ := hc j l[j] (List.getElem?_eq_getElem hj)
    exact ⟨g, o, rfl, hg, rfl, cs, h1, h2, fun i u hu => by rw [Nat.add_assoc]; exact h3 i u hu⟩
end Go.Proofs.YtjmlcjkidblbhaaGreat
