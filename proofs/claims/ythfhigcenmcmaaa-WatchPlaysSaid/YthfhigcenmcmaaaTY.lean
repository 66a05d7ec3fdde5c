/- The structs that come in as arguments, as data: how their cells read. -/
import Derived.Test.YthfhigcenmcmaaaRows
import Derived.Test.YthfhigcenmcmaaaKD
namespace Go.Proofs.Ythfhigcenmcmaaa
open Go.RowKit Go.ChangeShapes Go.WideShapes Go.Deep

structure D_glebelaw21_Act where
  kind : Int
  a : Int
  b : Int
  n : Int
  most : Int
instance : Inhabited D_glebelaw21_Act := ⟨⟨default, default, default, default, default⟩⟩
def D_glebelaw21_Act.k : RK D_glebelaw21_Act := ⟨5, fun w x cs => ∃ a0 a1 a2 a3 a4, cs = [a0, a1, a2, a3, a4] ∧ (RK.int .i64).K w x.kind [a0] ∧ (RK.int .i64).K w x.a [a1] ∧ (RK.int .i64).K w x.b [a2] ∧ (RK.int .i64).K w x.n [a3] ∧ (RK.int .i64).K w x.most [a4], fun hb ⟨a0, a1, a2, a3, a4, h, h0, h1, h2, h3, h4⟩ => ⟨a0, a1, a2, a3, a4, h, (RK.int .i64).below hb h0, (RK.int .i64).below hb h1, (RK.int .i64).below hb h2, (RK.int .i64).below hb h3, (RK.int .i64).below hb h4⟩⟩
theorem D_glebelaw21_Act.opens : D_glebelaw21_Act.k.Opens Try.prog 30 := by
  refine ⟨by kernel_rfl, fun {H enc w base spare held fuel cs x} h => ?_⟩
  obtain ⟨xs, n, _, _, hlen, hxl, hg⟩ := DataW.trod_struct Try.underlying30 h
  have c3 : Try.prog.cellsOf 3 = 1 := by kernel_rfl
  match cs, hlen.trans (show Try.prog.cellsOf 30 = 5 by kernel_rfl) with
  | [a0, a1, a2, a3, a4], _ =>
    have hxl : xs.length = 5 := hxl
    have g0 : DataW.trod enc Try.prog w base spare held n 3 (List.take (Try.prog.cellsOf 3) (List.drop 0 [a0, a1, a2, a3, a4])) = xs[0]? := hg 0 _ rfl
    rw [c3] at g0
    have e0 : DataW.trod enc Try.prog w base spare held n 3 [a0] = xs[0]? := g0
    obtain ⟨y0, z0⟩ := (RK.opens_int Try.underlying3 (by kernel_rfl)).2 (e0.trans (List.getElem?_eq_getElem (by rw [hxl]; decide)))
    have g1 : DataW.trod enc Try.prog w base spare held n 3 (List.take (Try.prog.cellsOf 3) (List.drop 1 [a0, a1, a2, a3, a4])) = xs[1]? := hg 1 _ rfl
    rw [c3] at g1
    have e1 : DataW.trod enc Try.prog w base spare held n 3 [a1] = xs[1]? := g1
    obtain ⟨y1, z1⟩ := (RK.opens_int Try.underlying3 (by kernel_rfl)).2 (e1.trans (List.getElem?_eq_getElem (by rw [hxl]; decide)))
    have g2 : DataW.trod enc Try.prog w base spare held n 3 (List.take (Try.prog.cellsOf 3) (List.drop 2 [a0, a1, a2, a3, a4])) = xs[2]? := hg 2 _ rfl
    rw [c3] at g2
    have e2 : DataW.trod enc Try.prog w base spare held n 3 [a2] = xs[2]? := g2
    obtain ⟨y2, z2⟩ := (RK.opens_int Try.underlying3 (by kernel_rfl)).2 (e2.trans (List.getElem?_eq_getElem (by rw [hxl]; decide)))
    have g3 : DataW.trod enc Try.prog w base spare held n 3 (List.take (Try.prog.cellsOf 3) (List.drop 3 [a0, a1, a2, a3, a4])) = xs[3]? := hg 3 _ rfl
    rw [c3] at g3
    have e3 : DataW.trod enc Try.prog w base spare held n 3 [a3] = xs[3]? := g3
    obtain ⟨y3, z3⟩ := (RK.opens_int Try.underlying3 (by kernel_rfl)).2 (e3.trans (List.getElem?_eq_getElem (by rw [hxl]; decide)))
    have g4 : DataW.trod enc Try.prog w base spare held n 3 (List.take (Try.prog.cellsOf 3) (List.drop 4 [a0, a1, a2, a3, a4])) = xs[4]? := hg 4 _ rfl
    rw [c3] at g4
    have e4 : DataW.trod enc Try.prog w base spare held n 3 [a4] = xs[4]? := g4
    obtain ⟨y4, z4⟩ := (RK.opens_int Try.underlying3 (by kernel_rfl)).2 (e4.trans (List.getElem?_eq_getElem (by rw [hxl]; decide)))
    exact ⟨⟨y0, y1, y2, y3, y4⟩, a0, a1, a2, a3, a4, rfl, z0, z1, z2, z3, z4⟩
def D_glebelaw21_Act.enc (x : D_glebelaw21_Act) : List Value := [.int .i64 x.kind, .int .i64 x.a, .int .i64 x.b, .int .i64 x.n, .int .i64 x.most]
theorem D_glebelaw21_Act.flat {w : World} {x : D_glebelaw21_Act} {cs : List Value} (h : D_glebelaw21_Act.k.K w x cs) : cs = x.enc := by
  obtain ⟨a0, a1, a2, a3, a4, rfl, h0, h1, h2, h3, h4⟩ := h
  obtain ⟨e0, _⟩ := h0
  obtain ⟨e1, _⟩ := h1
  obtain ⟨e2, _⟩ := h2
  obtain ⟨e3, _⟩ := h3
  obtain ⟨e4, _⟩ := h4
  simp_all [D_glebelaw21_Act.enc]

end Go.Proofs.Ythfhigcenmcmaaa
