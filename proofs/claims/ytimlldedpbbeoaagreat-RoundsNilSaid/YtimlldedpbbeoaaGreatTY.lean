/- The structs that come in as arguments, as data: how their cells read. -/
import Derived.Test.YtimlldedpbbeoaaGreatRows
import Derived.Test.YtimlldedpbbeoaaGreatKD
namespace Go.Proofs.YtimlldedpbbeoaaGreat
open Go.RowKit Go.ChangeShapes Go.WideShapes Go.Deep

structure D_api_Point where
  x : Int
  y : Int
instance : Inhabited D_api_Point := ⟨⟨default, default⟩⟩
def D_api_Point.k : RK D_api_Point := ⟨2, fun w x cs => ∃ a0 a1, cs = [a0, a1] ∧ (RK.int .i64).K w x.x [a0] ∧ (RK.int .i64).K w x.y [a1], fun hb ⟨a0, a1, h, h0, h1⟩ => ⟨a0, a1, h, (RK.int .i64).below hb h0, (RK.int .i64).below hb h1⟩⟩
set_option maxRecDepth 100000 in
theorem D_api_Point.opens : D_api_Point.k.Opens Tryz.prog 23 := by
  refine ⟨by kernel_rfl, fun {H enc w base spare held fuel cs x} h => ?_⟩
  obtain ⟨xs, n, _, _, hlen, hxl, hg⟩ := DataW.trod_struct Tryz.underlying23 h
  have c3 : Tryz.prog.cellsOf 3 = 1 := by kernel_rfl
  have hl2 : cs.length = 2 := hlen.trans (show Tryz.prog.cellsOf 23 = 2 by kernel_rfl)
  match cs, hl2 with
  | [a0, a1], _ =>
    have hxl : xs.length = 2 := hxl
    have g0 : DataW.trod enc Tryz.prog w base spare held n 3 (List.take (Tryz.prog.cellsOf 3) (List.drop 0 [a0, a1])) = xs[0]? := hg 0 _ rfl
    rw [c3] at g0
    have e0 : DataW.trod enc Tryz.prog w base spare held n 3 [a0] = xs[0]? := g0
    obtain ⟨y0, z0⟩ := (RK.opens_int Tryz.underlying3 (by kernel_rfl)).2 (e0.trans (List.getElem?_eq_getElem (by rw [hxl]; decide)))
    have g1 : DataW.trod enc Tryz.prog w base spare held n 3 (List.take (Tryz.prog.cellsOf 3) (List.drop 1 [a0, a1])) = xs[1]? := hg 1 _ rfl
    rw [c3] at g1
    have e1 : DataW.trod enc Tryz.prog w base spare held n 3 [a1] = xs[1]? := g1
    obtain ⟨y1, z1⟩ := (RK.opens_int Tryz.underlying3 (by kernel_rfl)).2 (e1.trans (List.getElem?_eq_getElem (by rw [hxl]; decide)))
    exact ⟨⟨y0, y1⟩, a0, a1, rfl, z0, z1⟩
def D_api_Point.enc (x : D_api_Point) : List Value := [.int .i64 x.x, .int .i64 x.y]
theorem D_api_Point.flat {w : World} {x : D_api_Point} {cs : List Value} (h : D_api_Point.k.K w x cs) : cs = x.enc := by
  obtain ⟨a0, a1, rfl, h0, h1⟩ := h
  obtain ⟨e0, _⟩ := h0
  obtain ⟨e1, _⟩ := h1
  simp_all [D_api_Point.enc]

structure D_gleberef04_Rect where
  x : Int
  y : Int
  w : Int
  h : Int
instance : Inhabited D_gleberef04_Rect := ⟨⟨default, default, default, default⟩⟩
def D_gleberef04_Rect.k : RK D_gleberef04_Rect := ⟨4, fun w x cs => ∃ a0 a1 a2 a3, cs = [a0, a1, a2, a3] ∧ (RK.int .i64).K w x.x [a0] ∧ (RK.int .i64).K w x.y [a1] ∧ (RK.int .i64).K w x.w [a2] ∧ (RK.int .i64).K w x.h [a3], fun hb ⟨a0, a1, a2, a3, h, h0, h1, h2, h3⟩ => ⟨a0, a1, a2, a3, h, (RK.int .i64).below hb h0, (RK.int .i64).below hb h1, (RK.int .i64).below hb h2, (RK.int .i64).below hb h3⟩⟩
set_option maxRecDepth 100000 in
theorem D_gleberef04_Rect.opens : D_gleberef04_Rect.k.Opens Tryz.prog 25 := by
  refine ⟨by kernel_rfl, fun {H enc w base spare held fuel cs x} h => ?_⟩
  obtain ⟨xs, n, _, _, hlen, hxl, hg⟩ := DataW.trod_struct Tryz.underlying25 h
  have c3 : Tryz.prog.cellsOf 3 = 1 := by kernel_rfl
  have hl2 : cs.length = 4 := hlen.trans (show Tryz.prog.cellsOf 25 = 4 by kernel_rfl)
  match cs, hl2 with
  | [a0, a1, a2, a3], _ =>
    have hxl : xs.length = 4 := hxl
    have g0 : DataW.trod enc Tryz.prog w base spare held n 3 (List.take (Tryz.prog.cellsOf 3) (List.drop 0 [a0, a1, a2, a3])) = xs[0]? := hg 0 _ rfl
    rw [c3] at g0
    have e0 : DataW.trod enc Tryz.prog w base spare held n 3 [a0] = xs[0]? := g0
    obtain ⟨y0, z0⟩ := (RK.opens_int Tryz.underlying3 (by kernel_rfl)).2 (e0.trans (List.getElem?_eq_getElem (by rw [hxl]; decide)))
    have g1 : DataW.trod enc Tryz.prog w base spare held n 3 (List.take (Tryz.prog.cellsOf 3) (List.drop 1 [a0, a1, a2, a3])) = xs[1]? := hg 1 _ rfl
    rw [c3] at g1
    have e1 : DataW.trod enc Tryz.prog w base spare held n 3 [a1] = xs[1]? := g1
    obtain ⟨y1, z1⟩ := (RK.opens_int Tryz.underlying3 (by kernel_rfl)).2 (e1.trans (List.getElem?_eq_getElem (by rw [hxl]; decide)))
    have g2 : DataW.trod enc Tryz.prog w base spare held n 3 (List.take (Tryz.prog.cellsOf 3) (List.drop 2 [a0, a1, a2, a3])) = xs[2]? := hg 2 _ rfl
    rw [c3] at g2
    have e2 : DataW.trod enc Tryz.prog w base spare held n 3 [a2] = xs[2]? := g2
    obtain ⟨y2, z2⟩ := (RK.opens_int Tryz.underlying3 (by kernel_rfl)).2 (e2.trans (List.getElem?_eq_getElem (by rw [hxl]; decide)))
    have g3 : DataW.trod enc Tryz.prog w base spare held n 3 (List.take (Tryz.prog.cellsOf 3) (List.drop 3 [a0, a1, a2, a3])) = xs[3]? := hg 3 _ rfl
    rw [c3] at g3
    have e3 : DataW.trod enc Tryz.prog w base spare held n 3 [a3] = xs[3]? := g3
    obtain ⟨y3, z3⟩ := (RK.opens_int Tryz.underlying3 (by kernel_rfl)).2 (e3.trans (List.getElem?_eq_getElem (by rw [hxl]; decide)))
    exact ⟨⟨y0, y1, y2, y3⟩, a0, a1, a2, a3, rfl, z0, z1, z2, z3⟩
def D_gleberef04_Rect.enc (x : D_gleberef04_Rect) : List Value := [.int .i64 x.x, .int .i64 x.y, .int .i64 x.w, .int .i64 x.h]
theorem D_gleberef04_Rect.flat {w : World} {x : D_gleberef04_Rect} {cs : List Value} (h : D_gleberef04_Rect.k.K w x cs) : cs = x.enc := by
  obtain ⟨a0, a1, a2, a3, rfl, h0, h1, h2, h3⟩ := h
  obtain ⟨e0, _⟩ := h0
  obtain ⟨e1, _⟩ := h1
  obtain ⟨e2, _⟩ := h2
  obtain ⟨e3, _⟩ := h3
  simp_all [D_gleberef04_Rect.enc]

end Go.Proofs.YtimlldedpbbeoaaGreat
