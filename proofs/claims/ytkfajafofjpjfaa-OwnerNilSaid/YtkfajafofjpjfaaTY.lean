/- The structs that come in as arguments, as data: how their cells read. -/
import Derived.Test.YtkfajafofjpjfaaRows
import Derived.Test.YtkfajafofjpjfaaKD
namespace Go.Proofs.Ytkfajafofjpjfaa
open Go.RowKit Go.ChangeShapes Go.WideShapes Go.Deep

structure D_api_Path where
  depth : Int
  bits : Int
instance : Inhabited D_api_Path := ⟨⟨default, default⟩⟩
def D_api_Path.k : RK D_api_Path := ⟨2, fun w x cs => ∃ a0 a1, cs = [a0, a1] ∧ (RK.int .i64).K w x.depth [a0] ∧ (RK.int .i64).K w x.bits [a1], fun hb ⟨a0, a1, h, h0, h1⟩ => ⟨a0, a1, h, (RK.int .i64).below hb h0, (RK.int .i64).below hb h1⟩⟩
set_option maxRecDepth 100000 in
theorem D_api_Path.opens : D_api_Path.k.Opens Try.prog 44 := by
  refine ⟨by kernel_rfl, fun {H enc w base spare held fuel cs x} h => ?_⟩
  obtain ⟨xs, n, _, _, hlen, hxl, hg⟩ := DataW.trod_struct Try.underlying44 h
  have c3 : Try.prog.cellsOf 3 = 1 := by kernel_rfl
  have hl2 : cs.length = 2 := hlen.trans (show Try.prog.cellsOf 44 = 2 by kernel_rfl)
  match cs, hl2 with
  | [a0, a1], _ =>
    have hxl : xs.length = 2 := hxl
    have g0 : DataW.trod enc Try.prog w base spare held n 3 (List.take (Try.prog.cellsOf 3) (List.drop 0 [a0, a1])) = xs[0]? := hg 0 _ rfl
    rw [c3] at g0
    have e0 : DataW.trod enc Try.prog w base spare held n 3 [a0] = xs[0]? := g0
    obtain ⟨y0, z0⟩ := (RK.opens_int Try.underlying3 (by kernel_rfl)).2 (e0.trans (List.getElem?_eq_getElem (by rw [hxl]; decide)))
    have g1 : DataW.trod enc Try.prog w base spare held n 3 (List.take (Try.prog.cellsOf 3) (List.drop 1 [a0, a1])) = xs[1]? := hg 1 _ rfl
    rw [c3] at g1
    have e1 : DataW.trod enc Try.prog w base spare held n 3 [a1] = xs[1]? := g1
    obtain ⟨y1, z1⟩ := (RK.opens_int Try.underlying3 (by kernel_rfl)).2 (e1.trans (List.getElem?_eq_getElem (by rw [hxl]; decide)))
    exact ⟨⟨y0, y1⟩, a0, a1, rfl, z0, z1⟩
def D_api_Path.enc (x : D_api_Path) : List Value := [.int .i64 x.depth, .int .i64 x.bits]
theorem D_api_Path.flat {w : World} {x : D_api_Path} {cs : List Value} (h : D_api_Path.k.K w x cs) : cs = x.enc := by
  obtain ⟨a0, a1, rfl, h0, h1⟩ := h
  obtain ⟨e0, _⟩ := h0
  obtain ⟨e1, _⟩ := h1
  simp_all [D_api_Path.enc]

structure D_gleberef26_Hold where
  who : Int
  path : D_api_Path
instance : Inhabited D_gleberef26_Hold := ⟨⟨default, default⟩⟩
def D_gleberef26_Hold.k : RK D_gleberef26_Hold := ⟨3, fun w x cs => ∃ a0 a1 a2, cs = [a0, a1, a2] ∧ (RK.int .i64).K w x.who [a0] ∧ D_api_Path.k.K w x.path [a1, a2], fun hb ⟨a0, a1, a2, h, h0, h1⟩ => ⟨a0, a1, a2, h, (RK.int .i64).below hb h0, D_api_Path.k.below hb h1⟩⟩
set_option maxRecDepth 100000 in
theorem D_gleberef26_Hold.opens : D_gleberef26_Hold.k.Opens Try.prog 72 := by
  refine ⟨by kernel_rfl, fun {H enc w base spare held fuel cs x} h => ?_⟩
  obtain ⟨xs, n, _, _, hlen, hxl, hg⟩ := DataW.trod_struct Try.underlying72 h
  have c3 : Try.prog.cellsOf 3 = 1 := by kernel_rfl
  have c44 : Try.prog.cellsOf 44 = 2 := by kernel_rfl
  have hl2 : cs.length = 3 := hlen.trans (show Try.prog.cellsOf 72 = 3 by kernel_rfl)
  match cs, hl2 with
  | [a0, a1, a2], _ =>
    have hxl : xs.length = 2 := hxl
    have g0 : DataW.trod enc Try.prog w base spare held n 3 (List.take (Try.prog.cellsOf 3) (List.drop 0 [a0, a1, a2])) = xs[0]? := hg 0 _ rfl
    rw [c3] at g0
    have e0 : DataW.trod enc Try.prog w base spare held n 3 [a0] = xs[0]? := g0
    obtain ⟨y0, z0⟩ := (RK.opens_int Try.underlying3 (by kernel_rfl)).2 (e0.trans (List.getElem?_eq_getElem (by rw [hxl]; decide)))
    have g1 : DataW.trod enc Try.prog w base spare held n 44 (List.take (Try.prog.cellsOf 44) (List.drop 1 [a0, a1, a2])) = xs[1]? := hg 1 _ rfl
    rw [c44] at g1
    have e1 : DataW.trod enc Try.prog w base spare held n 44 [a1, a2] = xs[1]? := g1
    obtain ⟨y1, z1⟩ := D_api_Path.opens.2 (e1.trans (List.getElem?_eq_getElem (by rw [hxl]; decide)))
    exact ⟨⟨y0, y1⟩, a0, a1, a2, rfl, z0, z1⟩
def D_gleberef26_Hold.enc (x : D_gleberef26_Hold) : List Value := [.int .i64 x.who, .int .i64 x.path.depth, .int .i64 x.path.bits]
theorem D_gleberef26_Hold.flat {w : World} {x : D_gleberef26_Hold} {cs : List Value} (h : D_gleberef26_Hold.k.K w x cs) : cs = x.enc := by
  obtain ⟨a0, a1, a2, rfl, h0, h1⟩ := h
  obtain ⟨e0, _⟩ := h0
  have e1 := D_api_Path.flat h1
  simp_all [D_gleberef26_Hold.enc, D_api_Path.enc]

structure D_glebelaw26_Step where
  l : (List D_gleberef26_Hold)
  s : (List Bool)
instance : Inhabited D_glebelaw26_Step := ⟨⟨default, default⟩⟩
def D_glebelaw26_Step.k : RK D_glebelaw26_Step := ⟨9, fun w x cs => ∃ a0 a1 a2 a3 a4 a5 a6 a7 a8, cs = [a0, a1, a2, a3, a4, a5, a6, a7, a8] ∧ (RK.slice D_gleberef26_Hold.k).K w x.l [a0] ∧ (RK.bools 8).K w x.s [a1, a2, a3, a4, a5, a6, a7, a8], fun hb ⟨a0, a1, a2, a3, a4, a5, a6, a7, a8, h, h0, h1⟩ => ⟨a0, a1, a2, a3, a4, a5, a6, a7, a8, h, (RK.slice D_gleberef26_Hold.k).below hb h0, (RK.bools 8).below hb h1⟩⟩
set_option maxRecDepth 100000 in
theorem D_glebelaw26_Step.opens : D_glebelaw26_Step.k.Opens Try.prog 38 := by
  refine ⟨by kernel_rfl, fun {H enc w base spare held fuel cs x} h => ?_⟩
  obtain ⟨xs, n, _, _, hlen, hxl, hg⟩ := DataW.trod_struct Try.underlying38 h
  have c34 : Try.prog.cellsOf 34 = 1 := by kernel_rfl
  have c36 : Try.prog.cellsOf 36 = 8 := by kernel_rfl
  have hl2 : cs.length = 9 := hlen.trans (show Try.prog.cellsOf 38 = 9 by kernel_rfl)
  match cs, hl2 with
  | [a0, a1, a2, a3, a4, a5, a6, a7, a8], _ =>
    have hxl : xs.length = 2 := hxl
    have g0 : DataW.trod enc Try.prog w base spare held n 34 (List.take (Try.prog.cellsOf 34) (List.drop 0 [a0, a1, a2, a3, a4, a5, a6, a7, a8])) = xs[0]? := hg 0 _ rfl
    rw [c34] at g0
    have e0 : DataW.trod enc Try.prog w base spare held n 34 [a0] = xs[0]? := g0
    obtain ⟨y0, z0⟩ := (RK.opens_slice Try.underlying34 (by kernel_rfl) D_gleberef26_Hold.opens (by decide)).2 (e0.trans (List.getElem?_eq_getElem (by rw [hxl]; decide)))
    have g1 : DataW.trod enc Try.prog w base spare held n 36 (List.take (Try.prog.cellsOf 36) (List.drop 1 [a0, a1, a2, a3, a4, a5, a6, a7, a8])) = xs[1]? := hg 1 _ rfl
    rw [c36] at g1
    have e1 : DataW.trod enc Try.prog w base spare held n 36 [a1, a2, a3, a4, a5, a6, a7, a8] = xs[1]? := g1
    obtain ⟨y1, z1⟩ := (RK.opens_bools Try.underlying36 Try.underlying4 (by kernel_rfl) (by kernel_rfl)).2 (e1.trans (List.getElem?_eq_getElem (by rw [hxl]; decide)))
    exact ⟨⟨y0, y1⟩, a0, a1, a2, a3, a4, a5, a6, a7, a8, rfl, z0, z1⟩

structure D_api_Point where
  x : Int
  y : Int
instance : Inhabited D_api_Point := ⟨⟨default, default⟩⟩
def D_api_Point.k : RK D_api_Point := ⟨2, fun w x cs => ∃ a0 a1, cs = [a0, a1] ∧ (RK.int .i64).K w x.x [a0] ∧ (RK.int .i64).K w x.y [a1], fun hb ⟨a0, a1, h, h0, h1⟩ => ⟨a0, a1, h, (RK.int .i64).below hb h0, (RK.int .i64).below hb h1⟩⟩
set_option maxRecDepth 100000 in
theorem D_api_Point.opens : D_api_Point.k.Opens Try.prog 24 := by
  refine ⟨by kernel_rfl, fun {H enc w base spare held fuel cs x} h => ?_⟩
  obtain ⟨xs, n, _, _, hlen, hxl, hg⟩ := DataW.trod_struct Try.underlying24 h
  have c3 : Try.prog.cellsOf 3 = 1 := by kernel_rfl
  have hl2 : cs.length = 2 := hlen.trans (show Try.prog.cellsOf 24 = 2 by kernel_rfl)
  match cs, hl2 with
  | [a0, a1], _ =>
    have hxl : xs.length = 2 := hxl
    have g0 : DataW.trod enc Try.prog w base spare held n 3 (List.take (Try.prog.cellsOf 3) (List.drop 0 [a0, a1])) = xs[0]? := hg 0 _ rfl
    rw [c3] at g0
    have e0 : DataW.trod enc Try.prog w base spare held n 3 [a0] = xs[0]? := g0
    obtain ⟨y0, z0⟩ := (RK.opens_int Try.underlying3 (by kernel_rfl)).2 (e0.trans (List.getElem?_eq_getElem (by rw [hxl]; decide)))
    have g1 : DataW.trod enc Try.prog w base spare held n 3 (List.take (Try.prog.cellsOf 3) (List.drop 1 [a0, a1])) = xs[1]? := hg 1 _ rfl
    rw [c3] at g1
    have e1 : DataW.trod enc Try.prog w base spare held n 3 [a1] = xs[1]? := g1
    obtain ⟨y1, z1⟩ := (RK.opens_int Try.underlying3 (by kernel_rfl)).2 (e1.trans (List.getElem?_eq_getElem (by rw [hxl]; decide)))
    exact ⟨⟨y0, y1⟩, a0, a1, rfl, z0, z1⟩
def D_api_Point.enc (x : D_api_Point) : List Value := [.int .i64 x.x, .int .i64 x.y]
theorem D_api_Point.flat {w : World} {x : D_api_Point} {cs : List Value} (h : D_api_Point.k.K w x cs) : cs = x.enc := by
  obtain ⟨a0, a1, rfl, h0, h1⟩ := h
  obtain ⟨e0, _⟩ := h0
  obtain ⟨e1, _⟩ := h1
  simp_all [D_api_Point.enc]

end Go.Proofs.Ytkfajafofjpjfaa
