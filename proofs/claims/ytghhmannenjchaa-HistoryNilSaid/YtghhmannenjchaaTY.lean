/- The structs that come in as arguments, as data: how their cells read. -/
import Derived.Test.YtghhmannenjchaaRows
import Derived.Test.YtghhmannenjchaaKD
namespace Go.Proofs.Ytghhmannenjchaa
open Go.RowKit Go.ChangeShapes Go.WideShapes Go.Deep

structure D_api_Point where
  x : Int
  y : Int
instance : Inhabited D_api_Point := ⟨⟨default, default⟩⟩
def D_api_Point.k : RK D_api_Point := ⟨2, fun w x cs => ∃ a0 a1, cs = [a0, a1] ∧ (RK.int .i64).K w x.x [a0] ∧ (RK.int .i64).K w x.y [a1], fun hb ⟨a0, a1, h, h0, h1⟩ => ⟨a0, a1, h, (RK.int .i64).below hb h0, (RK.int .i64).below hb h1⟩⟩
set_option maxRecDepth 100000 in
theorem D_api_Point.opens : D_api_Point.k.Opens Try.prog 24 := by
  refine ⟨by kernel_rfl, fun {H enc w base spare held fuel cs x} h => ?_⟩
  obtain ⟨xs, n, _, _, hlen, hxl, hg⟩ := DataW.trod_struct Try.underlying24 h
  have c3 : Try.prog.cellsOf 3 = 1 := by kernel_rfl
  have hl2 : cs.length = 2 := hlen.trans (show Try.prog.cellsOf 24 = 2 by kernel_rfl)
  match cs, hl2 with
  | [a0, a1], _ =>
    have hxl : xs.length = 2 := hxl
    have g0 : DataW.trod enc Try.prog w base spare held n 3 (List.take (Try.prog.cellsOf 3) (List.drop 0 [a0, a1])) = xs[0]? := hg 0 _ rfl
    rw [c3] at g0
    have e0 : DataW.trod enc Try.prog w base spare held n 3 [a0] = xs[0]? := g0
    obtain ⟨y0, z0⟩ := (RK.opens_int Try.underlying3 (by kernel_rfl)).2 (e0.trans (List.getElem?_eq_getElem (by rw [hxl]; decide)))
    have g1 : DataW.trod enc Try.prog w base spare held n 3 (List.take (Try.prog.cellsOf 3) (List.drop 1 [a0, a1])) = xs[1]? := hg 1 _ rfl
    rw [c3] at g1
    have e1 : DataW.trod enc Try.prog w base spare held n 3 [a1] = xs[1]? := g1
    obtain ⟨y1, z1⟩ := (RK.opens_int Try.underlying3 (by kernel_rfl)).2 (e1.trans (List.getElem?_eq_getElem (by rw [hxl]; decide)))
    exact ⟨⟨y0, y1⟩, a0, a1, rfl, z0, z1⟩
def D_api_Point.enc (x : D_api_Point) : List Value := [.int .i64 x.x, .int .i64 x.y]
theorem D_api_Point.flat {w : World} {x : D_api_Point} {cs : List Value} (h : D_api_Point.k.K w x cs) : cs = x.enc := by
  obtain ⟨a0, a1, rfl, h0, h1⟩ := h
  obtain ⟨e0, _⟩ := h0
  obtain ⟨e1, _⟩ := h1
  simp_all [D_api_Point.enc]

structure D_gleberef07_Op where
  kind : Int
  at_ : D_api_Point
  key : ByteArray
  value : ByteArray
  client : Int
  seq : Int
instance : Inhabited D_gleberef07_Op := ⟨⟨default, default, default, default, default, default⟩⟩
def D_gleberef07_Op.k : RK D_gleberef07_Op := ⟨7, fun w x cs => ∃ a0 a1 a2 a3 a4 a5 a6, cs = [a0, a1, a2, a3, a4, a5, a6] ∧ (RK.int .i64).K w x.kind [a0] ∧ D_api_Point.k.K w x.at_ [a1, a2] ∧ RK.string.K w x.key [a3] ∧ RK.string.K w x.value [a4] ∧ (RK.int .i64).K w x.client [a5] ∧ (RK.int .i64).K w x.seq [a6], fun hb ⟨a0, a1, a2, a3, a4, a5, a6, h, h0, h1, h2, h3, h4, h5⟩ => ⟨a0, a1, a2, a3, a4, a5, a6, h, (RK.int .i64).below hb h0, D_api_Point.k.below hb h1, RK.string.below hb h2, RK.string.below hb h3, (RK.int .i64).below hb h4, (RK.int .i64).below hb h5⟩⟩
set_option maxRecDepth 100000 in
theorem D_gleberef07_Op.opens : D_gleberef07_Op.k.Opens Try.prog 33 := by
  refine ⟨by kernel_rfl, fun {H enc w base spare held fuel cs x} h => ?_⟩
  obtain ⟨xs, n, _, _, hlen, hxl, hg⟩ := DataW.trod_struct Try.underlying33 h
  have c3 : Try.prog.cellsOf 3 = 1 := by kernel_rfl
  have c9 : Try.prog.cellsOf 9 = 1 := by kernel_rfl
  have c24 : Try.prog.cellsOf 24 = 2 := by kernel_rfl
  have hl2 : cs.length = 7 := hlen.trans (show Try.prog.cellsOf 33 = 7 by kernel_rfl)
  match cs, hl2 with
  | [a0, a1, a2, a3, a4, a5, a6], _ =>
    have hxl : xs.length = 6 := hxl
    have g0 : DataW.trod enc Try.prog w base spare held n 3 (List.take (Try.prog.cellsOf 3) (List.drop 0 [a0, a1, a2, a3, a4, a5, a6])) = xs[0]? := hg 0 _ rfl
    rw [c3] at g0
    have e0 : DataW.trod enc Try.prog w base spare held n 3 [a0] = xs[0]? := g0
    obtain ⟨y0, z0⟩ := (RK.opens_int Try.underlying3 (by kernel_rfl)).2 (e0.trans (List.getElem?_eq_getElem (by rw [hxl]; decide)))
    have g1 : DataW.trod enc Try.prog w base spare held n 24 (List.take (Try.prog.cellsOf 24) (List.drop 1 [a0, a1, a2, a3, a4, a5, a6])) = xs[1]? := hg 1 _ rfl
    rw [c24] at g1
    have e1 : DataW.trod enc Try.prog w base spare held n 24 [a1, a2] = xs[1]? := g1
    obtain ⟨y1, z1⟩ := D_api_Point.opens.2 (e1.trans (List.getElem?_eq_getElem (by rw [hxl]; decide)))
    have g2 : DataW.trod enc Try.prog w base spare held n 9 (List.take (Try.prog.cellsOf 9) (List.drop 3 [a0, a1, a2, a3, a4, a5, a6])) = xs[2]? := hg 2 _ rfl
    rw [c9] at g2
    have e2 : DataW.trod enc Try.prog w base spare held n 9 [a3] = xs[2]? := g2
    obtain ⟨y2, z2⟩ := (RK.opens_string Try.underlying9 (by kernel_rfl)).2 (e2.trans (List.getElem?_eq_getElem (by rw [hxl]; decide)))
    have g3 : DataW.trod enc Try.prog w base spare held n 9 (List.take (Try.prog.cellsOf 9) (List.drop 4 [a0, a1, a2, a3, a4, a5, a6])) = xs[3]? := hg 3 _ rfl
    rw [c9] at g3
    have e3 : DataW.trod enc Try.prog w base spare held n 9 [a4] = xs[3]? := g3
    obtain ⟨y3, z3⟩ := (RK.opens_string Try.underlying9 (by kernel_rfl)).2 (e3.trans (List.getElem?_eq_getElem (by rw [hxl]; decide)))
    have g4 : DataW.trod enc Try.prog w base spare held n 3 (List.take (Try.prog.cellsOf 3) (List.drop 5 [a0, a1, a2, a3, a4, a5, a6])) = xs[4]? := hg 4 _ rfl
    rw [c3] at g4
    have e4 : DataW.trod enc Try.prog w base spare held n 3 [a5] = xs[4]? := g4
    obtain ⟨y4, z4⟩ := (RK.opens_int Try.underlying3 (by kernel_rfl)).2 (e4.trans (List.getElem?_eq_getElem (by rw [hxl]; decide)))
    have g5 : DataW.trod enc Try.prog w base spare held n 3 (List.take (Try.prog.cellsOf 3) (List.drop 6 [a0, a1, a2, a3, a4, a5, a6])) = xs[5]? := hg 5 _ rfl
    rw [c3] at g5
    have e5 : DataW.trod enc Try.prog w base spare held n 3 [a6] = xs[5]? := g5
    obtain ⟨y5, z5⟩ := (RK.opens_int Try.underlying3 (by kernel_rfl)).2 (e5.trans (List.getElem?_eq_getElem (by rw [hxl]; decide)))
    exact ⟨⟨y0, y1, y2, y3, y4, y5⟩, a0, a1, a2, a3, a4, a5, a6, rfl, z0, z1, z2, z3, z4, z5⟩
def D_gleberef07_Op.enc (x : D_gleberef07_Op) : List Value := [.int .i64 x.kind, .int .i64 x.at_.x, .int .i64 x.at_.y, .string x.key, .string x.value, .int .i64 x.client, .int .i64 x.seq]
theorem D_gleberef07_Op.flat {w : World} {x : D_gleberef07_Op} {cs : List Value} (h : D_gleberef07_Op.k.K w x cs) : cs = x.enc := by
  obtain ⟨a0, a1, a2, a3, a4, a5, a6, rfl, h0, h1, h2, h3, h4, h5⟩ := h
  obtain ⟨e0, _⟩ := h0
  have e1 := D_api_Point.flat h1
  obtain ⟨e2, _⟩ := h2
  obtain ⟨e3, _⟩ := h3
  obtain ⟨e4, _⟩ := h4
  obtain ⟨e5, _⟩ := h5
  simp_all [D_gleberef07_Op.enc, D_api_Point.enc]

structure D_gleberef04_Rect where
  x : Int
  y : Int
  w : Int
  h : Int
instance : Inhabited D_gleberef04_Rect := ⟨⟨default, default, default, default⟩⟩
def D_gleberef04_Rect.k : RK D_gleberef04_Rect := ⟨4, fun w x cs => ∃ a0 a1 a2 a3, cs = [a0, a1, a2, a3] ∧ (RK.int .i64).K w x.x [a0] ∧ (RK.int .i64).K w x.y [a1] ∧ (RK.int .i64).K w x.w [a2] ∧ (RK.int .i64).K w x.h [a3], fun hb ⟨a0, a1, a2, a3, h, h0, h1, h2, h3⟩ => ⟨a0, a1, a2, a3, h, (RK.int .i64).below hb h0, (RK.int .i64).below hb h1, (RK.int .i64).below hb h2, (RK.int .i64).below hb h3⟩⟩
set_option maxRecDepth 100000 in
theorem D_gleberef04_Rect.opens : D_gleberef04_Rect.k.Opens Try.prog 35 := by
  refine ⟨by kernel_rfl, fun {H enc w base spare held fuel cs x} h => ?_⟩
  obtain ⟨xs, n, _, _, hlen, hxl, hg⟩ := DataW.trod_struct Try.underlying35 h
  have c3 : Try.prog.cellsOf 3 = 1 := by kernel_rfl
  have hl2 : cs.length = 4 := hlen.trans (show Try.prog.cellsOf 35 = 4 by kernel_rfl)
  match cs, hl2 with
  | [a0, a1, a2, a3], _ =>
    have hxl : xs.length = 4 := hxl
    have g0 : DataW.trod enc Try.prog w base spare held n 3 (List.take (Try.prog.cellsOf 3) (List.drop 0 [a0, a1, a2, a3])) = xs[0]? := hg 0 _ rfl
    rw [c3] at g0
    have e0 : DataW.trod enc Try.prog w base spare held n 3 [a0] = xs[0]? := g0
    obtain ⟨y0, z0⟩ := (RK.opens_int Try.underlying3 (by kernel_rfl)).2 (e0.trans (List.getElem?_eq_getElem (by rw [hxl]; decide)))
    have g1 : DataW.trod enc Try.prog w base spare held n 3 (List.take (Try.prog.cellsOf 3) (List.drop 1 [a0, a1, a2, a3])) = xs[1]? := hg 1 _ rfl
    rw [c3] at g1
    have e1 : DataW.trod enc Try.prog w base spare held n 3 [a1] = xs[1]? := g1
    obtain ⟨y1, z1⟩ := (RK.opens_int Try.underlying3 (by kernel_rfl)).2 (e1.trans (List.getElem?_eq_getElem (by rw [hxl]; decide)))
    have g2 : DataW.trod enc Try.prog w base spare held n 3 (List.take (Try.prog.cellsOf 3) (List.drop 2 [a0, a1, a2, a3])) = xs[2]? := hg 2 _ rfl
    rw [c3] at g2
    have e2 : DataW.trod enc Try.prog w base spare held n 3 [a2] = xs[2]? := g2
    obtain ⟨y2, z2⟩ := (RK.opens_int Try.underlying3 (by kernel_rfl)).2 (e2.trans (List.getElem?_eq_getElem (by rw [hxl]; decide)))
    have g3 : DataW.trod enc Try.prog w base spare held n 3 (List.take (Try.prog.cellsOf 3) (List.drop 3 [a0, a1, a2, a3])) = xs[3]? := hg 3 _ rfl
    rw [c3] at g3
    have e3 : DataW.trod enc Try.prog w base spare held n 3 [a3] = xs[3]? := g3
    obtain ⟨y3, z3⟩ := (RK.opens_int Try.underlying3 (by kernel_rfl)).2 (e3.trans (List.getElem?_eq_getElem (by rw [hxl]; decide)))
    exact ⟨⟨y0, y1, y2, y3⟩, a0, a1, a2, a3, rfl, z0, z1, z2, z3⟩
def D_gleberef04_Rect.enc (x : D_gleberef04_Rect) : List Value := [.int .i64 x.x, .int .i64 x.y, .int .i64 x.w, .int .i64 x.h]
theorem D_gleberef04_Rect.flat {w : World} {x : D_gleberef04_Rect} {cs : List Value} (h : D_gleberef04_Rect.k.K w x cs) : cs = x.enc := by
  obtain ⟨a0, a1, a2, a3, rfl, h0, h1, h2, h3⟩ := h
  obtain ⟨e0, _⟩ := h0
  obtain ⟨e1, _⟩ := h1
  obtain ⟨e2, _⟩ := h2
  obtain ⟨e3, _⟩ := h3
  simp_all [D_gleberef04_Rect.enc]

structure D_gleberef19_Call where
  seq : Int
  win : Bool
  op : D_gleberef07_Op
  rect : D_gleberef04_Rect
instance : Inhabited D_gleberef19_Call := ⟨⟨default, default, default, default⟩⟩
def D_gleberef19_Call.k : RK D_gleberef19_Call := ⟨13, fun w x cs => ∃ a0 a1 a2 a3 a4 a5 a6 a7 a8 a9 a10 a11 a12, cs = [a0, a1, a2, a3, a4, a5, a6, a7, a8, a9, a10, a11, a12] ∧ (RK.int .i64).K w x.seq [a0] ∧ RK.bool.K w x.win [a1] ∧ D_gleberef07_Op.k.K w x.op [a2, a3, a4, a5, a6, a7, a8] ∧ D_gleberef04_Rect.k.K w x.rect [a9, a10, a11, a12], fun hb ⟨a0, a1, a2, a3, a4, a5, a6, a7, a8, a9, a10, a11, a12, h, h0, h1, h2, h3⟩ => ⟨a0, a1, a2, a3, a4, a5, a6, a7, a8, a9, a10, a11, a12, h, (RK.int .i64).below hb h0, RK.bool.below hb h1, D_gleberef07_Op.k.below hb h2, D_gleberef04_Rect.k.below hb h3⟩⟩
set_option maxRecDepth 100000 in
theorem D_gleberef19_Call.opens : D_gleberef19_Call.k.Opens Try.prog 37 := by
  refine ⟨by kernel_rfl, fun {H enc w base spare held fuel cs x} h => ?_⟩
  obtain ⟨xs, n, _, _, hlen, hxl, hg⟩ := DataW.trod_struct Try.underlying37 h
  have c3 : Try.prog.cellsOf 3 = 1 := by kernel_rfl
  have c4 : Try.prog.cellsOf 4 = 1 := by kernel_rfl
  have c33 : Try.prog.cellsOf 33 = 7 := by kernel_rfl
  have c35 : Try.prog.cellsOf 35 = 4 := by kernel_rfl
  have hl2 : cs.length = 13 := hlen.trans (show Try.prog.cellsOf 37 = 13 by kernel_rfl)
  match cs, hl2 with
  | [a0, a1, a2, a3, a4, a5, a6, a7, a8, a9, a10, a11, a12], _ =>
    have hxl : xs.length = 4 := hxl
    have g0 : DataW.trod enc Try.prog w base spare held n 3 (List.take (Try.prog.cellsOf 3) (List.drop 0 [a0, a1, a2, a3, a4, a5, a6, a7, a8, a9, a10, a11, a12])) = xs[0]? := hg 0 _ rfl
    rw [c3] at g0
    have e0 : DataW.trod enc Try.prog w base spare held n 3 [a0] = xs[0]? := g0
    obtain ⟨y0, z0⟩ := (RK.opens_int Try.underlying3 (by kernel_rfl)).2 (e0.trans (List.getElem?_eq_getElem (by rw [hxl]; decide)))
    have g1 : DataW.trod enc Try.prog w base spare held n 4 (List.take (Try.prog.cellsOf 4) (List.drop 1 [a0, a1, a2, a3, a4, a5, a6, a7, a8, a9, a10, a11, a12])) = xs[1]? := hg 1 _ rfl
    rw [c4] at g1
    have e1 : DataW.trod enc Try.prog w base spare held n 4 [a1] = xs[1]? := g1
    obtain ⟨y1, z1⟩ := (RK.opens_bool Try.underlying4 (by kernel_rfl)).2 (e1.trans (List.getElem?_eq_getElem (by rw [hxl]; decide)))
    have g2 : DataW.trod enc Try.prog w base spare held n 33 (List.take (Try.prog.cellsOf 33) (List.drop 2 [a0, a1, a2, a3, a4, a5, a6, a7, a8, a9, a10, a11, a12])) = xs[2]? := hg 2 _ rfl
    rw [c33] at g2
    have e2 : DataW.trod enc Try.prog w base spare held n 33 [a2, a3, a4, a5, a6, a7, a8] = xs[2]? := g2
    obtain ⟨y2, z2⟩ := D_gleberef07_Op.opens.2 (e2.trans (List.getElem?_eq_getElem (by rw [hxl]; decide)))
    have g3 : DataW.trod enc Try.prog w base spare held n 35 (List.take (Try.prog.cellsOf 35) (List.drop 9 [a0, a1, a2, a3, a4, a5, a6, a7, a8, a9, a10, a11, a12])) = xs[3]? := hg 3 _ rfl
    rw [c35] at g3
    have e3 : DataW.trod enc Try.prog w base spare held n 35 [a9, a10, a11, a12] = xs[3]? := g3
    obtain ⟨y3, z3⟩ := D_gleberef04_Rect.opens.2 (e3.trans (List.getElem?_eq_getElem (by rw [hxl]; decide)))
    exact ⟨⟨y0, y1, y2, y3⟩, a0, a1, a2, a3, a4, a5, a6, a7, a8, a9, a10, a11, a12, rfl, z0, z1, z2, z3⟩
def D_gleberef19_Call.enc (x : D_gleberef19_Call) : List Value := [.int .i64 x.seq, .bool x.win, .int .i64 x.op.kind, .int .i64 x.op.at_.x, .int .i64 x.op.at_.y, .string x.op.key, .string x.op.value, .int .i64 x.op.client, .int .i64 x.op.seq, .int .i64 x.rect.x, .int .i64 x.rect.y, .int .i64 x.rect.w, .int .i64 x.rect.h]
theorem D_gleberef19_Call.flat {w : World} {x : D_gleberef19_Call} {cs : List Value} (h : D_gleberef19_Call.k.K w x cs) : cs = x.enc := by
  obtain ⟨a0, a1, a2, a3, a4, a5, a6, a7, a8, a9, a10, a11, a12, rfl, h0, h1, h2, h3⟩ := h
  obtain ⟨e0, _⟩ := h0
  have e1 := (show _ = _ from h1)
  have e2 := D_gleberef07_Op.flat h2
  have e3 := D_gleberef04_Rect.flat h3
  simp_all [D_gleberef19_Call.enc, D_gleberef04_Rect.enc, D_gleberef07_Op.enc]

structure D_gleberef07_Ans where
  e : Int
  found : Bool
  value : ByteArray
  ver : Int
instance : Inhabited D_gleberef07_Ans := ⟨⟨default, default, default, default⟩⟩
def D_gleberef07_Ans.k : RK D_gleberef07_Ans := ⟨4, fun w x cs => ∃ a0 a1 a2 a3, cs = [a0, a1, a2, a3] ∧ (RK.int .i64).K w x.e [a0] ∧ RK.bool.K w x.found [a1] ∧ RK.string.K w x.value [a2] ∧ (RK.int .i64).K w x.ver [a3], fun hb ⟨a0, a1, a2, a3, h, h0, h1, h2, h3⟩ => ⟨a0, a1, a2, a3, h, (RK.int .i64).below hb h0, RK.bool.below hb h1, RK.string.below hb h2, (RK.int .i64).below hb h3⟩⟩
set_option maxRecDepth 100000 in
theorem D_gleberef07_Ans.opens : D_gleberef07_Ans.k.Opens Try.prog 39 := by
  refine ⟨by kernel_rfl, fun {H enc w base spare held fuel cs x} h => ?_⟩
  obtain ⟨xs, n, _, _, hlen, hxl, hg⟩ := DataW.trod_struct Try.underlying39 h
  have c3 : Try.prog.cellsOf 3 = 1 := by kernel_rfl
  have c4 : Try.prog.cellsOf 4 = 1 := by kernel_rfl
  have c9 : Try.prog.cellsOf 9 = 1 := by kernel_rfl
  have hl2 : cs.length = 4 := hlen.trans (show Try.prog.cellsOf 39 = 4 by kernel_rfl)
  match cs, hl2 with
  | [a0, a1, a2, a3], _ =>
    have hxl : xs.length = 4 := hxl
    have g0 : DataW.trod enc Try.prog w base spare held n 3 (List.take (Try.prog.cellsOf 3) (List.drop 0 [a0, a1, a2, a3])) = xs[0]? := hg 0 _ rfl
    rw [c3] at g0
    have e0 : DataW.trod enc Try.prog w base spare held n 3 [a0] = xs[0]? := g0
    obtain ⟨y0, z0⟩ := (RK.opens_int Try.underlying3 (by kernel_rfl)).2 (e0.trans (List.getElem?_eq_getElem (by rw [hxl]; decide)))
    have g1 : DataW.trod enc Try.prog w base spare held n 4 (List.take (Try.prog.cellsOf 4) (List.drop 1 [a0, a1, a2, a3])) = xs[1]? := hg 1 _ rfl
    rw [c4] at g1
    have e1 : DataW.trod enc Try.prog w base spare held n 4 [a1] = xs[1]? := g1
    obtain ⟨y1, z1⟩ := (RK.opens_bool Try.underlying4 (by kernel_rfl)).2 (e1.trans (List.getElem?_eq_getElem (by rw [hxl]; decide)))
    have g2 : DataW.trod enc Try.prog w base spare held n 9 (List.take (Try.prog.cellsOf 9) (List.drop 2 [a0, a1, a2, a3])) = xs[2]? := hg 2 _ rfl
    rw [c9] at g2
    have e2 : DataW.trod enc Try.prog w base spare held n 9 [a2] = xs[2]? := g2
    obtain ⟨y2, z2⟩ := (RK.opens_string Try.underlying9 (by kernel_rfl)).2 (e2.trans (List.getElem?_eq_getElem (by rw [hxl]; decide)))
    have g3 : DataW.trod enc Try.prog w base spare held n 3 (List.take (Try.prog.cellsOf 3) (List.drop 3 [a0, a1, a2, a3])) = xs[3]? := hg 3 _ rfl
    rw [c3] at g3
    have e3 : DataW.trod enc Try.prog w base spare held n 3 [a3] = xs[3]? := g3
    obtain ⟨y3, z3⟩ := (RK.opens_int Try.underlying3 (by kernel_rfl)).2 (e3.trans (List.getElem?_eq_getElem (by rw [hxl]; decide)))
    exact ⟨⟨y0, y1, y2, y3⟩, a0, a1, a2, a3, rfl, z0, z1, z2, z3⟩
def D_gleberef07_Ans.enc (x : D_gleberef07_Ans) : List Value := [.int .i64 x.e, .bool x.found, .string x.value, .int .i64 x.ver]
theorem D_gleberef07_Ans.flat {w : World} {x : D_gleberef07_Ans} {cs : List Value} (h : D_gleberef07_Ans.k.K w x cs) : cs = x.enc := by
  obtain ⟨a0, a1, a2, a3, rfl, h0, h1, h2, h3⟩ := h
  obtain ⟨e0, _⟩ := h0
  have e1 := (show _ = _ from h1)
  obtain ⟨e2, _⟩ := h2
  obtain ⟨e3, _⟩ := h3
  simp_all [D_gleberef07_Ans.enc]

structure D_gleberef07_Rec where
  at_ : D_api_Point
  key : ByteArray
  value : ByteArray
  ver : Int
instance : Inhabited D_gleberef07_Rec := ⟨⟨default, default, default, default⟩⟩
def D_gleberef07_Rec.k : RK D_gleberef07_Rec := ⟨5, fun w x cs => ∃ a0 a1 a2 a3 a4, cs = [a0, a1, a2, a3, a4] ∧ D_api_Point.k.K w x.at_ [a0, a1] ∧ RK.string.K w x.key [a2] ∧ RK.string.K w x.value [a3] ∧ (RK.int .i64).K w x.ver [a4], fun hb ⟨a0, a1, a2, a3, a4, h, h0, h1, h2, h3⟩ => ⟨a0, a1, a2, a3, a4, h, D_api_Point.k.below hb h0, RK.string.below hb h1, RK.string.below hb h2, (RK.int .i64).below hb h3⟩⟩
set_option maxRecDepth 100000 in
theorem D_gleberef07_Rec.opens : D_gleberef07_Rec.k.Opens Try.prog 98 := by
  refine ⟨by kernel_rfl, fun {H enc w base spare held fuel cs x} h => ?_⟩
  obtain ⟨xs, n, _, _, hlen, hxl, hg⟩ := DataW.trod_struct Try.underlying98 h
  have c3 : Try.prog.cellsOf 3 = 1 := by kernel_rfl
  have c9 : Try.prog.cellsOf 9 = 1 := by kernel_rfl
  have c24 : Try.prog.cellsOf 24 = 2 := by kernel_rfl
  have hl2 : cs.length = 5 := hlen.trans (show Try.prog.cellsOf 98 = 5 by kernel_rfl)
  match cs, hl2 with
  | [a0, a1, a2, a3, a4], _ =>
    have hxl : xs.length = 4 := hxl
    have g0 : DataW.trod enc Try.prog w base spare held n 24 (List.take (Try.prog.cellsOf 24) (List.drop 0 [a0, a1, a2, a3, a4])) = xs[0]? := hg 0 _ rfl
    rw [c24] at g0
    have e0 : DataW.trod enc Try.prog w base spare held n 24 [a0, a1] = xs[0]? := g0
    obtain ⟨y0, z0⟩ := D_api_Point.opens.2 (e0.trans (List.getElem?_eq_getElem (by rw [hxl]; decide)))
    have g1 : DataW.trod enc Try.prog w base spare held n 9 (List.take (Try.prog.cellsOf 9) (List.drop 2 [a0, a1, a2, a3, a4])) = xs[1]? := hg 1 _ rfl
    rw [c9] at g1
    have e1 : DataW.trod enc Try.prog w base spare held n 9 [a2] = xs[1]? := g1
    obtain ⟨y1, z1⟩ := (RK.opens_string Try.underlying9 (by kernel_rfl)).2 (e1.trans (List.getElem?_eq_getElem (by rw [hxl]; decide)))
    have g2 : DataW.trod enc Try.prog w base spare held n 9 (List.take (Try.prog.cellsOf 9) (List.drop 3 [a0, a1, a2, a3, a4])) = xs[2]? := hg 2 _ rfl
    rw [c9] at g2
    have e2 : DataW.trod enc Try.prog w base spare held n 9 [a3] = xs[2]? := g2
    obtain ⟨y2, z2⟩ := (RK.opens_string Try.underlying9 (by kernel_rfl)).2 (e2.trans (List.getElem?_eq_getElem (by rw [hxl]; decide)))
    have g3 : DataW.trod enc Try.prog w base spare held n 3 (List.take (Try.prog.cellsOf 3) (List.drop 4 [a0, a1, a2, a3, a4])) = xs[3]? := hg 3 _ rfl
    rw [c3] at g3
    have e3 : DataW.trod enc Try.prog w base spare held n 3 [a4] = xs[3]? := g3
    obtain ⟨y3, z3⟩ := (RK.opens_int Try.underlying3 (by kernel_rfl)).2 (e3.trans (List.getElem?_eq_getElem (by rw [hxl]; decide)))
    exact ⟨⟨y0, y1, y2, y3⟩, a0, a1, a2, a3, a4, rfl, z0, z1, z2, z3⟩
def D_gleberef07_Rec.enc (x : D_gleberef07_Rec) : List Value := [.int .i64 x.at_.x, .int .i64 x.at_.y, .string x.key, .string x.value, .int .i64 x.ver]
theorem D_gleberef07_Rec.flat {w : World} {x : D_gleberef07_Rec} {cs : List Value} (h : D_gleberef07_Rec.k.K w x cs) : cs = x.enc := by
  obtain ⟨a0, a1, a2, a3, a4, rfl, h0, h1, h2, h3⟩ := h
  have e0 := D_api_Point.flat h0
  obtain ⟨e1, _⟩ := h1
  obtain ⟨e2, _⟩ := h2
  obtain ⟨e3, _⟩ := h3
  simp_all [D_gleberef07_Rec.enc, D_api_Point.enc]

structure D_gleberef19_Result where
  call : D_gleberef19_Call
  e : Int
  ans : D_gleberef07_Ans
  recs : (List D_gleberef07_Rec)
instance : Inhabited D_gleberef19_Result := ⟨⟨default, default, default, default⟩⟩
def D_gleberef19_Result.k : RK D_gleberef19_Result := ⟨19, fun w x cs => ∃ a0 a1 a2 a3 a4 a5 a6 a7 a8 a9 a10 a11 a12 a13 a14 a15 a16 a17 a18, cs = [a0, a1, a2, a3, a4, a5, a6, a7, a8, a9, a10, a11, a12, a13, a14, a15, a16, a17, a18] ∧ D_gleberef19_Call.k.K w x.call [a0, a1, a2, a3, a4, a5, a6, a7, a8, a9, a10, a11, a12] ∧ (RK.int .i64).K w x.e [a13] ∧ D_gleberef07_Ans.k.K w x.ans [a14, a15, a16, a17] ∧ (RK.slice D_gleberef07_Rec.k).K w x.recs [a18], fun hb ⟨a0, a1, a2, a3, a4, a5, a6, a7, a8, a9, a10, a11, a12, a13, a14, a15, a16, a17, a18, h, h0, h1, h2, h3⟩ => ⟨a0, a1, a2, a3, a4, a5, a6, a7, a8, a9, a10, a11, a12, a13, a14, a15, a16, a17, a18, h, D_gleberef19_Call.k.below hb h0, (RK.int .i64).below hb h1, D_gleberef07_Ans.k.below hb h2, (RK.slice D_gleberef07_Rec.k).below hb h3⟩⟩
set_option maxRecDepth 100000 in
theorem D_gleberef19_Result.opens : D_gleberef19_Result.k.Opens Try.prog 42 := by
  refine ⟨by kernel_rfl, fun {H enc w base spare held fuel cs x} h => ?_⟩
  obtain ⟨xs, n, _, _, hlen, hxl, hg⟩ := DataW.trod_struct Try.underlying42 h
  have c3 : Try.prog.cellsOf 3 = 1 := by kernel_rfl
  have c37 : Try.prog.cellsOf 37 = 13 := by kernel_rfl
  have c39 : Try.prog.cellsOf 39 = 4 := by kernel_rfl
  have c40 : Try.prog.cellsOf 40 = 1 := by kernel_rfl
  have hl2 : cs.length = 19 := hlen.trans (show Try.prog.cellsOf 42 = 19 by kernel_rfl)
  match cs, hl2 with
  | [a0, a1, a2, a3, a4, a5, a6, a7, a8, a9, a10, a11, a12, a13, a14, a15, a16, a17, a18], _ =>
    have hxl : xs.length = 4 := hxl
    have g0 : DataW.trod enc Try.prog w base spare held n 37 (List.take (Try.prog.cellsOf 37) (List.drop 0 [a0, a1, a2, a3, a4, a5, a6, a7, a8, a9, a10, a11, a12, a13, a14, a15, a16, a17, a18])) = xs[0]? := hg 0 _ rfl
    rw [c37] at g0
    have e0 : DataW.trod enc Try.prog w base spare held n 37 [a0, a1, a2, a3, a4, a5, a6, a7, a8, a9, a10, a11, a12] = xs[0]? := g0
    obtain ⟨y0, z0⟩ := D_gleberef19_Call.opens.2 (e0.trans (List.getElem?_eq_getElem (by rw [hxl]; decide)))
    have g1 : DataW.trod enc Try.prog w base spare held n 3 (List.take (Try.prog.cellsOf 3) (List.drop 13 [a0, a1, a2, a3, a4, a5, a6, a7, a8, a9, a10, a11, a12, a13, a14, a15, a16, a17, a18])) = xs[1]? := hg 1 _ rfl
    rw [c3] at g1
    have e1 : DataW.trod enc Try.prog w base spare held n 3 [a13] = xs[1]? := g1
    obtain ⟨y1, z1⟩ := (RK.opens_int Try.underlying3 (by kernel_rfl)).2 (e1.trans (List.getElem?_eq_getElem (by rw [hxl]; decide)))
    have g2 : DataW.trod enc Try.prog w base spare held n 39 (List.take (Try.prog.cellsOf 39) (List.drop 14 [a0, a1, a2, a3, a4, a5, a6, a7, a8, a9, a10, a11, a12, a13, a14, a15, a16, a17, a18])) = xs[2]? := hg 2 _ rfl
    rw [c39] at g2
    have e2 : DataW.trod enc Try.prog w base spare held n 39 [a14, a15, a16, a17] = xs[2]? := g2
    obtain ⟨y2, z2⟩ := D_gleberef07_Ans.opens.2 (e2.trans (List.getElem?_eq_getElem (by rw [hxl]; decide)))
    have g3 : DataW.trod enc Try.prog w base spare held n 40 (List.take (Try.prog.cellsOf 40) (List.drop 18 [a0, a1, a2, a3, a4, a5, a6, a7, a8, a9, a10, a11, a12, a13, a14, a15, a16, a17, a18])) = xs[3]? := hg 3 _ rfl
    rw [c40] at g3
    have e3 : DataW.trod enc Try.prog w base spare held n 40 [a18] = xs[3]? := g3
    obtain ⟨y3, z3⟩ := (RK.opens_slice Try.underlying40 (by kernel_rfl) D_gleberef07_Rec.opens (by decide)).2 (e3.trans (List.getElem?_eq_getElem (by rw [hxl]; decide)))
    exact ⟨⟨y0, y1, y2, y3⟩, a0, a1, a2, a3, a4, a5, a6, a7, a8, a9, a10, a11, a12, a13, a14, a15, a16, a17, a18, rfl, z0, z1, z2, z3⟩

structure D_glebelaw24_Act where
  kind : Int
  node : Int
  now : Int
  r : D_gleberef19_Result
instance : Inhabited D_glebelaw24_Act := ⟨⟨default, default, default, default⟩⟩
def D_glebelaw24_Act.k : RK D_glebelaw24_Act := ⟨22, fun w x cs => ∃ a0 a1 a2 a3 a4 a5 a6 a7 a8 a9 a10 a11 a12 a13 a14 a15 a16 a17 a18 a19 a20 a21, cs = [a0, a1, a2, a3, a4, a5, a6, a7, a8, a9, a10, a11, a12, a13, a14, a15, a16, a17, a18, a19, a20, a21] ∧ (RK.int .i64).K w x.kind [a0] ∧ (RK.int .i64).K w x.node [a1] ∧ (RK.int .i64).K w x.now [a2] ∧ D_gleberef19_Result.k.K w x.r [a3, a4, a5, a6, a7, a8, a9, a10, a11, a12, a13, a14, a15, a16, a17, a18, a19, a20, a21], fun hb ⟨a0, a1, a2, a3, a4, a5, a6, a7, a8, a9, a10, a11, a12, a13, a14, a15, a16, a17, a18, a19, a20, a21, h, h0, h1, h2, h3⟩ => ⟨a0, a1, a2, a3, a4, a5, a6, a7, a8, a9, a10, a11, a12, a13, a14, a15, a16, a17, a18, a19, a20, a21, h, (RK.int .i64).below hb h0, (RK.int .i64).below hb h1, (RK.int .i64).below hb h2, D_gleberef19_Result.k.below hb h3⟩⟩
set_option maxRecDepth 100000 in
theorem D_glebelaw24_Act.opens : D_glebelaw24_Act.k.Opens Try.prog 44 := by
  refine ⟨by kernel_rfl, fun {H enc w base spare held fuel cs x} h => ?_⟩
  obtain ⟨xs, n, _, _, hlen, hxl, hg⟩ := DataW.trod_struct Try.underlying44 h
  have c3 : Try.prog.cellsOf 3 = 1 := by kernel_rfl
  have c42 : Try.prog.cellsOf 42 = 19 := by kernel_rfl
  have hl2 : cs.length = 22 := hlen.trans (show Try.prog.cellsOf 44 = 22 by kernel_rfl)
  match cs, hl2 with
  | [a0, a1, a2, a3, a4, a5, a6, a7, a8, a9, a10, a11, a12, a13, a14, a15, a16, a17, a18, a19, a20, a21], _ =>
    have hxl : xs.length = 4 := hxl
    have g0 : DataW.trod enc Try.prog w base spare held n 3 (List.take (Try.prog.cellsOf 3) (List.drop 0 [a0, a1, a2, a3, a4, a5, a6, a7, a8, a9, a10, a11, a12, a13, a14, a15, a16, a17, a18, a19, a20, a21])) = xs[0]? := hg 0 _ rfl
    rw [c3] at g0
    have e0 : DataW.trod enc Try.prog w base spare held n 3 [a0] = xs[0]? := g0
    obtain ⟨y0, z0⟩ := (RK.opens_int Try.underlying3 (by kernel_rfl)).2 (e0.trans (List.getElem?_eq_getElem (by rw [hxl]; decide)))
    have g1 : DataW.trod enc Try.prog w base spare held n 3 (List.take (Try.prog.cellsOf 3) (List.drop 1 [a0, a1, a2, a3, a4, a5, a6, a7, a8, a9, a10, a11, a12, a13, a14, a15, a16, a17, a18, a19, a20, a21])) = xs[1]? := hg 1 _ rfl
    rw [c3] at g1
    have e1 : DataW.trod enc Try.prog w base spare held n 3 [a1] = xs[1]? := g1
    obtain ⟨y1, z1⟩ := (RK.opens_int Try.underlying3 (by kernel_rfl)).2 (e1.trans (List.getElem?_eq_getElem (by rw [hxl]; decide)))
    have g2 : DataW.trod enc Try.prog w base spare held n 3 (List.take (Try.prog.cellsOf 3) (List.drop 2 [a0, a1, a2, a3, a4, a5, a6, a7, a8, a9, a10, a11, a12, a13, a14, a15, a16, a17, a18, a19, a20, a21])) = xs[2]? := hg 2 _ rfl
    rw [c3] at g2
    have e2 : DataW.trod enc Try.prog w base spare held n 3 [a2] = xs[2]? := g2
    obtain ⟨y2, z2⟩ := (RK.opens_int Try.underlying3 (by kernel_rfl)).2 (e2.trans (List.getElem?_eq_getElem (by rw [hxl]; decide)))
    have g3 : DataW.trod enc Try.prog w base spare held n 42 (List.take (Try.prog.cellsOf 42) (List.drop 3 [a0, a1, a2, a3, a4, a5, a6, a7, a8, a9, a10, a11, a12, a13, a14, a15, a16, a17, a18, a19, a20, a21])) = xs[3]? := hg 3 _ rfl
    rw [c42] at g3
    have e3 : DataW.trod enc Try.prog w base spare held n 42 [a3, a4, a5, a6, a7, a8, a9, a10, a11, a12, a13, a14, a15, a16, a17, a18, a19, a20, a21] = xs[3]? := g3
    obtain ⟨y3, z3⟩ := D_gleberef19_Result.opens.2 (e3.trans (List.getElem?_eq_getElem (by rw [hxl]; decide)))
    exact ⟨⟨y0, y1, y2, y3⟩, a0, a1, a2, a3, a4, a5, a6, a7, a8, a9, a10, a11, a12, a13, a14, a15, a16, a17, a18, a19, a20, a21, rfl, z0, z1, z2, z3⟩

end Go.Proofs.Ytghhmannenjchaa
