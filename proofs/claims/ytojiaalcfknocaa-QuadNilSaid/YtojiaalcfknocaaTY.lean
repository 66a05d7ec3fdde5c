/- The structs that come in as arguments, as data: how their cells read. -/
import Derived.Test.YtojiaalcfknocaaRows
import Derived.Test.YtojiaalcfknocaaKD
namespace Go.Proofs.Ytojiaalcfknocaa
open Go.RowKit Go.ChangeShapes Go.WideShapes Go.Deep

structure D_api_Point where
  x : Int
  y : Int
instance : Inhabited D_api_Point := ⟨⟨default, default⟩⟩
def D_api_Point.k : RK D_api_Point := ⟨2, fun w x cs => ∃ a0 a1, cs = [a0, a1] ∧ (RK.int .i64).K w x.x [a0] ∧ (RK.int .i64).K w x.y [a1], fun hb ⟨a0, a1, h, h0, h1⟩ => ⟨a0, a1, h, (RK.int .i64).below hb h0, (RK.int .i64).below hb h1⟩⟩
set_option maxRecDepth 100000 in
theorem D_api_Point.opens : D_api_Point.k.Opens Try.prog 40 := by
  refine ⟨by kernel_rfl, fun {H enc w base spare held fuel cs x} h => ?_⟩
  obtain ⟨xs, n, _, _, hlen, hxl, hg⟩ := DataW.trod_struct Try.underlying40 h
  have c3 : Try.prog.cellsOf 3 = 1 := by kernel_rfl
  have hl2 : cs.length = 2 := hlen.trans (show Try.prog.cellsOf 40 = 2 by kernel_rfl)
  match cs, hl2 with
  | [a0, a1], _ =>
    have hxl : xs.length = 2 := hxl
    have g0 : DataW.trod enc Try.prog w base spare held n 3 (List.take (Try.prog.cellsOf 3) (List.drop 0 [a0, a1])) = xs[0]? := hg 0 _ rfl
    rw [c3] at g0
    have e0 : DataW.trod enc Try.prog w base spare held n 3 [a0] = xs[0]? := g0
    obtain ⟨y0, z0⟩ := (RK.opens_int Try.underlying3 (by kernel_rfl)).2 (e0.trans (List.getElem?_eq_getElem (by rw [hxl]; decide)))
    have g1 : DataW.trod enc Try.prog w base spare held n 3 (List.take (Try.prog.cellsOf 3) (List.drop 1 [a0, a1])) = xs[1]? := hg 1 _ rfl
    rw [c3] at g1
    have e1 : DataW.trod enc Try.prog w base spare held n 3 [a1] = xs[1]? := g1
    obtain ⟨y1, z1⟩ := (RK.opens_int Try.underlying3 (by kernel_rfl)).2 (e1.trans (List.getElem?_eq_getElem (by rw [hxl]; decide)))
    exact ⟨⟨y0, y1⟩, a0, a1, rfl, z0, z1⟩
def D_api_Point.enc (x : D_api_Point) : List Value := [.int .i64 x.x, .int .i64 x.y]
theorem D_api_Point.flat {w : World} {x : D_api_Point} {cs : List Value} (h : D_api_Point.k.K w x cs) : cs = x.enc := by
  obtain ⟨a0, a1, rfl, h0, h1⟩ := h
  obtain ⟨e0, _⟩ := h0
  obtain ⟨e1, _⟩ := h1
  simp_all [D_api_Point.enc]

structure D_gleberef07_Rec where
  at_ : D_api_Point
  key : ByteArray
  value : ByteArray
  ver : Int
instance : Inhabited D_gleberef07_Rec := ⟨⟨default, default, default, default⟩⟩
def D_gleberef07_Rec.k : RK D_gleberef07_Rec := ⟨5, fun w x cs => ∃ a0 a1 a2 a3 a4, cs = [a0, a1, a2, a3, a4] ∧ D_api_Point.k.K w x.at_ [a0, a1] ∧ RK.string.K w x.key [a2] ∧ RK.string.K w x.value [a3] ∧ (RK.int .i64).K w x.ver [a4], fun hb ⟨a0, a1, a2, a3, a4, h, h0, h1, h2, h3⟩ => ⟨a0, a1, a2, a3, a4, h, D_api_Point.k.below hb h0, RK.string.below hb h1, RK.string.below hb h2, (RK.int .i64).below hb h3⟩⟩
set_option maxRecDepth 100000 in
theorem D_gleberef07_Rec.opens : D_gleberef07_Rec.k.Opens Try.prog 44 := by
  refine ⟨by kernel_rfl, fun {H enc w base spare held fuel cs x} h => ?_⟩
  obtain ⟨xs, n, _, _, hlen, hxl, hg⟩ := DataW.trod_struct Try.underlying44 h
  have c3 : Try.prog.cellsOf 3 = 1 := by kernel_rfl
  have c9 : Try.prog.cellsOf 9 = 1 := by kernel_rfl
  have c40 : Try.prog.cellsOf 40 = 2 := by kernel_rfl
  have hl2 : cs.length = 5 := hlen.trans (show Try.prog.cellsOf 44 = 5 by kernel_rfl)
  match cs, hl2 with
  | [a0, a1, a2, a3, a4], _ =>
    have hxl : xs.length = 4 := hxl
    have g0 : DataW.trod enc Try.prog w base spare held n 40 (List.take (Try.prog.cellsOf 40) (List.drop 0 [a0, a1, a2, a3, a4])) = xs[0]? := hg 0 _ rfl
    rw [c40] at g0
    have e0 : DataW.trod enc Try.prog w base spare held n 40 [a0, a1] = xs[0]? := g0
    obtain ⟨y0, z0⟩ := D_api_Point.opens.2 (e0.trans (List.getElem?_eq_getElem (by rw [hxl]; decide)))
    have g1 : DataW.trod enc Try.prog w base spare held n 9 (List.take (Try.prog.cellsOf 9) (List.drop 2 [a0, a1, a2, a3, a4])) = xs[1]? := hg 1 _ rfl
    rw [c9] at g1
    have e1 : DataW.trod enc Try.prog w base spare held n 9 [a2] = xs[1]? := g1
    obtain ⟨y1, z1⟩ := (RK.opens_string Try.underlying9 (by kernel_rfl)).2 (e1.trans (List.getElem?_eq_getElem (by rw [hxl]; decide)))
    have g2 : DataW.trod enc Try.prog w base spare held n 9 (List.take (Try.prog.cellsOf 9) (List.drop 3 [a0, a1, a2, a3, a4])) = xs[2]? := hg 2 _ rfl
    rw [c9] at g2
    have e2 : DataW.trod enc Try.prog w base spare held n 9 [a3] = xs[2]? := g2
    obtain ⟨y2, z2⟩ := (RK.opens_string Try.underlying9 (by kernel_rfl)).2 (e2.trans (List.getElem?_eq_getElem (by rw [hxl]; decide)))
    have g3 : DataW.trod enc Try.prog w base spare held n 3 (List.take (Try.prog.cellsOf 3) (List.drop 4 [a0, a1, a2, a3, a4])) = xs[3]? := hg 3 _ rfl
    rw [c3] at g3
    have e3 : DataW.trod enc Try.prog w base spare held n 3 [a4] = xs[3]? := g3
    obtain ⟨y3, z3⟩ := (RK.opens_int Try.underlying3 (by kernel_rfl)).2 (e3.trans (List.getElem?_eq_getElem (by rw [hxl]; decide)))
    exact ⟨⟨y0, y1, y2, y3⟩, a0, a1, a2, a3, a4, rfl, z0, z1, z2, z3⟩
def D_gleberef07_Rec.enc (x : D_gleberef07_Rec) : List Value := [.int .i64 x.at_.x, .int .i64 x.at_.y, .string x.key, .string x.value, .int .i64 x.ver]
theorem D_gleberef07_Rec.flat {w : World} {x : D_gleberef07_Rec} {cs : List Value} (h : D_gleberef07_Rec.k.K w x cs) : cs = x.enc := by
  obtain ⟨a0, a1, a2, a3, a4, rfl, h0, h1, h2, h3⟩ := h
  have e0 := D_api_Point.flat h0
  obtain ⟨e1, _⟩ := h1
  obtain ⟨e2, _⟩ := h2
  obtain ⟨e3, _⟩ := h3
  simp_all [D_gleberef07_Rec.enc, D_api_Point.enc]

structure D_gleberef04_Rect where
  x : Int
  y : Int
  w : Int
  h : Int
instance : Inhabited D_gleberef04_Rect := ⟨⟨default, default, default, default⟩⟩
def D_gleberef04_Rect.k : RK D_gleberef04_Rect := ⟨4, fun w x cs => ∃ a0 a1 a2 a3, cs = [a0, a1, a2, a3] ∧ (RK.int .i64).K w x.x [a0] ∧ (RK.int .i64).K w x.y [a1] ∧ (RK.int .i64).K w x.w [a2] ∧ (RK.int .i64).K w x.h [a3], fun hb ⟨a0, a1, a2, a3, h, h0, h1, h2, h3⟩ => ⟨a0, a1, a2, a3, h, (RK.int .i64).below hb h0, (RK.int .i64).below hb h1, (RK.int .i64).below hb h2, (RK.int .i64).below hb h3⟩⟩
set_option maxRecDepth 100000 in
theorem D_gleberef04_Rect.opens : D_gleberef04_Rect.k.Opens Try.prog 52 := by
  refine ⟨by kernel_rfl, fun {H enc w base spare held fuel cs x} h => ?_⟩
  obtain ⟨xs, n, _, _, hlen, hxl, hg⟩ := DataW.trod_struct Try.underlying52 h
  have c3 : Try.prog.cellsOf 3 = 1 := by kernel_rfl
  have hl2 : cs.length = 4 := hlen.trans (show Try.prog.cellsOf 52 = 4 by kernel_rfl)
  match cs, hl2 with
  | [a0, a1, a2, a3], _ =>
    have hxl : xs.length = 4 := hxl
    have g0 : DataW.trod enc Try.prog w base spare held n 3 (List.take (Try.prog.cellsOf 3) (List.drop 0 [a0, a1, a2, a3])) = xs[0]? := hg 0 _ rfl
    rw [c3] at g0
    have e0 : DataW.trod enc Try.prog w base spare held n 3 [a0] = xs[0]? := g0
    obtain ⟨y0, z0⟩ := (RK.opens_int Try.underlying3 (by kernel_rfl)).2 (e0.trans (List.getElem?_eq_getElem (by rw [hxl]; decide)))
    have g1 : DataW.trod enc Try.prog w base spare held n 3 (List.take (Try.prog.cellsOf 3) (List.drop 1 [a0, a1, a2, a3])) = xs[1]? := hg 1 _ rfl
    rw [c3] at g1
    have e1 : DataW.trod enc Try.prog w base spare held n 3 [a1] = xs[1]? := g1
    obtain ⟨y1, z1⟩ := (RK.opens_int Try.underlying3 (by kernel_rfl)).2 (e1.trans (List.getElem?_eq_getElem (by rw [hxl]; decide)))
    have g2 : DataW.trod enc Try.prog w base spare held n 3 (List.take (Try.prog.cellsOf 3) (List.drop 2 [a0, a1, a2, a3])) = xs[2]? := hg 2 _ rfl
    rw [c3] at g2
    have e2 : DataW.trod enc Try.prog w base spare held n 3 [a2] = xs[2]? := g2
    obtain ⟨y2, z2⟩ := (RK.opens_int Try.underlying3 (by kernel_rfl)).2 (e2.trans (List.getElem?_eq_getElem (by rw [hxl]; decide)))
    have g3 : DataW.trod enc Try.prog w base spare held n 3 (List.take (Try.prog.cellsOf 3) (List.drop 3 [a0, a1, a2, a3])) = xs[3]? := hg 3 _ rfl
    rw [c3] at g3
    have e3 : DataW.trod enc Try.prog w base spare held n 3 [a3] = xs[3]? := g3
    obtain ⟨y3, z3⟩ := (RK.opens_int Try.underlying3 (by kernel_rfl)).2 (e3.trans (List.getElem?_eq_getElem (by rw [hxl]; decide)))
    exact ⟨⟨y0, y1, y2, y3⟩, a0, a1, a2, a3, rfl, z0, z1, z2, z3⟩
def D_gleberef04_Rect.enc (x : D_gleberef04_Rect) : List Value := [.int .i64 x.x, .int .i64 x.y, .int .i64 x.w, .int .i64 x.h]
theorem D_gleberef04_Rect.flat {w : World} {x : D_gleberef04_Rect} {cs : List Value} (h : D_gleberef04_Rect.k.K w x cs) : cs = x.enc := by
  obtain ⟨a0, a1, a2, a3, rfl, h0, h1, h2, h3⟩ := h
  obtain ⟨e0, _⟩ := h0
  obtain ⟨e1, _⟩ := h1
  obtain ⟨e2, _⟩ := h2
  obtain ⟨e3, _⟩ := h3
  simp_all [D_gleberef04_Rect.enc]

end Go.Proofs.Ytojiaalcfknocaa
