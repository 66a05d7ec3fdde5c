/- The structs that come in as arguments, as data: how their cells read. -/
import Derived.Test.YthgheamplcejkaaGreatRows
import Derived.Test.YthgheamplcejkaaGreatKD
namespace Go.Proofs.YthgheamplcejkaaGreat
open Go.RowKit Go.ChangeShapes Go.WideShapes Go.Deep

structure D_api_Path where
  depth : Int
  bits : Int
instance : Inhabited D_api_Path := ⟨⟨default, default⟩⟩
def D_api_Path.k : RK D_api_Path := ⟨2, fun w x cs => ∃ a0 a1, cs = [a0, a1] ∧ (RK.int .i64).K w x.depth [a0] ∧ (RK.int .i64).K w x.bits [a1], fun hb ⟨a0, a1, h, h0, h1⟩ => ⟨a0, a1, h, (RK.int .i64).below hb h0, (RK.int .i64).below hb h1⟩⟩
set_option maxRecDepth 100000 in
theorem D_api_Path.opens : D_api_Path.k.Opens Tryz.prog 35 := by
  refine ⟨by kernel_rfl, fun {H enc w base spare held fuel cs x} h => ?_⟩
  obtain ⟨xs, n, _, _, hlen, hxl, hg⟩ := DataW.trod_struct Tryz.underlying35 h
  have c3 : Tryz.prog.cellsOf 3 = 1 := by kernel_rfl
  have hl2 : cs.length = 2 := hlen.trans (show Tryz.prog.cellsOf 35 = 2 by kernel_rfl)
  match cs, hl2 with
  | [a0, a1], _ =>
    have hxl : xs.length = 2 := hxl
    have g0 : DataW.trod enc Tryz.prog w base spare held n 3 (List.take (Tryz.prog.cellsOf 3) (List.drop 0 [a0, a1])) = xs[0]? := hg 0 _ rfl
    rw [c3] at g0
    have e0 : DataW.trod enc Tryz.prog w base spare held n 3 [a0] = xs[0]? := g0
    obtain ⟨y0, z0⟩ := (RK.opens_int Tryz.underlying3 (by kernel_rfl)).2 (e0.trans (List.getElem?_eq_getElem (by rw [hxl]; decide)))
    have g1 : DataW.trod enc Tryz.prog w base spare held n 3 (List.take (Tryz.prog.cellsOf 3) (List.drop 1 [a0, a1])) = xs[1]? := hg 1 _ rfl
    rw [c3] at g1
    have e1 : DataW.trod enc Tryz.prog w base spare held n 3 [a1] = xs[1]? := g1
    obtain ⟨y1, z1⟩ := (RK.opens_int Tryz.underlying3 (by kernel_rfl)).2 (e1.trans (List.getElem?_eq_getElem (by rw [hxl]; decide)))
    exact ⟨⟨y0, y1⟩, a0, a1, rfl, z0, z1⟩
def D_api_Path.enc (x : D_api_Path) : List Value := [.int .i64 x.depth, .int .i64 x.bits]
theorem D_api_Path.flat {w : World} {x : D_api_Path} {cs : List Value} (h : D_api_Path.k.K w x cs) : cs = x.enc := by
  obtain ⟨a0, a1, rfl, h0, h1⟩ := h
  obtain ⟨e0, _⟩ := h0
  obtain ⟨e1, _⟩ := h1
  simp_all [D_api_Path.enc]

structure D_api_Point where
  x : Int
  y : Int
instance : Inhabited D_api_Point := ⟨⟨default, default⟩⟩
def D_api_Point.k : RK D_api_Point := ⟨2, fun w x cs => ∃ a0 a1, cs = [a0, a1] ∧ (RK.int .i64).K w x.x [a0] ∧ (RK.int .i64).K w x.y [a1], fun hb ⟨a0, a1, h, h0, h1⟩ => ⟨a0, a1, h, (RK.int .i64).below hb h0, (RK.int .i64).below hb h1⟩⟩
set_option maxRecDepth 100000 in
theorem D_api_Point.opens : D_api_Point.k.Opens Tryz.prog 24 := by
  refine ⟨by kernel_rfl, fun {H enc w base spare held fuel cs x} h => ?_⟩
  obtain ⟨xs, n, _, _, hlen, hxl, hg⟩ := DataW.trod_struct Tryz.underlying24 h
  have c3 : Tryz.prog.cellsOf 3 = 1 := by kernel_rfl
  have hl2 : cs.length = 2 := hlen.trans (show Tryz.prog.cellsOf 24 = 2 by kernel_rfl)
  match cs, hl2 with
  | [a0, a1], _ =>
    have hxl : xs.length = 2 := hxl
    have g0 : DataW.trod enc Tryz.prog w base spare held n 3 (List.take (Tryz.prog.cellsOf 3) (List.drop 0 [a0, a1])) = xs[0]? := hg 0 _ rfl
    rw [c3] at g0
    have e0 : DataW.trod enc Tryz.prog w base spare held n 3 [a0] = xs[0]? := g0
    obtain ⟨y0, z0⟩ := (RK.opens_int Tryz.underlying3 (by kernel_rfl)).2 (e0.trans (List.getElem?_eq_getElem (by rw [hxl]; decide)))
    have g1 : DataW.trod enc Tryz.prog w base spare held n 3 (List.take (Tryz.prog.cellsOf 3) (List.drop 1 [a0, a1])) = xs[1]? := hg 1 _ rfl
    rw [c3] at g1
    have e1 : DataW.trod enc Tryz.prog w base spare held n 3 [a1] = xs[1]? := g1
    obtain ⟨y1, z1⟩ := (RK.opens_int Tryz.underlying3 (by kernel_rfl)).2 (e1.trans (List.getElem?_eq_getElem (by rw [hxl]; decide)))
    exact ⟨⟨y0, y1⟩, a0, a1, rfl, z0, z1⟩
def D_api_Point.enc (x : D_api_Point) : List Value := [.int .i64 x.x, .int .i64 x.y]
theorem D_api_Point.flat {w : World} {x : D_api_Point} {cs : List Value} (h : D_api_Point.k.K w x cs) : cs = x.enc := by
  obtain ⟨a0, a1, rfl, h0, h1⟩ := h
  obtain ⟨e0, _⟩ := h0
  obtain ⟨e1, _⟩ := h1
  simp_all [D_api_Point.enc]

structure D_gleberef07_Op where
  kind : Int
  at_ : D_api_Point
  key : ByteArray
  value : ByteArray
  client : Int
  seq : Int
instance : Inhabited D_gleberef07_Op := ⟨⟨default, default, default, default, default, default⟩⟩
def D_gleberef07_Op.k : RK D_gleberef07_Op := ⟨7, fun w x cs => ∃ a0 a1 a2 a3 a4 a5 a6, cs = [a0, a1, a2, a3, a4, a5, a6] ∧ (RK.int .i64).K w x.kind [a0] ∧ D_api_Point.k.K w x.at_ [a1, a2] ∧ RK.string.K w x.key [a3] ∧ RK.string.K w x.value [a4] ∧ (RK.int .i64).K w x.client [a5] ∧ (RK.int .i64).K w x.seq [a6], fun hb ⟨a0, a1, a2, a3, a4, a5, a6, h, h0, h1, h2, h3, h4, h5⟩ => ⟨a0, a1, a2, a3, a4, a5, a6, h, (RK.int .i64).below hb h0, D_api_Point.k.below hb h1, RK.string.below hb h2, RK.string.below hb h3, (RK.int .i64).below hb h4, (RK.int .i64).below hb h5⟩⟩
set_option maxRecDepth 100000 in
theorem D_gleberef07_Op.opens : D_gleberef07_Op.k.Opens Tryz.prog 37 := by
  refine ⟨by kernel_rfl, fun {H enc w base spare held fuel cs x} h => ?_⟩
  obtain ⟨xs, n, _, _, hlen, hxl, hg⟩ := DataW.trod_struct Tryz.underlying37 h
  have c3 : Tryz.prog.cellsOf 3 = 1 := by kernel_rfl
  have c9 : Tryz.prog.cellsOf 9 = 1 := by kernel_rfl
  have c24 : Tryz.prog.cellsOf 24 = 2 := by kernel_rfl
  have hl2 : cs.length = 7 := hlen.trans (show Tryz.prog.cellsOf 37 = 7 by kernel_rfl)
  match cs, hl2 with
  | [a0, a1, a2, a3, a4, a5, a6], _ =>
    have hxl : xs.length = 6 := hxl
    have g0 : DataW.trod enc Tryz.prog w base spare held n 3 (List.take (Tryz.prog.cellsOf 3) (List.drop 0 [a0, a1, a2, a3, a4, a5, a6])) = xs[0]? := hg 0 _ rfl
    rw [c3] at g0
    have e0 : DataW.trod enc Tryz.prog w base spare held n 3 [a0] = xs[0]? := g0
    obtain ⟨y0, z0⟩ := (RK.opens_int Tryz.underlying3 (by kernel_rfl)).2 (e0.trans (List.getElem?_eq_getElem (by rw [hxl]; decide)))
    have g1 : DataW.trod enc Tryz.prog w base spare held n 24 (List.take (Tryz.prog.cellsOf 24) (List.drop 1 [a0, a1, a2, a3, a4, a5, a6])) = xs[1]? := hg 1 _ rfl
    rw [c24] at g1
    have e1 : DataW.trod enc Tryz.prog w base spare held n 24 [a1, a2] = xs[1]? := g1
    obtain ⟨y1, z1⟩ := D_api_Point.opens.2 (e1.trans (List.getElem?_eq_getElem (by rw [hxl]; decide)))
    have g2 : DataW.trod enc Tryz.prog w base spare held n 9 (List.take (Tryz.prog.cellsOf 9) (List.drop 3 [a0, a1, a2, a3, a4, a5, a6])) = xs[2]? := hg 2 _ rfl
    rw [c9] at g2
    have e2 : DataW.trod enc Tryz.prog w base spare held n 9 [a3] = xs[2]? := g2
    obtain ⟨y2, z2⟩ := (RK.opens_string Tryz.underlying9 (by kernel_rfl)).2 (e2.trans (List.getElem?_eq_getElem (by rw [hxl]; decide)))
    have g3 : DataW.trod enc Tryz.prog w base spare held n 9 (List.take (Tryz.prog.cellsOf 9) (List.drop 4 [a0, a1, a2, a3, a4, a5, a6])) = xs[3]? := hg 3 _ rfl
    rw [c9] at g3
    have e3 : DataW.trod enc Tryz.prog w base spare held n 9 [a4] = xs[3]? := g3
    obtain ⟨y3, z3⟩ := (RK.opens_string Tryz.underlying9 (by kernel_rfl)).2 (e3.trans (List.getElem?_eq_getElem (by rw [hxl]; decide)))
    have g4 : DataW.trod enc Tryz.prog w base spare held n 3 (List.take (Tryz.prog.cellsOf 3) (List.drop 5 [a0, a1, a2, a3, a4, a5, a6])) = xs[4]? := hg 4 _ rfl
    rw [c3] at g4
    have e4 : DataW.trod enc Tryz.prog w base spare held n 3 [a5] = xs[4]? := g4
    obtain ⟨y4, z4⟩ := (RK.opens_int Tryz.underlying3 (by kernel_rfl)).2 (e4.trans (List.getElem?_eq_getElem (by rw [hxl]; decide)))
    have g5 : DataW.trod enc Tryz.prog w base spare held n 3 (List.take (Tryz.prog.cellsOf 3) (List.drop 6 [a0, a1, a2, a3, a4, a5, a6])) = xs[5]? := hg 5 _ rfl
    rw [c3] at g5
    have e5 : DataW.trod enc Tryz.prog w base spare held n 3 [a6] = xs[5]? := g5
    obtain ⟨y5, z5⟩ := (RK.opens_int Tryz.underlying3 (by kernel_rfl)).2 (e5.trans (List.getElem?_eq_getElem (by rw [hxl]; decide)))
    exact ⟨⟨y0, y1, y2, y3, y4, y5⟩, a0, a1, a2, a3, a4, a5, a6, rfl, z0, z1, z2, z3, z4, z5⟩
def D_gleberef07_Op.enc (x : D_gleberef07_Op) : List Value := [.int .i64 x.kind, .int .i64 x.at_.x, .int .i64 x.at_.y, .string x.key, .string x.value, .int .i64 x.client, .int .i64 x.seq]
theorem D_gleberef07_Op.flat {w : World} {x : D_gleberef07_Op} {cs : List Value} (h : D_gleberef07_Op.k.K w x cs) : cs = x.enc := by
  obtain ⟨a0, a1, a2, a3, a4, a5, a6, rfl, h0, h1, h2, h3, h4, h5⟩ := h
  obtain ⟨e0, _⟩ := h0
  have e1 := D_api_Point.flat h1
  obtain ⟨e2, _⟩ := h2
  obtain ⟨e3, _⟩ := h3
  obtain ⟨e4, _⟩ := h4
  obtain ⟨e5, _⟩ := h5
  simp_all [D_gleberef07_Op.enc, D_api_Point.enc]

structure D_gleberef11_Entry where
  kind : Int
  op : D_gleberef07_Op
  node : Int
  epoch : Int
  by_ : Int
  chain : (List Int)
instance : Inhabited D_gleberef11_Entry := ⟨⟨default, default, default, default, default, default⟩⟩
def D_gleberef11_Entry.k : RK D_gleberef11_Entry := ⟨12, fun w x cs => ∃ a0 a1 a2 a3 a4 a5 a6 a7 a8 a9 a10 a11, cs = [a0, a1, a2, a3, a4, a5, a6, a7, a8, a9, a10, a11] ∧ (RK.int .i64).K w x.kind [a0] ∧ D_gleberef07_Op.k.K w x.op [a1, a2, a3, a4, a5, a6, a7] ∧ (RK.int .i64).K w x.node [a8] ∧ (RK.int .i64).K w x.epoch [a9] ∧ (RK.int .i64).K w x.by_ [a10] ∧ (RK.slice (RK.int .i64)).K w x.chain [a11], fun hb ⟨a0, a1, a2, a3, a4, a5, a6, a7, a8, a9, a10, a11, h, h0, h1, h2, h3, h4, h5⟩ => ⟨a0, a1, a2, a3, a4, a5, a6, a7, a8, a9, a10, a11, h, (RK.int .i64).below hb h0, D_gleberef07_Op.k.below hb h1, (RK.int .i64).below hb h2, (RK.int .i64).below hb h3, (RK.int .i64).below hb h4, (RK.slice (RK.int .i64)).below hb h5⟩⟩
set_option maxRecDepth 100000 in
theorem D_gleberef11_Entry.opens : D_gleberef11_Entry.k.Opens Tryz.prog 40 := by
  refine ⟨by kernel_rfl, fun {H enc w base spare held fuel cs x} h => ?_⟩
  obtain ⟨xs, n, _, _, hlen, hxl, hg⟩ := DataW.trod_struct Tryz.underlying40 h
  have c3 : Tryz.prog.cellsOf 3 = 1 := by kernel_rfl
  have c37 : Tryz.prog.cellsOf 37 = 7 := by kernel_rfl
  have c38 : Tryz.prog.cellsOf 38 = 1 := by kernel_rfl
  have hl2 : cs.length = 12 := hlen.trans (show Tryz.prog.cellsOf 40 = 12 by kernel_rfl)
  match cs, hl2 with
  | [a0, a1, a2, a3, a4, a5, a6, a7, a8, a9, a10, a11], _ =>
    have hxl : xs.length = 6 := hxl
    have g0 : DataW.trod enc Tryz.prog w base spare held n 3 (List.take (Tryz.prog.cellsOf 3) (List.drop 0 [a0, a1, a2, a3, a4, a5, a6, a7, a8, a9, a10, a11])) = xs[0]? := hg 0 _ rfl
    rw [c3] at g0
    have e0 : DataW.trod enc Tryz.prog w base spare held n 3 [a0] = xs[0]? := g0
    obtain ⟨y0, z0⟩ := (RK.opens_int Tryz.underlying3 (by kernel_rfl)).2 (e0.trans (List.getElem?_eq_getElem (by rw [hxl]; decide)))
    have g1 : DataW.trod enc Tryz.prog w base spare held n 37 (List.take (Tryz.prog.cellsOf 37) (List.drop 1 [a0, a1, a2, a3, a4, a5, a6, a7, a8, a9, a10, a11])) = xs[1]? := hg 1 _ rfl
    rw [c37] at g1
    have e1 : DataW.trod enc Tryz.prog w base spare held n 37 [a1, a2, a3, a4, a5, a6, a7] = xs[1]? := g1
    obtain ⟨y1, z1⟩ := D_gleberef07_Op.opens.2 (e1.trans (List.getElem?_eq_getElem (by rw [hxl]; decide)))
    have g2 : DataW.trod enc Tryz.prog w base spare held n 3 (List.take (Tryz.prog.cellsOf 3) (List.drop 8 [a0, a1, a2, a3, a4, a5, a6, a7, a8, a9, a10, a11])) = xs[2]? := hg 2 _ rfl
    rw [c3] at g2
    have e2 : DataW.trod enc Tryz.prog w base spare held n 3 [a8] = xs[2]? := g2
    obtain ⟨y2, z2⟩ := (RK.opens_int Tryz.underlying3 (by kernel_rfl)).2 (e2.trans (List.getElem?_eq_getElem (by rw [hxl]; decide)))
    have g3 : DataW.trod enc Tryz.prog w base spare held n 3 (List.take (Tryz.prog.cellsOf 3) (List.drop 9 [a0, a1, a2, a3, a4, a5, a6, a7, a8, a9, a10, a11])) = xs[3]? := hg 3 _ rfl
    rw [c3] at g3
    have e3 : DataW.trod enc Tryz.prog w base spare held n 3 [a9] = xs[3]? := g3
    obtain ⟨y3, z3⟩ := (RK.opens_int Tryz.underlying3 (by kernel_rfl)).2 (e3.trans (List.getElem?_eq_getElem (by rw [hxl]; decide)))
    have g4 : DataW.trod enc Tryz.prog w base spare held n 3 (List.take (Tryz.prog.cellsOf 3) (List.drop 10 [a0, a1, a2, a3, a4, a5, a6, a7, a8, a9, a10, a11])) = xs[4]? := hg 4 _ rfl
    rw [c3] at g4
    have e4 : DataW.trod enc Tryz.prog w base spare held n 3 [a10] = xs[4]? := g4
    obtain ⟨y4, z4⟩ := (RK.opens_int Tryz.underlying3 (by kernel_rfl)).2 (e4.trans (List.getElem?_eq_getElem (by rw [hxl]; decide)))
    have g5 : DataW.trod enc Tryz.prog w base spare held n 38 (List.take (Tryz.prog.cellsOf 38) (List.drop 11 [a0, a1, a2, a3, a4, a5, a6, a7, a8, a9, a10, a11])) = xs[5]? := hg 5 _ rfl
    rw [c38] at g5
    have e5 : DataW.trod enc Tryz.prog w base spare held n 38 [a11] = xs[5]? := g5
    obtain ⟨y5, z5⟩ := (RK.opens_slice Tryz.underlying38 (by kernel_rfl) (RK.opens_int Tryz.underlying3 (by kernel_rfl)) (by decide)).2 (e5.trans (List.getElem?_eq_getElem (by rw [hxl]; decide)))
    exact ⟨⟨y0, y1, y2, y3, y4, y5⟩, a0, a1, a2, a3, a4, a5, a6, a7, a8, a9, a10, a11, rfl, z0, z1, z2, z3, z4, z5⟩

structure D_gleberef12_Note where
  kind : Int
  from_ : Int
  to_ : Int
  path : D_api_Path
  epoch : Int
  index : Int
  holder : Int
  chain : (List Int)
  pend : D_gleberef11_Entry
  state : (List Int)
instance : Inhabited D_gleberef12_Note := ⟨⟨default, default, default, default, default, default, default, default, default, default⟩⟩
def D_gleberef12_Note.k : RK D_gleberef12_Note := ⟨22, fun w x cs => ∃ a0 a1 a2 a3 a4 a5 a6 a7 a8 a9 a10 a11 a12 a13 a14 a15 a16 a17 a18 a19 a20 a21, cs = [a0, a1, a2, a3, a4, a5, a6, a7, a8, a9, a10, a11, a12, a13, a14, a15, a16, a17, a18, a19, a20, a21] ∧ (RK.int .i64).K w x.kind [a0] ∧ (RK.int .i64).K w x.from_ [a1] ∧ (RK.int .i64).K w x.to_ [a2] ∧ D_api_Path.k.K w x.path [a3, a4] ∧ (RK.int .i64).K w x.epoch [a5] ∧ (RK.int .i64).K w x.index [a6] ∧ (RK.int .i64).K w x.holder [a7] ∧ (RK.slice (RK.int .i64)).K w x.chain [a8] ∧ D_gleberef11_Entry.k.K w x.pend [a9, a10, a11, a12, a13, a14, a15, a16, a17, a18, a19, a20] ∧ (RK.slice (RK.int .u8)).K w x.state [a21], fun hb ⟨a0, a1, a2, a3, a4, a5, a6, a7, a8, a9, a10, a11, a12, a13, a14, a15, a16, a17, a18, a19, a20, a21, h, h0, h1, h2, h3, h4, h5, h6, h7, h8, h9⟩ => ⟨a0, a1, a2, a3, a4, a5, a6, a7, a8, a9, a10, a11, a12, a13, a14, a15, a16, a17, a18, a19, a20, a21, h, (RK.int .i64).below hb h0, (RK.int .i64).below hb h1, (RK.int .i64).below hb h2, D_api_Path.k.below hb h3, (RK.int .i64).below hb h4, (RK.int .i64).below hb h5, (RK.int .i64).below hb h6, (RK.slice (RK.int .i64)).below hb h7, D_gleberef11_Entry.k.below hb h8, (RK.slice (RK.int .u8)).below hb h9⟩⟩
set_option maxRecDepth 100000 in
theorem D_gleberef12_Note.opens : D_gleberef12_Note.k.Opens Tryz.prog 43 := by
  refine ⟨by kernel_rfl, fun {H enc w base spare held fuel cs x} h => ?_⟩
  obtain ⟨xs, n, _, _, hlen, hxl, hg⟩ := DataW.trod_struct Tryz.underlying43 h
  have c3 : Tryz.prog.cellsOf 3 = 1 := by kernel_rfl
  have c35 : Tryz.prog.cellsOf 35 = 2 := by kernel_rfl
  have c38 : Tryz.prog.cellsOf 38 = 1 := by kernel_rfl
  have c40 : Tryz.prog.cellsOf 40 = 12 := by kernel_rfl
  have c41 : Tryz.prog.cellsOf 41 = 1 := by kernel_rfl
  have hl2 : cs.length = 22 := hlen.trans (show Tryz.prog.cellsOf 43 = 22 by kernel_rfl)
  match cs, hl2 with
  | [a0, a1, a2, a3, a4, a5, a6, a7, a8, a9, a10, a11, a12, a13, a14, a15, a16, a17, a18, a19, a20, a21], _ =>
    have hxl : xs.length = 10 := hxl
    have g0 : DataW.trod enc Tryz.prog w base spare held n 3 (List.take (Tryz.prog.cellsOf 3) (List.drop 0 [a0, a1, a2, a3, a4, a5, a6, a7, a8, a9, a10, a11, a12, a13, a14, a15, a16, a17, a18, a19, a20, a21])) = xs[0]? := hg 0 _ rfl
    rw [c3] at g0
    have e0 : DataW.trod enc Tryz.prog w base spare held n 3 [a0] = xs[0]? := g0
    obtain ⟨y0, z0⟩ := (RK.opens_int Tryz.underlying3 (by kernel_rfl)).2 (e0.trans (List.getElem?_eq_getElem (by rw [hxl]; decide)))
    have g1 : DataW.trod enc Tryz.prog w base spare held n 3 (List.take (Tryz.prog.cellsOf 3) (List.drop 1 [a0, a1, a2, a3, a4, a5, a6, a7, a8, a9, a10, a11, a12, a13, a14, a15, a16, a17, a18, a19, a20, a21])) = xs[1]? := hg 1 _ rfl
    rw [c3] at g1
    have e1 : DataW.trod enc Tryz.prog w base spare held n 3 [a1] = xs[1]? := g1
    obtain ⟨y1, z1⟩ := (RK.opens_int Tryz.underlying3 (by kernel_rfl)).2 (e1.trans (List.getElem?_eq_getElem (by rw [hxl]; decide)))
    have g2 : DataW.trod enc Tryz.prog w base spare held n 3 (List.take (Tryz.prog.cellsOf 3) (List.drop 2 [a0, a1, a2, a3, a4, a5, a6, a7, a8, a9, a10, a11, a12, a13, a14, a15, a16, a17, a18, a19, a20, a21])) = xs[2]? := hg 2 _ rfl
    rw [c3] at g2
    have e2 : DataW.trod enc Tryz.prog w base spare held n 3 [a2] = xs[2]? := g2
    obtain ⟨y2, z2⟩ := (RK.opens_int Tryz.underlying3 (by kernel_rfl)).2 (e2.trans (List.getElem?_eq_getElem (by rw [hxl]; decide)))
    have g3 : DataW.trod enc Tryz.prog w base spare held n 35 (List.take (Tryz.prog.cellsOf 35) (List.drop 3 [a0, a1, a2, a3, a4, a5, a6, a7, a8, a9, a10, a11, a12, a13, a14, a15, a16, a17, a18, a19, a20, a21])) = xs[3]? := hg 3 _ rfl
    rw [c35] at g3
    have e3 : DataW.trod enc Tryz.prog w base spare held n 35 [a3, a4] = xs[3]? := g3
    obtain ⟨y3, z3⟩ := D_api_Path.opens.2 (e3.trans (List.getElem?_eq_getElem (by rw [hxl]; decide)))
    have g4 : DataW.trod enc Tryz.prog w base spare held n 3 (List.take (Tryz.prog.cellsOf 3) (List.drop 5 [a0, a1, a2, a3, a4, a5, a6, a7, a8, a9, a10, a11, a12, a13, a14, a15, a16, a17, a18, a19, a20, a21])) = xs[4]? := hg 4 _ rfl
    rw [c3] at g4
    have e4 : DataW.trod enc Tryz.prog w base spare held n 3 [a5] = xs[4]? := g4
    obtain ⟨y4, z4⟩ := (RK.opens_int Tryz.underlying3 (by kernel_rfl)).2 (e4.trans (List.getElem?_eq_getElem (by rw [hxl]; decide)))
    have g5 : DataW.trod enc Tryz.prog w base spare held n 3 (List.take (Tryz.prog.cellsOf 3) (List.drop 6 [a0, a1, a2, a3, a4, a5, a6, a7, a8, a9, a10, a11, a12, a13, a14, a15, a16, a17, a18, a19, a20, a21])) = xs[5]? := hg 5 _ rfl
    rw [c3] at g5
    have e5 : DataW.trod enc Tryz.prog w base spare held n 3 [a6] = xs[5]? := g5
    obtain ⟨y5, z5⟩ := (RK.opens_int Tryz.underlying3 (by kernel_rfl)).2 (e5.trans (List.getElem?_eq_getElem (by rw [hxl]; decide)))
    have g6 : DataW.trod enc Tryz.prog w base spare held n 3 (List.take (Tryz.prog.cellsOf 3) (List.drop 7 [a0, a1, a2, a3, a4, a5, a6, a7, a8, a9, a10, a11, a12, a13, a14, a15, a16, a17, a18, a19, a20, a21])) = xs[6]? := hg 6 _ rfl
    rw [c3] at g6
    have e6 : DataW.trod enc Tryz.prog w base spare held n 3 [a7] = xs[6]? := g6
    obtain ⟨y6, z6⟩ := (RK.opens_int Tryz.underlying3 (by kernel_rfl)).2 (e6.trans (List.getElem?_eq_getElem (by rw [hxl]; decide)))
    have g7 : DataW.trod enc Tryz.prog w base spare held n 38 (List.take (Tryz.prog.cellsOf 38) (List.drop 8 [a0, a1, a2, a3, a4, a5, a6, a7, a8, a9, a10, a11, a12, a13, a14, a15, a16, a17, a18, a19, a20, a21])) = xs[7]? := hg 7 _ rfl
    rw [c38] at g7
    have e7 : DataW.trod enc Tryz.prog w base spare held n 38 [a8] = xs[7]? := g7
    obtain ⟨y7, z7⟩ := (RK.opens_slice Tryz.underlying38 (by kernel_rfl) (RK.opens_int Tryz.underlying3 (by kernel_rfl)) (by decide)).2 (e7.trans (List.getElem?_eq_getElem (by rw [hxl]; decide)))
    have g8 : DataW.trod enc Tryz.prog w base spare held n 40 (List.take (Tryz.prog.cellsOf 40) (List.drop 9 [a0, a1, a2, a3, a4, a5, a6, a7, a8, a9, a10, a11, a12, a13, a14, a15, a16, a17, a18, a19, a20, a21])) = xs[8]? := hg 8 _ rfl
    rw [c40] at g8
    have e8 : DataW.trod enc Tryz.prog w base spare held n 40 [a9, a10, a11, a12, a13, a14, a15, a16, a17, a18, a19, a20] = xs[8]? := g8
    obtain ⟨y8, z8⟩ := D_gleberef11_Entry.opens.2 (e8.trans (List.getElem?_eq_getElem (by rw [hxl]; decide)))
    have g9 : DataW.trod enc Tryz.prog w base spare held n 41 (List.take (Tryz.prog.cellsOf 41) (List.drop 21 [a0, a1, a2, a3, a4, a5, a6, a7, a8, a9, a10, a11, a12, a13, a14, a15, a16, a17, a18, a19, a20, a21])) = xs[9]? := hg 9 _ rfl
    rw [c41] at g9
    have e9 : DataW.trod enc Tryz.prog w base spare held n 41 [a21] = xs[9]? := g9
    obtain ⟨y9, z9⟩ := (RK.opens_slice Tryz.underlying41 (by kernel_rfl) (RK.opens_int Tryz.underlying5 (by kernel_rfl)) (by decide)).2 (e9.trans (List.getElem?_eq_getElem (by rw [hxl]; decide)))
    exact ⟨⟨y0, y1, y2, y3, y4, y5, y6, y7, y8, y9⟩, a0, a1, a2, a3, a4, a5, a6, a7, a8, a9, a10, a11, a12, a13, a14, a15, a16, a17, a18, a19, a20, a21, rfl, z0, z1, z2, z3, z4, z5, z6, z7, z8, z9⟩

structure D_glebelaw22_Act where
  kind : Int
  n : Int
  p : D_api_Path
  e : D_gleberef11_Entry
  note : D_gleberef12_Note
instance : Inhabited D_glebelaw22_Act := ⟨⟨default, default, default, default, default⟩⟩
def D_glebelaw22_Act.k : RK D_glebelaw22_Act := ⟨38, fun w x cs => ∃ a0 a1 a2 a3 a4 a5 a6 a7 a8 a9 a10 a11 a12 a13 a14 a15 a16 a17 a18 a19 a20 a21 a22 a23 a24 a25 a26 a27 a28 a29 a30 a31 a32 a33 a34 a35 a36 a37, cs = [a0, a1, a2, a3, a4, a5, a6, a7, a8, a9, a10, a11, a12, a13, a14, a15, a16, a17, a18, a19, a20, a21, a22, a23, a24, a25, a26, a27, a28, a29, a30, a31, a32, a33, a34, a35, a36, a37] ∧ (RK.int .i64).K w x.kind [a0] ∧ (RK.int .i64).K w x.n [a1] ∧ D_api_Path.k.K w x.p [a2, a3] ∧ D_gleberef11_Entry.k.K w x.e [a4, a5, a6, a7, a8, a9, a10, a11, a12, a13, a14, a15] ∧ D_gleberef12_Note.k.K w x.note [a16, a17, a18, a19, a20, a21, a22, a23, a24, a25, a26, a27, a28, a29, a30, a31, a32, a33, a34, a35, a36, a37], fun hb ⟨a0, a1, a2, a3, a4, a5, a6, a7, a8, a9, a10, a11, a12, a13, a14, a15, a16, a17, a18, a19, a20, a21, a22, a23, a24, a25, a26, a27, a28, a29, a30, a31, a32, a33, a34, a35, a36, a37, h, h0, h1, h2, h3, h4⟩ => ⟨a0, a1, a2, a3, a4, a5, a6, a7, a8, a9, a10, a11, a12, a13, a14, a15, a16, a17, a18, a19, a20, a21, a22, a23, a24, a25, a26, a27, a28, a29, a30, a31, a32, a33, a34, a35, a36, a37, h, (RK.int .i64).below hb h0, (RK.int .i64).below hb h1, D_api_Path.k.below hb h2, D_gleberef11_Entry.k.below hb h3, D_gleberef12_Note.k.below hb h4⟩⟩
set_option maxRecDepth 100000 in
theorem D_glebelaw22_Act.opens : D_glebelaw22_Act.k.Opens Tryz.prog 45 := by
  refine ⟨by kernel_rfl, fun {H enc w base spare held fuel cs x} h => ?_⟩
  obtain ⟨xs, n, _, _, hlen, hxl, hg⟩ := DataW.trod_struct Tryz.underlying45 h
  have c3 : Tryz.prog.cellsOf 3 = 1 := by kernel_rfl
  have c35 : Tryz.prog.cellsOf 35 = 2 := by kernel_rfl
  have c40 : Tryz.prog.cellsOf 40 = 12 := by kernel_rfl
  have c43 : Tryz.prog.cellsOf 43 = 22 := by kernel_rfl
  have hl2 : cs.length = 38 := hlen.trans (show Tryz.prog.cellsOf 45 = 38 by kernel_rfl)
  match cs, hl2 with
  | a0 :: a1 :: a2 :: a3 :: a4 :: a5 :: a6 :: a7 :: a8 :: a9 :: a10 :: a11 :: a12 :: a13 :: a14 :: a15 :: a16 :: a17 :: a18 :: a19 :: a20 :: a21 :: a22 :: a23 :: a24 :: a25 :: a26 :: a27 :: a28 :: a29 :: a30 :: a31 :: a32 :: a33 :: a34 :: a35 :: a36 :: a37 :: [], _ =>
    have hxl : xs.length = 5 := hxl
    have g0 : DataW.trod enc Tryz.prog w base spare held n 3 (List.take (Tryz.prog.cellsOf 3) (List.drop 0 [a0, a1, a2, a3, a4, a5, a6, a7, a8, a9, a10, a11, a12, a13, a14, a15, a16, a17, a18, a19, a20, a21, a22, a23, a24, a25, a26, a27, a28, a29, a30, a31, a32, a33, a34, a35, a36, a37])) = xs[0]? := hg 0 _ rfl
    rw [c3] at g0
    have e0 : DataW.trod enc Tryz.prog w base spare held n 3 [a0] = xs[0]? := g0
    obtain ⟨y0, z0⟩ := (RK.opens_int Tryz.underlying3 (by kernel_rfl)).2 (e0.trans (List.getElem?_eq_getElem (by rw [hxl]; decide)))
    have g1 : DataW.trod enc Tryz.prog w base spare held n 3 (List.take (Tryz.prog.cellsOf 3) (List.drop 1 [a0, a1, a2, a3, a4, a5, a6, a7, a8, a9, a10, a11, a12, a13, a14, a15, a16, a17, a18, a19, a20, a21, a22, a23, a24, a25, a26, a27, a28, a29, a30, a31, a32, a33, a34, a35, a36, a37])) = xs[1]? := hg 1 _ rfl
    rw [c3] at g1
    have e1 : DataW.trod enc Tryz.prog w base spare held n 3 [a1] = xs[1]? := g1
    obtain ⟨y1, z1⟩ := (RK.opens_int Tryz.underlying3 (by kernel_rfl)).2 (e1.trans (List.getElem?_eq_getElem (by rw [hxl]; decide)))
    have g2 : DataW.trod enc Tryz.prog w base spare held n 35 (List.take (Tryz.prog.cellsOf 35) (List.drop 2 [a0, a1, a2, a3, a4, a5, a6, a7, a8, a9, a10, a11, a12, a13, a14, a15, a16, a17, a18, a19, a20, a21, a22, a23, a24, a25, a26, a27, a28, a29, a30, a31, a32, a33, a34, a35, a36, a37])) = xs[2]? := hg 2 _ rfl
    rw [c35] at g2
    have e2 : DataW.trod enc Tryz.prog w base spare held n 35 [a2, a3] = xs[2]? := g2
    obtain ⟨y2, z2⟩ := D_api_Path.opens.2 (e2.trans (List.getElem?_eq_getElem (by rw [hxl]; decide)))
    have g3 : DataW.trod enc Tryz.prog w base spare held n 40 (List.take (Tryz.prog.cellsOf 40) (List.drop 4 [a0, a1, a2, a3, a4, a5, a6, a7, a8, a9, a10, a11, a12, a13, a14, a15, a16, a17, a18, a19, a20, a21, a22, a23, a24, a25, a26, a27, a28, a29, a30, a31, a32, a33, a34, a35, a36, a37])) = xs[3]? := hg 3 _ rfl
    rw [c40] at g3
    have e3 : DataW.trod enc Tryz.prog w base spare held n 40 [a4, a5, a6, a7, a8, a9, a10, a11, a12, a13, a14, a15] = xs[3]? := g3
    obtain ⟨y3, z3⟩ := D_gleberef11_Entry.opens.2 (e3.trans (List.getElem?_eq_getElem (by rw [hxl]; decide)))
    have g4 : DataW.trod enc Tryz.prog w base spare held n 43 (List.take (Tryz.prog.cellsOf 43) (List.drop 16 [a0, a1, a2, a3, a4, a5, a6, a7, a8, a9, a10, a11, a12, a13, a14, a15, a16, a17, a18, a19, a20, a21, a22, a23, a24, a25, a26, a27, a28, a29, a30, a31, a32, a33, a34, a35, a36, a37])) = xs[4]? := hg 4 _ rfl
    rw [c43] at g4
    have e4 : DataW.trod enc Tryz.prog w base spare held n 43 [a16, a17, a18, a19, a20, a21, a22, a23, a24, a25, a26, a27, a28, a29, a30, a31, a32, a33, a34, a35, a36, a37] = xs[4]? := g4
    obtain ⟨y4, z4⟩ := D_gleberef12_Note.opens.2 (e4.trans (List.getElem?_eq_getElem (by rw [hxl]; decide)))
    exact ⟨⟨y0, y1, y2, y3, y4⟩, a0, a1, a2, a3, a4, a5, a6, a7, a8, a9, a10, a11, a12, a13, a14, a15, a16, a17, a18, a19, a20, a21, a22, a23, a24, a25, a26, a27, a28, a29, a30, a31, a32, a33, a34, a35, a36, a37, rfl, z0, z1, z2, z3, z4⟩

end Go.Proofs.YthgheamplcejkaaGreat
