/- The structs that come in as arguments, as data: how their cells read. -/
import Derived.Test.YtjmlcjkidblbhaaGreatRows
import Derived.Test.YtjmlcjkidblbhaaGreatKD
namespace Go.Proofs.YtjmlcjkidblbhaaGreat
open Go.RowKit Go.ChangeShapes Go.WideShapes Go.Deep

structure D_api_Path where
  depth : Int
  bits : Int
instance : Inhabited D_api_Path := ⟨⟨default, default⟩⟩
def D_api_Path.k : RK D_api_Path := ⟨2, fun w x cs => ∃ a0 a1, cs = [a0, a1] ∧ (RK.int .i64).K w x.depth [a0] ∧ (RK.int .i64).K w x.bits [a1], fun hb ⟨a0, a1, h, h0, h1⟩ => ⟨a0, a1, h, (RK.int .i64).below hb h0, (RK.int .i64).below hb h1⟩⟩
set_option maxRecDepth 100000 in
theorem D_api_Path.opens : D_api_Path.k.Opens Tryz.prog 24 := by
  refine ⟨by kernel_rfl, fun {H enc w base spare held fuel cs x} h => ?_⟩
  obtain ⟨xs, n, _, _, hlen, hxl, hg⟩ := DataW.trod_struct Tryz.underlying24 h
  have c3 : Tryz.prog.cellsOf 3 = 1 := by kernel_rfl
  have hl2 : cs.length = 2 := hlen.trans (show Tryz.prog.cellsOf 24 = 2 by kernel_rfl)
  match cs, hl2 with
  | [a0, a1], _ =>
    have hxl : xs.length = 2 := hxl
    have g0 : DataW.trod enc Tryz.prog w base spare held n 3 (List.take (Tryz.prog.cellsOf 3) (List.drop 0 [a0, a1])) = xs[0]? := hg 0 _ rfl
    rw [c3] at g0
    have e0 : DataW.trod enc Tryz.prog w base spare held n 3 [a0] = xs[0]? := g0
    obtain ⟨y0, z0⟩ := (RK.opens_int Tryz.underlying3 (by kernel_rfl)).2 (e0.trans (List.getElem?_eq_getElem (by rw [hxl]; decide)))
    have g1 : DataW.trod enc Tryz.prog w base spare held n 3 (List.take (Tryz.prog.cellsOf 3) (List.drop 1 [a0, a1])) = xs[1]? := hg 1 _ rfl
    rw [c3] at g1
    have e1 : DataW.trod enc Tryz.prog w base spare held n 3 [a1] = xs[1]? := g1
    obtain ⟨y1, z1⟩ := (RK.opens_int Tryz.underlying3 (by kernel_rfl)).2 (e1.trans (List.getElem?_eq_getElem (by rw [hxl]; decide)))
    exact ⟨⟨y0, y1⟩, a0, a1, rfl, z0, z1⟩
def D_api_Path.enc (x : D_api_Path) : List Value := [.int .i64 x.depth, .int .i64 x.bits]
theorem D_api_Path.flat {w : World} {x : D_api_Path} {cs : List Value} (h : D_api_Path.k.K w x cs) : cs = x.enc := by
  obtain ⟨a0, a1, rfl, h0, h1⟩ := h
  obtain ⟨e0, _⟩ := h0
  obtain ⟨e1, _⟩ := h1
  simp_all [D_api_Path.enc]

structure D_gleberef13_Zone where
  path : D_api_Path
  epoch : Int
  holder : Int
  chain : (List Int)
instance : Inhabited D_gleberef13_Zone := ⟨⟨default, default, default, default⟩⟩
def D_gleberef13_Zone.k : RK D_gleberef13_Zone := ⟨5, fun w x cs => ∃ a0 a1 a2 a3 a4, cs = [a0, a1, a2, a3, a4] ∧ D_api_Path.k.K w x.path [a0, a1] ∧ (RK.int .i64).K w x.epoch [a2] ∧ (RK.int .i64).K w x.holder [a3] ∧ (RK.slice (RK.int .i64)).K w x.chain [a4], fun hb ⟨a0, a1, a2, a3, a4, h, h0, h1, h2, h3⟩ => ⟨a0, a1, a2, a3, a4, h, D_api_Path.k.below hb h0, (RK.int .i64).below hb h1, (RK.int .i64).below hb h2, (RK.slice (RK.int .i64)).below hb h3⟩⟩
set_option maxRecDepth 100000 in
theorem D_gleberef13_Zone.opens : D_gleberef13_Zone.k.Opens Tryz.prog 27 := by
  refine ⟨by kernel_rfl, fun {H enc w base spare held fuel cs x} h => ?_⟩
  obtain ⟨xs, n, _, _, hlen, hxl, hg⟩ := DataW.trod_struct Tryz.underlying27 h
  have c3 : Tryz.prog.cellsOf 3 = 1 := by kernel_rfl
  have c24 : Tryz.prog.cellsOf 24 = 2 := by kernel_rfl
  have c25 : Tryz.prog.cellsOf 25 = 1 := by kernel_rfl
  have hl2 : cs.length = 5 := hlen.trans (show Tryz.prog.cellsOf 27 = 5 by kernel_rfl)
  match cs, hl2 with
  | [a0, a1, a2, a3, a4], _ =>
    have hxl : xs.length = 4 := hxl
    have g0 : DataW.trod enc Tryz.prog w base spare held n 24 (List.take (Tryz.prog.cellsOf 24) (List.drop 0 [a0, a1, a2, a3, a4])) = xs[0]? := hg 0 _ rfl
    rw [c24] at g0
    have e0 : DataW.trod enc Tryz.prog w base spare held n 24 [a0, a1] = xs[0]? := g0
    obtain ⟨y0, z0⟩ := D_api_Path.opens.2 (e0.trans (List.getElem?_eq_getElem (by rw [hxl]; decide)))
    have g1 : DataW.trod enc Tryz.prog w base spare held n 3 (List.take (Tryz.prog.cellsOf 3) (List.drop 2 [a0, a1, a2, a3, a4])) = xs[1]? := hg 1 _ rfl
    rw [c3] at g1
    have e1 : DataW.trod enc Tryz.prog w base spare held n 3 [a2] = xs[1]? := g1
    obtain ⟨y1, z1⟩ := (RK.opens_int Tryz.underlying3 (by kernel_rfl)).2 (e1.trans (List.getElem?_eq_getElem (by rw [hxl]; decide)))
    have g2 : DataW.trod enc Tryz.prog w base spare held n 3 (List.take (Tryz.prog.cellsOf 3) (List.drop 3 [a0, a1, a2, a3, a4])) = xs[2]? := hg 2 _ rfl
    rw [c3] at g2
    have e2 : DataW.trod enc Tryz.prog w base spare held n 3 [a3] = xs[2]? := g2
    obtain ⟨y2, z2⟩ := (RK.opens_int Tryz.underlying3 (by kernel_rfl)).2 (e2.trans (List.getElem?_eq_getElem (by rw [hxl]; decide)))
    have g3 : DataW.trod enc Tryz.prog w base spare held n 25 (List.take (Tryz.prog.cellsOf 25) (List.drop 4 [a0, a1, a2, a3, a4])) = xs[3]? := hg 3 _ rfl
    rw [c25] at g3
    have e3 : DataW.trod enc Tryz.prog w base spare held n 25 [a4] = xs[3]? := g3
    obtain ⟨y3, z3⟩ := (RK.opens_slice Tryz.underlying25 (by kernel_rfl) (RK.opens_int Tryz.underlying3 (by kernel_rfl)) (by decide)).2 (e3.trans (List.getElem?_eq_getElem (by rw [hxl]; decide)))
    exact ⟨⟨y0, y1, y2, y3⟩, a0, a1, a2, a3, a4, rfl, z0, z1, z2, z3⟩

end Go.Proofs.YtjmlcjkidblbhaaGreat
