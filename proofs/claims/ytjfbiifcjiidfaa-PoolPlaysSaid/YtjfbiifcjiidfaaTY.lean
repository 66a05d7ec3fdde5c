/- The structs that come in as arguments, as data: how their cells read. -/
import Derived.Test.YtjfbiifcjiidfaaRows
import Derived.Test.YtjfbiifcjiidfaaKD
namespace Go.Proofs.Ytjfbiifcjiidfaa
open Go.RowKit Go.ChangeShapes Go.WideShapes Go.Deep

structure D_gleberef20_Parcel where
  from_ : Int
  to_ : Int
  b : (List Int)
instance : Inhabited D_gleberef20_Parcel := ⟨⟨default, default, default⟩⟩
def D_gleberef20_Parcel.k : RK D_gleberef20_Parcel := ⟨3, fun w x cs => ∃ a0 a1 a2, cs = [a0, a1, a2] ∧ (RK.int .i64).K w x.from_ [a0] ∧ (RK.int .i64).K w x.to_ [a1] ∧ (RK.slice (RK.int .u8)).K w x.b [a2], fun hb ⟨a0, a1, a2, h, h0, h1, h2⟩ => ⟨a0, a1, a2, h, (RK.int .i64).below hb h0, (RK.int .i64).below hb h1, (RK.slice (RK.int .u8)).below hb h2⟩⟩
theorem D_gleberef20_Parcel.opens : D_gleberef20_Parcel.k.Opens Try.prog 32 := by
  refine ⟨by kernel_rfl, fun {H enc w base spare held fuel cs x} h => ?_⟩
  obtain ⟨xs, n, _, _, hlen, hxl, hg⟩ := DataW.trod_struct Try.underlying32 h
  have c3 : Try.prog.cellsOf 3 = 1 := by kernel_rfl
  have c30 : Try.prog.cellsOf 30 = 1 := by kernel_rfl
  match cs, hlen.trans (show Try.prog.cellsOf 32 = 3 by kernel_rfl) with
  | [a0, a1, a2], _ =>
    have hxl : xs.length = 3 := hxl
    have g0 : DataW.trod enc Try.prog w base spare held n 3 (List.take (Try.prog.cellsOf 3) (List.drop 0 [a0, a1, a2])) = xs[0]? := hg 0 _ rfl
    rw [c3] at g0
    have e0 : DataW.trod enc Try.prog w base spare held n 3 [a0] = xs[0]? := g0
    obtain ⟨y0, z0⟩ := (RK.opens_int Try.underlying3 (by kernel_rfl)).2 (e0.trans (List.getElem?_eq_getElem (by rw [hxl]; decide)))
    have g1 : DataW.trod enc Try.prog w base spare held n 3 (List.take (Try.prog.cellsOf 3) (List.drop 1 [a0, a1, a2])) = xs[1]? := hg 1 _ rfl
    rw [c3] at g1
    have e1 : DataW.trod enc Try.prog w base spare held n 3 [a1] = xs[1]? := g1
    obtain ⟨y1, z1⟩ := (RK.opens_int Try.underlying3 (by kernel_rfl)).2 (e1.trans (List.getElem?_eq_getElem (by rw [hxl]; decide)))
    have g2 : DataW.trod enc Try.prog w base spare held n 30 (List.take (Try.prog.cellsOf 30) (List.drop 2 [a0, a1, a2])) = xs[2]? := hg 2 _ rfl
    rw [c30] at g2
    have e2 : DataW.trod enc Try.prog w base spare held n 30 [a2] = xs[2]? := g2
    obtain ⟨y2, z2⟩ := (RK.opens_slice Try.underlying30 (by kernel_rfl) (RK.opens_int Try.underlying5 (by kernel_rfl)) (by decide)).2 (e2.trans (List.getElem?_eq_getElem (by rw [hxl]; decide)))
    exact ⟨⟨y0, y1, y2⟩, a0, a1, a2, rfl, z0, z1, z2⟩

structure D_glebelaw20_Act where
  kind : Int
  i : Int
  x : D_gleberef20_Parcel
instance : Inhabited D_glebelaw20_Act := ⟨⟨default, default, default⟩⟩
def D_glebelaw20_Act.k : RK D_glebelaw20_Act := ⟨5, fun w x cs => ∃ a0 a1 a2 a3 a4, cs = [a0, a1, a2, a3, a4] ∧ (RK.int .i64).K w x.kind [a0] ∧ (RK.int .i64).K w x.i [a1] ∧ D_gleberef20_Parcel.k.K w x.x [a2, a3, a4], fun hb ⟨a0, a1, a2, a3, a4, h, h0, h1, h2⟩ => ⟨a0, a1, a2, a3, a4, h, (RK.int .i64).below hb h0, (RK.int .i64).below hb h1, D_gleberef20_Parcel.k.below hb h2⟩⟩
theorem D_glebelaw20_Act.opens : D_glebelaw20_Act.k.Opens Try.prog 34 := by
  refine ⟨by kernel_rfl, fun {H enc w base spare held fuel cs x} h => ?_⟩
  obtain ⟨xs, n, _, _, hlen, hxl, hg⟩ := DataW.trod_struct Try.underlying34 h
  have c3 : Try.prog.cellsOf 3 = 1 := by kernel_rfl
  have c32 : Try.prog.cellsOf 32 = 3 := by kernel_rfl
  match cs, hlen.trans (show Try.prog.cellsOf 34 = 5 by kernel_rfl) with
  | [a0, a1, a2, a3, a4], _ =>
    have hxl : xs.length = 3 := hxl
    have g0 : DataW.trod enc Try.prog w base spare held n 3 (List.take (Try.prog.cellsOf 3) (List.drop 0 [a0, a1, a2, a3, a4])) = xs[0]? := hg 0 _ rfl
    rw [c3] at g0
    have e0 : DataW.trod enc Try.prog w base spare held n 3 [a0] = xs[0]? := g0
    obtain ⟨y0, z0⟩ := (RK.opens_int Try.underlying3 (by kernel_rfl)).2 (e0.trans (List.getElem?_eq_getElem (by rw [hxl]; decide)))
    have g1 : DataW.trod enc Try.prog w base spare held n 3 (List.take (Try.prog.cellsOf 3) (List.drop 1 [a0, a1, a2, a3, a4])) = xs[1]? := hg 1 _ rfl
    rw [c3] at g1
    have e1 : DataW.trod enc Try.prog w base spare held n 3 [a1] = xs[1]? := g1
    obtain ⟨y1, z1⟩ := (RK.opens_int Try.underlying3 (by kernel_rfl)).2 (e1.trans (List.getElem?_eq_getElem (by rw [hxl]; decide)))
    have g2 : DataW.trod enc Try.prog w base spare held n 32 (List.take (Try.prog.cellsOf 32) (List.drop 2 [a0, a1, a2, a3, a4])) = xs[2]? := hg 2 _ rfl
    rw [c32] at g2
    have e2 : DataW.trod enc Try.prog w base spare held n 32 [a2, a3, a4] = xs[2]? := g2
    obtain ⟨y2, z2⟩ := D_gleberef20_Parcel.opens.2 (e2.trans (List.getElem?_eq_getElem (by rw [hxl]; decide)))
    exact ⟨⟨y0, y1, y2⟩, a0, a1, a2, a3, a4, rfl, z0, z1, z2⟩

end Go.Proofs.Ytjfbiifcjiidfaa
