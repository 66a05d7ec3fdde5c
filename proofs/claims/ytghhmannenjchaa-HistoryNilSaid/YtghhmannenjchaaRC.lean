/- The walk through law8's Own: the records, a row of the call's own. -/
import Derived.Test.YtghhmannenjchaaCV
namespace Go.Proofs.Ytghhmannenjchaa
open Go.RowKit

def recV (l : List Rc) : List Value := l.flatMap D_gleberef07_Rec.cs
theorem recV_length (l : List Rc) : (recV l).length = l.length * 5 := by
  induction l with
  | nil => rfl
  | cons x l ih => show (D_gleberef07_Rec.cs x ++ recV l).length = _; rw [List.length_append, ih]; simp [D_gleberef07_Rec.cs]; omega
theorem recV_snoc {l : List Rc} {k : Nat} (h : k < l.length) : recV (l.take (k + 1)) = recV (l.take k) ++ D_gleberef07_Rec.cs l[k] := by
  unfold recV
  rw [List.take_succ_eq_append_getElem h, List.flatMap_append]
  simp only [List.flatMap_cons, List.flatMap_nil, List.append_nil]
theorem info_rec : (Try.prog.info? 64).map (fun i => (i.zero, i.size, i.bytes)) = some (some (.agg #[.int .i64 0, .int .i64 0, .string ByteArray.empty, .string ByteArray.empty, .int .i64 0]), 5, 56) := by kernel_rfl
set_option maxHeartbeats 1000000 in
theorem recs_any (A : Option Addr) (c : Nat) (l : List Rc) (w : World) (hv : RdK D_gleberef07_Rec.k w (.slice A l.length c) l) (hn : l.length ≤ 1000) :
    Calls Try.prog 23 #[.slice A l.length c] w fun e w' => ∃ v', e = .returned v' ∧ w'.ownsRow w.heap.size 64 5 v' l.length (recV l) ∧ Below w.heap.size w w' := by
  obtain ⟨i0, hi, hz0, hz1, hz2⟩ := info_parts info_rec
  replace hv := Lib.hid hv
  go_enter Try.func23, Try.ntmps23
  go_wp2
  go_loopw [3, 4] (fun v i wx => ∃ k A2 c2, k ≤ l.length ∧ v = .slice A2 k c2 ∧ i = .int .i64 k ∧ Hid (wx.ownsRow w.heap.size 64 5 (.slice A2 k c2) k (recV (l.take k)) ∧ Below w.heap.size w wx)) (fun _ i _ => l.length - (intOf i).toNat)
  case atStart => exact ⟨0, none, 0, Nat.zero_le _, rfl, rfl, Lib.hid ⟨World.ownsRow_nil _ _ _ _, Below.refl _ _⟩⟩
  case round =>
    obtain ⟨k, A2, c2, hk, rfl, rfl, HR⟩ := hrel
    by_cases hlt : k < l.length
    · obtain ⟨hown, hB⟩ := HR.out
      obtain ⟨g, o, rfl, hg, _, cs, _, hK, hc⟩ := hv.out.at_ k hlt
      obtain ⟨rfl, hW⟩ := D_gleberef07_Rec.cells hK
      have hr := fun i u h => (hB.cell (p := ⟨g, o + k * 5 + i, none⟩) hg).trans (hc i u h)
      have hsn := recV_snoc hlt
      generalize l[k] = x at *
      have r0 : wr.cell? ⟨g, o + k * 5, none⟩ = some (.int .i64 x.at_.x) := hr 0 _ rfl
      have r1 : wr.cell? ⟨g, o + k * 5 + 1, none⟩ = some (.int .i64 x.at_.y) := hr 1 _ rfl
      have r2 : wr.cell? ⟨g, o + k * 5 + 2, none⟩ = some (.string x.key) := hr 2 _ rfl
      have r3 : wr.cell? ⟨g, o + k * 5 + 3, none⟩ = some (.string x.value) := hr 3 _ rfl
      have r4 : wr.cell? ⟨g, o + k * 5 + 4, none⟩ = some (.int .i64 x.ver) := hr 4 _ rfl
      have hi0 : (k : Int) < (l.length : Int) := by omega
      have hi1 : decide (k < l.length) = true := decide_eq_true hlt
      have hcall := rec_any x wr
      unfold D_gleberef07_Rec.cs at hcall hsn
      clear hK hc hW hr
      replace hcall := Lib.hid hcall
      replace hown := Lib.hid hown
      replace hB := Lib.hid hB
      replace hsn := Lib.hid hsn
      go_wp2_with (fail)
      refine hcall.out.mono ?_
      rintro e w3 ⟨rfl, hb3⟩
      have hown4 := (own_fr hown.out (Fr.of_below hb3 : Fr (fun _ => False) wr w3) (fun _ _ h => h)).alloc (.cells #[.int .i64 x.at_.x, .int .i64 x.at_.y, .string x.key, .string x.value, .int .i64 x.ver] 64)
      have hB3 := hB.out.trans (hb3.mono hB.out.size)
      have hnew := cells_new w3 [.int .i64 x.at_.x, .int .i64 x.at_.y, .string x.key, .string x.value, .int .i64 x.ver] 64
      replace hown4 := Lib.hid hown4
      replace hB3 := Lib.hid hB3
      replace hnew := Lib.hid hnew
      clear hb3
      go_wp2_with (at_builtin; refine wpList_append_own _ rfl _ _ 51 rfl w.heap.size 64 i0 _ 5 56 Try.underlying51 hi hz0 hz1 hz2 rfl (by decide) _ _ _ rfl hown4.out ⟨w3.heap.size, 0, none⟩ 1 1 [.int .i64 x.at_.x, .int .i64 x.at_.y, .string x.key, .string x.value, .int .i64 x.ver] rfl rfl hnew.out ?c2 ?c3 ?c4 ?c5 ?_)
      case c2 => intro u hu; simp at hu; rcases hu with rfl | rfl | rfl | rfl | rfl <;> rfl
      case c3 => unfold maxLen; omega
      case c4 => omega
      case c5 => have := hB3.out.size; simp; omega
      intro v' w9 hown9 hgr _
      rw [← hsn.out] at hown9
      obtain ⟨A9, c9, rfl, _⟩ := own_slice hown9
      have hbase := own_base hown4.out
      have hB9 : Below w.heap.size w w9 := (hB3.out.alloc hB3.out.size _).grown hgr (by have := hB3.out.size; simp; omega) hbase
      replace hown9 := Lib.hid hown9
      replace hB9 := Lib.hid hB9
      clear hgr hbase
      go_wp2
      go_roundw
      case rel => exact ⟨k + 1, A9, c9, by omega, rfl, by go_num, Lib.hid ⟨hown9.out, hB9.out⟩⟩
      case measure => simp [intOf]; omega
    · obtain rfl : k = l.length := by omega
      rw [List.take_length] at HR
      have hi0 : decide (l.length < l.length) = false := by simp
      go_wp2
      go_ret
      exact ⟨_, rfl, HR.out⟩
end Go.Proofs.Ytghhmannenjchaa
