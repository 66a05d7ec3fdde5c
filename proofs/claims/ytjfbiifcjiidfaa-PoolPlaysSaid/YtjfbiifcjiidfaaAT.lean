/- The walk through At. -/
import Derived.Test.YtjfbiifcjiidfaaC
namespace Go.Proofs.Ytjfbiifcjiidfaa
open Go.RowKit

theorem PA.of_below {β b : Nat} {v : Value} {bs : List Value} {s : PS} {F : Nat → Prop} {w w' : World} (h : PA β b v bs s F w) (hb : Below w.heap.size w w') : PA β b v bs s F w' :=
  ⟨block_kept h.blk hb, h.low, h.pos, own_fr h.row (Fr.of_below (S := fun _ => False) hb) (fun _ _ h => h), h.len, fun i h1 h2 => (h.byt i h1 h2).below hb, fun i h1 g hg => by obtain ⟨hF, c, fz, hc⟩ := h.own i h1 g hg; exact ⟨hF, c, fz, block_kept hc hb⟩⟩
theorem PA.lt {β b : Nat} {v : Value} {bs : List Value} {s : PS} {F : Nat → Prop} {w : World} (h : PA β b v bs s F w) : b < w.heap.size := lt_of_block h.blk
def zeroP : Array Value := #[.int .i64 0, .int .i64 0, .slice none 0 0]

set_option maxHeartbeats 1000000 in
theorem at_out {β b : Nat} {v : Value} {bs : List Value} {s : PS} {F : Nat → Prop} {w : World} (h : PA β b v bs s F w) (i : Int) (hi : i < 0 ∨ (s.l.length : Int) ≤ i) :
    Calls Try.prog 16 #[.pointer (some ⟨b, 0, none⟩), .int .i64 i] w fun e w' => e = .returned (.tuple #[.agg zeroP, .bool false]) ∧ Below w.heap.size w w' := by
  have h1 := h.of_below ((Below.refl _ w).alloc (Nat.le_refl _) (.cells zeroP 37))
  have c2 : (w.alloc (.cells zeroP 37)).cell? ⟨b, 2, none⟩ = some v := cell_of_block h1.blk 2
  obtain ⟨A, c, rfl, _⟩ := own_slice h.row
  have hlb := h.lt
  have hne : ¬ b = w.heap.size := by omega
  unfold zeroP at *
  replace h := Lib.hid h
  replace h1 := Lib.hid h1
  cases hneg : decide (i < 0)
  · have hge : decide ((s.l.length : Int) ≤ i) = true := by simp at hneg ⊢; omega
    clear hi
    go_enter Try.func16, Try.ntmps16
    go_wp2_with (go_at_call 29; refine (none_pool h1.out).mono ?_; rintro e w1 ⟨rfl, rfl⟩)
    refine bodyPost_ret (by simp [results, Try.results16, go_sem]) rfl ⟨rfl, (Below.refl _ w).alloc (Nat.le_refl _) _⟩
  · clear hi
    go_enter Try.func16, Try.ntmps16
    go_wp2_with (go_at_call 29; refine (none_pool h1.out).mono ?_; rintro e w1 ⟨rfl, rfl⟩)
    refine bodyPost_ret (by simp [results, Try.results16, go_sem]) rfl ⟨rfl, (Below.refl _ w).alloc (Nat.le_refl _) _⟩

set_option maxHeartbeats 1000000 in
theorem at_in {β b : Nat} {v : Value} {bs : List Value} {s : PS} {F : Nat → Prop} {w : World} (h : PA β b v bs s F w) (k : Nat) (hk : k < s.l.length) (hs : s.l[k].b.length ≤ 1000000) :
    Calls Try.prog 16 #[.pointer (some ⟨b, 0, none⟩), .int .i64 k] w fun e w' => ∃ v', e = .returned (.tuple #[.agg #[.int .i64 s.l[k].from_, .int .i64 s.l[k].to_, v'], .bool true]) ∧ w'.ownsRow w.heap.size 5 1 v' s.l[k].b.length (byV s.l[k].b) ∧ Below w.heap.size w w' := by
  have hb0 : Below w.heap.size w (w.alloc (.cells zeroP 37)) := (Below.refl _ w).alloc (Nat.le_refl _) _
  have h1 := h.of_below hb0
  have hP := alloc_new w (.cells zeroP 37)
  obtain ⟨g, c, rfl, _, _, hc⟩ := own_succ h1.row (by omega)
  have c2 : (w.alloc (.cells zeroP 37)).cell? ⟨b, 2, none⟩ = some (.slice (some ⟨g, 0, none⟩) s.l.length c) := cell_of_block h1.blk 2
  have hkb : k < bs.length := by rw [h.len]; exact hk
  obtain ⟨p0, p1, p2⟩ := pcV_at h.len hk
  have x0 := hc _ _ p0
  have x1 := hc _ _ p1
  have x2 := hc _ _ p2
  have hbyt := h1.byt k hk hkb
  generalize hx : s.l[k] = x at *
  generalize bs[k] = vb at *
  obtain ⟨Ab, cb, rfl⟩ := hbyt.slice
  have hlb := h.lt
  have hne : ¬ b = w.heap.size := by omega
  have hi0 : (k : Int) < (s.l.length : Int) := by omega
  have hneg : decide ((k : Int) < 0) = false := decide_eq_false (by omega)
  have hge : decide (s.l.length ≤ k) = false := decide_eq_false (by omega)
  have hbl : x.b.length = (byV x.b).length := (byV_length _).symm
  unfold zeroP at *
  clear hc hkb p0 p1 p2 hx
  replace h := Lib.hid h
  replace h1 := Lib.hid h1
  replace hb0 := Lib.hid hb0
  replace hP := Lib.hid hP
  replace hbl := Lib.hid hbl
  go_enter Try.func16, Try.ntmps16
  go_wp2_with (first
    | (go_at_call 29; refine (none_pool h1.out).mono ?_; rintro e w1 ⟨rfl, rfl⟩)
    | (go_at_call 31; refine (apart_any x.from_ x.to_ Ab x.b.length cb (byV x.b) _ hbyt hbl.out.symm hs (byV_one _)).mono ?_; rintro e w1 ⟨v', rfl, hown, hb1⟩; have P1 := block_kept hP.out hb1; have d0 : w1.cell? ⟨w.heap.size, 0, none⟩ = some (.int .i64 0) := cell_of_block P1 0; have d1 : w1.cell? ⟨w.heap.size, 1, none⟩ = some (.int .i64 0) := cell_of_block P1 1; have d2 : w1.cell? ⟨w.heap.size, 2, none⟩ = some (.slice none 0 0) := cell_of_block P1 2; have g0 := free_of_block P1 0; have g1 := free_of_block P1 1; have g2 := free_of_block P1 2; obtain ⟨A2, c2', rfl, _⟩ := own_slice hown; replace P1 := Lib.hid P1; replace hown := Lib.hid hown; replace hb1 := Lib.hid hb1))
  have hF : Fr (fun k => k = w.heap.size) w1 (((w1.setCell ⟨w.heap.size, 0, none⟩ (.int .i64 x.from_)).setCell ⟨w.heap.size, 1, none⟩ (.int .i64 x.to_)).setCell ⟨w.heap.size, 2, none⟩ (.slice A2 x.b.length c2')) := (((Fr.refl (fun k => k = w.heap.size) w1).setCell (p := ⟨w.heap.size, 0, none⟩) (fun _ => rfl) (.int .i64 x.from_)).setCell (p := ⟨w.heap.size, 1, none⟩) (fun _ => rfl) (.int .i64 x.to_)).setCell (p := ⟨w.heap.size, 2, none⟩) (fun _ => rfl) (.slice A2 x.b.length c2')
  have hR := own_lower (base' := w.heap.size) (own_fr hown.out hF (fun j hj h => by have := own_base hown.out j hj; simp at this; omega)) (by simp)
  have hB1 := hb0.out.trans (hb1.out.mono hb0.out.size)
  have hB9 := hB1.trans (hF.below hB1.size (fun j hj h => by omega))
  have R9 : (((w1.setCell ⟨w.heap.size, 0, none⟩ (.int .i64 x.from_)).setCell ⟨w.heap.size, 1, none⟩ (.int .i64 x.to_)).setCell ⟨w.heap.size, 2, none⟩ (.slice A2 x.b.length c2')).heap[w.heap.size]? = some (.cells #[.int .i64 x.from_, .int .i64 x.to_, .slice A2 x.b.length c2'] 37 (0, 0)) := blk_conv (block_setCell (block_setCell (block_setCell P1.out _) _) _) rfl
  generalize (((w1.setCell ⟨w.heap.size, 0, none⟩ (.int .i64 x.from_)).setCell ⟨w.heap.size, 1, none⟩ (.int .i64 x.to_)).setCell ⟨w.heap.size, 2, none⟩ (.slice A2 x.b.length c2')) = W9 at hR hB9 R9 ⊢
  have r0 : W9.cell? ⟨w.heap.size, 0, none⟩ = some (.int .i64 x.from_) := cell_of_block R9 0
  have r1 : W9.cell? ⟨w.heap.size, 1, none⟩ = some (.int .i64 x.to_) := cell_of_block R9 1
  have r2 : W9.cell? ⟨w.heap.size, 2, none⟩ = some (.slice A2 x.b.length c2') := cell_of_block R9 2
  refine bodyPost_ret (by simp [results, Try.results16, go_sem, r0, r1, r2]) rfl ⟨_, rfl, hR, hB9⟩
end Go.Proofs.Ytjfbiifcjiidfaa
