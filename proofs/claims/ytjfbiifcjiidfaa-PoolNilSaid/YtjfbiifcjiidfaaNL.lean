/- No pool, and one that nobody made: PoolNil. -/
import Derived.Test.YtjfbiifcjiidfaaOW
namespace Go.Proofs.Ytjfbiifcjiidfaa
open Go.RowKit

def zeroPoolC : Array Value := #[.int .i64 0, .int .i64 0, .slice none 0 0]
def NoP (w : World) (q : Option Addr) : Prop := q = none ∨ ∃ b, q = some ⟨b, 0, none⟩ ∧ w.heap[b]? = some (.cells zeroPoolC 60 (0, 0))
theorem NoP.below {w w' : World} {q : Option Addr} (h : NoP w q) (hb : Below w.heap.size w w') : NoP w' q := by
  rcases h with h | ⟨b, rfl, hh⟩
  · exact .inl h
  · exact .inr ⟨b, rfl, block_kept hh hb⟩
theorem none_no {w : World} {q : Option Addr} (h : NoP w q) : Calls Try.prog 29 #[.pointer q] w fun e w' => e = .returned (.bool true) ∧ w' = w := by
  rcases h with rfl | ⟨b, rfl, hh⟩
  · exact none_nil w
  · exact none_at b 0 w (cell_of_block hh 0)
theorem at_no {w : World} {q : Option Addr} (h : NoP w q) (i : Int) : Calls Try.prog 16 #[.pointer q, .int .i64 i] w fun e w' => e = .returned (.tuple #[.agg zeroP, .bool false]) ∧ Below w.heap.size w w' := by
  have hb := h.below ((Below.refl _ w).alloc (Nat.le_refl _) (.cells zeroP 37))
  unfold zeroP at *
  replace h := Lib.hid h
  replace hb := Lib.hid hb
  go_enter Try.func16, Try.ntmps16
  go_wp2_with (go_at_call 29; refine (none_no hb.out).mono ?_; rintro e w1 ⟨rfl, rfl⟩)
  refine bodyPost_ret (v := .tuple #[.agg #[.int .i64 0, .int .i64 0, .slice none 0 0], .bool false]) (by simp [results, Try.results16, go_sem]) rfl ⟨rfl, (Below.refl _ w).alloc (Nat.le_refl _) _⟩
theorem take_no {w : World} {q : Option Addr} (h : NoP w q) (i : Int) : Calls Try.prog 12 #[.pointer q, .int .i64 i] w fun e w' => e = .returned (.tuple #[.agg zeroP, .int .i64 1]) ∧ Below w.heap.size w w' := by
  have hb0 : Below w.heap.size w (w.alloc (.cells zeroP 37)) := (Below.refl _ w).alloc (Nat.le_refl _) _
  have h1 := h.below hb0
  have hP := alloc_new w (.cells zeroP 37)
  unfold zeroP at *
  replace h := Lib.hid h
  replace h1 := Lib.hid h1
  replace hP := Lib.hid hP
  replace hb0 := Lib.hid hb0
  go_enter Try.func12, Try.ntmps12
  go_wp2_with (fail)
  refine (at_no h1.out i).mono ?_
  rintro e w1 ⟨rfl, hb1⟩
  have h2 := h1.out.below hb1
  have h3 := h2.below ((Below.refl _ w1).alloc (Nat.le_refl _) (.cells zeroP 37))
  have hP1 := block_kept hP.out hb1
  have hB1 := hb0.out.trans (hb1.mono hb0.out.size)
  have d0 : w1.cell? ⟨w.heap.size, 0, none⟩ = some (.int .i64 0) := cell_of_block hP1 0
  have d1 : w1.cell? ⟨w.heap.size, 1, none⟩ = some (.int .i64 0) := cell_of_block hP1 1
  have d2 : w1.cell? ⟨w.heap.size, 2, none⟩ = some (.slice none 0 0) := cell_of_block hP1 2
  have g0 := free_of_block hP1 0
  have g1 := free_of_block hP1 1
  have g2 := free_of_block hP1 2
  have hlt := lt_of_block hP1
  unfold zeroP at *
  replace h2 := Lib.hid h2
  replace h3 := Lib.hid h3
  replace hP1 := Lib.hid hP1
  replace hB1 := Lib.hid hB1
  replace hb1 := Lib.hid hb1
  go_wp2_with (go_at_call 29; refine (none_no h3.out).mono ?_; rintro e w2 ⟨rfl, rfl⟩)
  refine bodyPost_ret (v := .tuple #[.agg #[.int .i64 0, .int .i64 0, .slice none 0 0], .int .i64 1]) (by simp [results, Try.results12, go_sem, *]) rfl ⟨rfl, ?_⟩
  exact hB1.out.trans (((set3_fr w1 w.heap.size _ _ _).alloc _).below (B := w.heap.size) (by omega) (fun k hk e => by omega))
theorem send_no {w : World} {q : Option Addr} (h : NoP w q) (f t : Int) (A : Option Addr) (n c : Nat) : Calls Try.prog 11 #[.pointer q, .agg #[.int .i64 f, .int .i64 t, .slice A n c]] w fun e w' => e = .returned (.int .i64 1) ∧ Below w.heap.size w w' := by
  have hb := h.below ((Below.refl _ w).alloc (Nat.le_refl _) (.cells #[.int .i64 f, .int .i64 t, .slice A n c] 37))
  replace h := Lib.hid h
  replace hb := Lib.hid hb
  go_enter Try.func11, Try.ntmps11
  go_wp2_with (go_at_call 29; refine (none_no hb.out).mono ?_; rintro e w1 ⟨rfl, rfl⟩)
  go_ret
  exact ⟨rfl, (Below.refl _ w).alloc (Nat.le_refl _) _⟩
theorem twice_no {w : World} {q : Option Addr} (h : NoP w q) (i : Int) : Calls Try.prog 22 #[.pointer q, .int .i64 i] w fun e w' => e = .returned (.int .i64 1) ∧ Below w.heap.size w w' := by
  replace h := Lib.hid h
  go_enter Try.func22, Try.ntmps22
  go_wp2_with (fail)
  refine (at_no h.out i).mono ?_
  rintro e w1 ⟨rfl, hb1⟩
  have h3 := (h.out.below hb1).below ((Below.refl _ w1).alloc (Nat.le_refl _) (.cells zeroP 37))
  unfold zeroP at *
  replace hb1 := Lib.hid hb1
  replace h3 := Lib.hid h3
  go_wp2_with (go_at_call 29; refine (none_no h3.out).mono ?_; rintro e w2 ⟨rfl, rfl⟩)
  go_ret
  exact ⟨rfl, hb1.out.alloc hb1.out.size _⟩
theorem drop_no {w : World} {q : Option Addr} (h : NoP w q) (i : Int) : Calls Try.prog 13 #[.pointer q, .int .i64 i] w fun e w' => e = .returned (.int .i64 1) ∧ Below w.heap.size w w' := by
  replace h := Lib.hid h
  go_enter Try.func13, Try.ntmps13
  go_wp2_with (fail)
  refine (take_no h.out i).mono ?_
  rintro e w1 ⟨rfl, hb1⟩
  unfold zeroP
  replace hb1 := Lib.hid hb1
  go_wp2_with (fail)
  go_ret
  exact ⟨rfl, hb1.out.alloc hb1.out.size _⟩
theorem all_no {w : World} {q : Option Addr} (h : NoP w q) : Calls Try.prog 14 #[.pointer q] w fun e w' => e = .returned (.slice none 0 0) ∧ w' = w := by
  replace h := Lib.hid h
  go_enter Try.func14, Try.ntmps14
  go_wp2_with (go_at_call 29; refine (none_no h.out).mono ?_; rintro e w2 ⟨rfl, rfl⟩)
  go_ret
  exact ⟨rfl, rfl⟩
theorem len_no {w : World} {q : Option Addr} (h : NoP w q) : Calls Try.prog 10 #[.pointer q] w fun e w' => e = .returned (.int .i64 0) ∧ w' = w := by
  replace h := Lib.hid h
  go_enter Try.func10, Try.ntmps10
  go_wp2_with (go_at_call 29; refine (none_no h.out).mono ?_; rintro e w2 ⟨rfl, rfl⟩)
  go_ret
  exact ⟨rfl, rfl⟩
theorem lost_no {w : World} {q : Option Addr} (h : NoP w q) : Calls Try.prog 15 #[.pointer q] w fun e w' => e = .returned (.int .i64 0) ∧ w' = w := by
  replace h := Lib.hid h
  go_enter Try.func15, Try.ntmps15
  go_wp2_with (go_at_call 29; refine (none_no h.out).mono ?_; rintro e w2 ⟨rfl, rfl⟩)
  go_ret
  exact ⟨rfl, rfl⟩
theorem to_no {w : World} {q : Option Addr} (h : NoP w q) (n : Int) : Calls Try.prog 27 #[.pointer q, .int .i64 n] w fun e w' => e = .returned (.int .i64 0) ∧ w' = w := by
  replace h := Lib.hid h
  go_enter Try.func27, Try.ntmps27
  go_wp2_with (go_at_call 10; refine (len_no h.out).mono ?_; rintro e w2 ⟨rfl, rfl⟩)
  refine wp_loop_once ?_
  go_wp2
  go_ret
  exact ⟨rfl, rfl⟩
theorem clone_no {w : World} {q : Option Addr} (h : NoP w q) : Calls Try.prog 26 #[.pointer q] w fun e w' => e = .returned (.pointer none) ∧ w' = w := by
  replace h := Lib.hid h
  go_enter Try.func26, Try.ntmps26
  go_wp2_with (go_at_call 29; refine (none_no h.out).mono ?_; rintro e w2 ⟨rfl, rfl⟩)
  go_ret
  exact ⟨rfl, rfl⟩

def acC (a : Ac) (bv : Value) : Array Value := #[.int .i64 a.kind, .int .i64 a.i, .int .i64 a.x.from_, .int .i64 a.x.to_, bv]
structure NK (w wr : World) (q : Option Addr) (a : Ac) (bv : Value) : Prop where
  no : NoP wr q
  box : wr.heap[w.heap.size]? = some (.cells (acC a bv) 34 (0, 0))
  byt : RdK (RK.int .u8) wr bv a.x.b
  bel : Below w.heap.size w wr
theorem NK.below {w wr w' : World} {q : Option Addr} {a : Ac} {bv : Value} (h : NK w wr q a bv) (hb : Below wr.heap.size wr w') : NK w w' q a bv :=
  ⟨h.no.below hb, block_kept h.box hb, h.byt.below hb, h.bel.trans (hb.mono h.bel.size)⟩
theorem NK.alloc {w wr : World} {q : Option Addr} {a : Ac} {bv : Value} (h : NK w wr q a bv) (o : Obj) : NK w (wr.alloc o) q a bv := h.below ((Below.refl _ wr).alloc (Nat.le_refl _) o)
theorem NK.cell {w wr : World} {q : Option Addr} {a : Ac} {bv : Value} (h : NK w wr q a bv) : wr.cell? ⟨w.heap.size, 1, none⟩ = some (.int .i64 a.i) ∧ wr.cell? ⟨w.heap.size, 2, none⟩ = some (.int .i64 a.x.from_) ∧ wr.cell? ⟨w.heap.size, 3, none⟩ = some (.int .i64 a.x.to_) ∧ wr.cell? ⟨w.heap.size, 4, none⟩ = some bv :=
  ⟨cell_of_block h.box 1, cell_of_block h.box 2, cell_of_block h.box 3, cell_of_block h.box 4⟩

theorem pool_zero (w : World) : (Instr.build 60 #[]).run Try.prog w = .ok (.agg zeroPoolC) w := by kernel_rfl
set_option maxHeartbeats 4000000 in
set_option maxRecDepth 100000 in
theorem nil_walk (w : World) (cs : Array Value) (a : Ac) (hx : D_glebelaw20_Act.k.K w a cs.toList) :
    Calls Try.prog 5 #[.agg cs] w fun e w' => e = .returned (.bool true) ∧ Below w.heap.size w w' := by
  obtain ⟨a0, a1, a2, a3, a4, hcs, ⟨h0, _⟩, ⟨h1, _⟩, ⟨b0, b1, b2, e, ⟨h2, _⟩, ⟨h3, _⟩, bv, h4, hb⟩⟩ := id hx
  simp at e h0 h1 h2 h3 h4
  obtain ⟨rfl, rfl, rfl⟩ := e
  subst h0 h1 h2 h3 h4
  obtain rfl : cs = acC a a4 := by
    apply Array.ext'
    rw [hcs]
    rfl
  have hb0 : Below w.heap.size w (w.alloc (.cells (acC a a4) 34)) := (Below.refl _ w).alloc (Nat.le_refl _) _
  have hK0 : NK w (w.alloc (.cells (acC a a4) 34)) none a a4 := ⟨.inl rfl, alloc_new w _, hb.below hb0, hb0⟩
  obtain ⟨Ab, cb, rfl⟩ := hb.slice
  have hK1 := hK0.alloc (.cells (acC a (.slice Ab a.x.b.length cb)) 34)
  have hR : RdK D_glebelaw20_Act.k ((w.alloc (.cells (acC a (.slice Ab a.x.b.length cb)) 34)).alloc (.cells (acC a (.slice Ab a.x.b.length cb)) 34)) (.slice (some ⟨w.heap.size + 1, 0, none⟩) [a].length 1) [a] := by
    refine .inr ⟨w.heap.size + 1, 0, 1, rfl, Nat.le_refl _, by unfold maxLen; omega, by simp, fun j x hj => ?_⟩
    obtain ⟨rfl, rfl⟩ : j = 0 ∧ a = x := by
      cases j with
      | zero => exact ⟨rfl, by simpa using hj⟩
      | succ j => simp at hj
    refine ⟨(acC a (.slice Ab a.x.b.length cb)).toList, rfl, D_glebelaw20_Act.k.below ((hb0.mono (Nat.le_refl _)).trans ((Below.refl _ _).alloc (by simp) _)) (by rw [hcs] at hx; exact hx), fun i u hu => ?_⟩
    have hn := alloc_new (w.alloc (.cells (acC a (.slice Ab a.x.b.length cb)) 34)) (.cells (acC a (.slice Ab a.x.b.length cb)) 34)
    rw [World.size_alloc] at hn
    rw [cell_of_block hn]
    simpa using hu
  have hl1 := light_any (some ⟨w.heap.size + 1, 0, none⟩) 1 [a] _ hR
  replace hl1 := Lib.hid hl1
  replace hK1 := Lib.hid hK1
  replace hb := Lib.hid hb
  have hz := pool_zero
  unfold zeroPoolC at hz
  clear hx hcs hb0 hK0 hR
  unfold acC at *
  go_enter Try.func5, Try.ntmps5
  go_wp2_with (fail)
  refine hl1.out.mono ?_
  rintro e w1 ⟨⟨r, rfl, hl⟩, rfl⟩
  cases r
  · clear hl
    go_wp2_with (go_at_call 7; refine (knows_true _).mono ?_; rintro e w2 ⟨rfl, hB2⟩; replace hB2 := Lib.hid hB2)
    go_ret
    exact ⟨rfl, hK1.out.bel.trans (hB2.out.mono hK1.out.bel.size)⟩
  have hlen : a.x.b.length ≤ 1000000 := by have := (hl rfl).2 a (by simp); omega
  clear hl
  go_wp2_with (fail)
  go_loopw [3, 4] (fun p i wr => ∃ (q : Option Addr) (k : Nat), k ≤ 2 ∧ p = .pointer q ∧ i = .int .i64 k ∧ Hid (NK w wr q a (.slice Ab a.x.b.length cb))) (fun _ i _ => 2 - (intOf i).toNat)
  case atStart => exact ⟨none, 0, by omega, rfl, rfl, hK1⟩
  case round =>
    obtain ⟨q, k, hk, rfl, rfl, HK⟩ := hrel
    by_cases hlt : k < 2
    · obtain ⟨q1, _, _, _⟩ := HK.out.cell
      have hlw := lt_of_block HK.out.box
      go_wp2_with (fail)
      refine (at_no HK.out.no _).mono ?_
      rintro e w1 ⟨rfl, hb1⟩
      have HK1 := Lib.hid ((HK.out.below hb1).alloc (.cells zeroP 37))
      obtain ⟨q2, _, _, _⟩ := HK1.out.cell
      clear hb1
      unfold zeroP at *
      go_wp2_with (fail)
      refine (take_no HK1.out.no _).mono ?_
      rintro e w2 ⟨rfl, hb2⟩
      have HK2 := Lib.hid ((HK1.out.below hb2).alloc (.cells zeroP 37))
      obtain ⟨q3, q4, q5, q6⟩ := HK2.out.cell
      clear hb2 q1 q2
      unfold zeroP at *
      go_wp2_with (fail)
      refine (own_any a.x Ab cb _ HK2.out.byt.rd_u8 hlen).mono ?_
      rintro e w3 ⟨v3, rfl, hown3, hb3⟩
      obtain ⟨A3, c3, rfl, _⟩ := own_slice hown3
      have HK3 := Lib.hid (HK2.out.below hb3)
      clear hb3 hown3 q3 q4 q5 q6
      go_wp2_with (fail)
      refine (send_no HK3.out.no _ _ _ _ _).mono ?_
      rintro e w4 ⟨rfl, hb4⟩
      have HK4 := Lib.hid (HK3.out.below hb4)
      obtain ⟨q7, _, _, _⟩ := HK4.out.cell
      clear hb4
      go_wp2_with (go_at_call 9; refine (num_any _ _).mono ?_; rintro e w9 ⟨rfl, rfl⟩)
      refine (twice_no HK4.out.no _).mono ?_
      rintro e w5 ⟨rfl, hb5⟩
      have HK5 := Lib.hid (HK4.out.below hb5)
      obtain ⟨q8, _, _, _⟩ := HK5.out.cell
      clear hb5 q7
      go_wp2_with (go_at_call 9; refine (num_any _ _).mono ?_; rintro e w9 ⟨rfl, rfl⟩)
      refine (drop_no HK5.out.no _).mono ?_
      rintro e w6 ⟨rfl, hb6⟩
      have HK6 := Lib.hid (HK5.out.below hb6)
      clear hb6 q8
      go_wp2_with (first
        | (go_at_call 9; refine (num_any _ _).mono ?_; rintro e w9 ⟨rfl, rfl⟩)
        | (go_at_call 14; refine (all_no HK6.out.no).mono ?_; rintro e w9 ⟨rfl, rfl⟩)
        | (go_at_call 27; refine (to_no HK6.out.no _).mono ?_; rintro e w9 ⟨rfl, rfl⟩)
        | (go_at_call 10; refine (len_no HK6.out.no).mono ?_; rintro e w9 ⟨rfl, rfl⟩)
        | (go_at_call 15; refine (lost_no HK6.out.no).mono ?_; rintro e w9 ⟨rfl, rfl⟩)
        | (go_at_call 26; refine (clone_no HK6.out.no).mono ?_; rintro e w9 ⟨rfl, rfl⟩))
      go_roundw
      case rel => exact ⟨_, k + 1, by omega, rfl, by go_num, Lib.hid (⟨.inr ⟨_, rfl, alloc_new _ _⟩, (HK6.out.alloc _).box, (HK6.out.alloc _).byt, (HK6.out.alloc _).bel⟩)⟩
      case measure => simp [intOf]; omega
    · go_wp2_with (go_at_call 7; refine (knows_true _).mono ?_; rintro e w' ⟨rfl, hB2⟩; replace hB2 := Lib.hid hB2)
      go_ret
      exact ⟨rfl, HK.out.bel.trans (hB2.out.mono HK.out.bel.size)⟩
end Go.Proofs.Ytjfbiifcjiidfaa
