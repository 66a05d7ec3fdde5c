/- The walks through Drop, Twice, To. -/
import Derived.Test.YtjfbiifcjiidfaaTK
namespace Go.Proofs.Ytjfbiifcjiidfaa
open Go.RowKit

set_option maxHeartbeats 1000000 in
theorem drop_out {β b : Nat} {v : Value} {bs : List Value} {s : PS} {F : Nat → Prop} {w : World} (h : PA β b v bs s F w) (i : Int) (hi : i < 0 ∨ (s.l.length : Int) ≤ i) :
    Calls Try.prog 13 #[.pointer (some ⟨b, 0, none⟩), .int .i64 i] w fun e w' => e = .returned (.int .i64 3) ∧ Below w.heap.size w w' := by
  replace h := Lib.hid h
  unfold zeroP at *
  go_enter Try.func13, Try.ntmps13
  go_wp2_with (fail)
  refine (take_out h.out i hi).mono ?_
  rintro e w1 ⟨rfl, hb1⟩
  unfold zeroP
  replace hb1 := Lib.hid hb1
  go_wp2_with (fail)
  go_ret
  exact ⟨rfl, hb1.out.alloc hb1.out.size _⟩
set_option maxHeartbeats 1000000 in
theorem drop_ok {β b : Nat} {v : Value} {bs : List Value} {s : PS} {F : Nat → Prop} {w : World} (h : PA β b v bs s F w) (k : Nat) (hk : k < s.l.length) (hs : s.l[k].b.length ≤ 1000000) :
    Calls Try.prog 13 #[.pointer (some ⟨b, 0, none⟩), .int .i64 k] w fun e w' => ∃ v2, e = .returned (.int .i64 0) ∧ PA β b v2 (bs.eraseIdx k) { s with lost := wrap64 (s.lost + 1), l := s.l.eraseIdx k } F w' ∧ v2.ownBlock = v.ownBlock ∧ Fr (fun j => j = b ∨ v.ownBlock = some j) w w' := by
  replace h := Lib.hid h
  go_enter Try.func13, Try.ntmps13
  go_wp2_with (fail)
  refine (take_ok h.out k hk hs).mono ?_
  rintro e w1 ⟨v2, vx, rfl, h1, hx, hvb, hf⟩
  obtain ⟨Ax, cx, rfl, _⟩ := own_slice hx
  generalize s.l[k] = x at *
  have h2 : PA β b v2 (bs.eraseIdx k) { s with l := s.l.eraseIdx k } F (w1.alloc (.cells #[.int .i64 x.from_, .int .i64 x.to_, .slice Ax x.b.length cx] 37)) := h1.of_below ((Below.refl _ w1).alloc (Nat.le_refl _) _)
  have c1 : (w1.alloc (.cells #[.int .i64 x.from_, .int .i64 x.to_, .slice Ax x.b.length cx] 37)).cell? ⟨b, 1, none⟩ = some (.int .i64 s.lost) := cell_of_block h2.blk 1
  have f1 := free_of_block h2.blk 1
  have hlb := h2.lt
  have hlb1 := h1.lt
  have hne : ¬ b = w1.heap.size := by omega
  have hend := (h1.lostS (wrap64 (s.lost + 1))).of_below ((Below.refl _ _).alloc (Nat.le_refl _) (.cells #[.int .i64 x.from_, .int .i64 x.to_, .slice Ax x.b.length cx] 37))
  replace h1 := Lib.hid h1
  replace h2 := Lib.hid h2
  replace hx := Lib.hid hx
  replace hvb := Lib.hid hvb
  replace hf := Lib.hid hf
  replace hend := Lib.hid hend
  go_wp2_with (fail)
  go_ret
  exact ⟨_, rfl, hend.out, hvb.out, ((hf.out.setCell (p := ⟨b, 1, none⟩) (fun _ => .inl rfl) _).alloc _)⟩
set_option maxHeartbeats 1000000 in
theorem twice_out {β b : Nat} {v : Value} {bs : List Value} {s : PS} {F : Nat → Prop} {w : World} (h : PA β b v bs s F w) (i : Int) (hi : i < 0 ∨ (s.l.length : Int) ≤ i) :
    Calls Try.prog 22 #[.pointer (some ⟨b, 0, none⟩), .int .i64 i] w fun e w' => e = .returned (.int .i64 3) ∧ Below w.heap.size w w' := by
  replace h := Lib.hid h
  go_enter Try.func22, Try.ntmps22
  go_wp2_with (fail)
  refine (at_out h.out i hi).mono ?_
  rintro e w1 ⟨rfl, hb1⟩
  unfold zeroP
  have h2 : PA β b v bs s F (w1.alloc (.cells #[.int .i64 0, .int .i64 0, .slice none 0 0] 37)) := (h.out.of_below hb1).of_below ((Below.refl _ w1).alloc (Nat.le_refl _) _)
  replace hb1 := Lib.hid hb1
  replace h2 := Lib.hid h2
  go_wp2_with (go_at_call 29; refine (none_pool h2.out).mono ?_; rintro e w2 ⟨rfl, rfl⟩)
  go_ret
  exact ⟨rfl, hb1.out.alloc hb1.out.size _⟩
set_option maxHeartbeats 1000000 in
theorem twice_in {β b : Nat} {v : Value} {bs : List Value} {s : PS} {F : Nat → Prop} {w : World} (h : PA β b v bs s F w) (k : Nat) (hk : k < s.l.length) (hs : s.l[k].b.length ≤ 1000000) (R : Ending → World → Prop)
    (hR : ∀ w1 (vx : Value), Below w.heap.size w w1 → w1.ownsRow w.heap.size 5 1 vx s.l[k].b.length (byV s.l[k].b) → Calls Try.prog 11 #[.pointer (some ⟨b, 0, none⟩), .agg #[.int .i64 s.l[k].from_, .int .i64 s.l[k].to_, vx]] w1 (fun e w' => ∃ r, e = .returned (.int .i64 r) ∧ R (.returned (.int .i64 r)) w')) :
    Calls Try.prog 22 #[.pointer (some ⟨b, 0, none⟩), .int .i64 k] w R := by
  replace h := Lib.hid h
  go_enter Try.func22, Try.ntmps22
  go_wp2_with (fail)
  refine (at_in h.out k hk hs).mono ?_
  rintro e w1 ⟨vx, rfl, hx, hb1⟩
  generalize s.l[k] = x at *
  obtain ⟨Ax, cx, rfl, _⟩ := own_slice hx
  have hb2 : Below w1.heap.size w1 (w1.alloc (.cells #[.int .i64 x.from_, .int .i64 x.to_, .slice Ax x.b.length cx] 37)) := (Below.refl _ w1).alloc (Nat.le_refl _) _
  have h2 : PA β b v bs s F (w1.alloc (.cells #[.int .i64 x.from_, .int .i64 x.to_, .slice Ax x.b.length cx] 37)) := (h.out.of_below hb1).of_below hb2
  have hx2 := own_fr (S := fun _ => False) hx (Fr.of_below hb2) (fun _ _ h => h)
  have hB2 := hb1.trans (hb2.mono hb1.size)
  replace hR := Lib.hid (hR _ _ hB2 hx2)
  replace hb1 := Lib.hid hb1
  replace hb2 := Lib.hid hb2
  replace hB2 := Lib.hid hB2
  replace h2 := Lib.hid h2
  replace hx := Lib.hid hx
  replace hx2 := Lib.hid hx2
  go_wp2_with (first
    | (go_at_call 29; refine (none_pool h2.out).mono ?_; rintro e w2 ⟨rfl, rfl⟩)
    | fail)
  refine hR.out.mono ?_
  rintro e w2 ⟨r, rfl, hr⟩
  replace hr := Lib.hid hr
  go_wp2_with (fail)
  exact hr.out

def toL (l : List Pc) (n : Int) : Nat := (l.filter fun x => x.to_ == n).length
theorem toL_snoc {l : List Pc} {k : Nat} (h : k < l.length) (n : Int) : toL (l.take (k + 1)) n = toL (l.take k) n + if l[k].to_ == n then 1 else 0 := by
  unfold toL
  rw [List.take_succ_eq_append_getElem h, List.filter_append, List.length_append]
  cases h1 : l[k].to_ == n <;> simp [h1]
theorem toL_le (l : List Pc) (n : Int) : toL l n ≤ l.length := List.length_filter_le _ _
set_option maxHeartbeats 1000000 in
theorem to_pool {β b : Nat} {v : Value} {bs : List Value} {s : PS} {F : Nat → Prop} {w : World} (h : PA β b v bs s F w) (n : Int) :
    Calls Try.prog 27 #[.pointer (some ⟨b, 0, none⟩), .int .i64 n] w fun e w' => e = .returned (.int .i64 (toL s.l n : Nat)) ∧ w' = w := by
  have c2 : w.cell? ⟨b, 2, none⟩ = some v := cell_of_block h.blk 2
  obtain ⟨A, c, rfl, _⟩ := own_slice h.row
  have hlen : s.l.length ≤ 1024 := by have := h.pos; omega
  have hcell : ∀ k (hk : k < s.l.length), ∃ g, A = some ⟨g, 0, none⟩ ∧ w.cell? ⟨g, k * 3 + 1, none⟩ = some (.int .i64 s.l[k].to_) := by
    intro k hk
    obtain ⟨g, c', e, _, _, hc⟩ := own_succ h.row (by omega)
    cases e
    exact ⟨g, rfl, hc _ _ (pcV_at h.len hk).2.1⟩
  replace h := Lib.hid h
  replace hcell := Lib.hid hcell
  go_enter Try.func27, Try.ntmps27
  go_wp2_with (go_at_call 10; refine (len_pool h.out).mono ?_; rintro e w1 ⟨rfl, rfl⟩)
  go_loop [5, 9] (fun t i => ∃ k : Nat, k ≤ s.l.length ∧ i = .int .i64 k ∧ t = .int .i64 (toL (s.l.take k) n : Nat)) (fun _ i => s.l.length - (intOf i).toNat)
  case atStart => exact ⟨0, Nat.zero_le _, rfl, rfl⟩
  case round =>
    obtain ⟨k, hk, rfl, rfl⟩ := hrel
    have hle := toL_le (s.l.take k) n
    rw [List.length_take] at hle
    by_cases hlt : k < s.l.length
    · obtain ⟨g, rfl, hc⟩ := hcell.out k hlt
      have hs := toL_snoc hlt n
      generalize hx : s.l[k].to_ = x at hc hs
      replace hs := Lib.hid hs
      replace hx := Lib.hid hx
      cases hxn : x == n
      all_goals
        go_wp2
        go_round
        case rel => exact ⟨k + 1, by omega, by go_num, by rw [hs.out, hxn]; first | rfl | go_num⟩
        case measure => simp [intOf]; omega
    · obtain rfl : k = s.l.length := by omega
      replace hle := Lib.hid hle
      go_wp2
      go_ret
      exact ⟨rfl, rfl⟩
end Go.Proofs.Ytjfbiifcjiidfaa
