/- The walks through the reference's Drop, Twice, All, To; each method's contract for every argument. -/
import Derived.Test.YtjfbiifcjiidfaaRT
namespace Go.Proofs.Ytjfbiifcjiidfaa.R
open Go.RowKit Go.Proofs.Ytjfbiifcjiidfaa

set_option maxHeartbeats 1000000 in
theorem drop_out {β b : Nat} {v : Value} {bs : List Value} {s : PS} {F : Nat → Prop} {w : World} (h : PA β b v bs s F w) (i : Int) (hi : i < 0 ∨ (s.l.length : Int) ≤ i) :
    Calls Try.prog 24 #[.pointer (some ⟨b, 0, none⟩), .int .i64 i] w fun e w' => e = .returned (.int .i64 3) ∧ Below w.heap.size w w' := by
  replace h := Lib.hid h
  go_enter Try.func24, Try.ntmps24
  go_wp2_with (fail)
  refine (take_out h.out i hi).mono ?_
  rintro e w1 ⟨rfl, hb1⟩
  unfold zeroP
  replace hb1 := Lib.hid hb1
  go_wp2_with (fail)
  go_ret
  exact ⟨rfl, hb1.out.alloc hb1.out.size _⟩
set_option maxHeartbeats 1000000 in
theorem drop_ok {β b : Nat} {v : Value} {bs : List Value} {s : PS} {F : Nat → Prop} {w : World} (h : PA β b v bs s F w) (k : Nat) (hk : k < s.l.length) :
    Calls Try.prog 24 #[.pointer (some ⟨b, 0, none⟩), .int .i64 k] w fun e w' => ∃ v2, e = .returned (.int .i64 0) ∧ PA β b v2 (bs.eraseIdx k) { s with lost := wrap64 (s.lost + 1), l := s.l.eraseIdx k } F w' ∧ Fr (fun j => j = b) w w' := by
  replace h := Lib.hid h
  have hkb : k < bs.length := by rw [h.out.len]; exact hk
  go_enter Try.func24, Try.ntmps24
  go_wp2_with (fail)
  refine (take_ok h.out k hk hkb).mono ?_
  rintro e w1 ⟨v2, rfl, h1, hx, hf⟩
  obtain ⟨Ax, cx, hvb⟩ := hx.slice
  generalize s.l[k] = x at *
  generalize bs[k] = vb at *
  subst hvb
  have h2 : PA β b v2 (bs.eraseIdx k) { s with l := s.l.eraseIdx k } F (w1.alloc (.cells #[.int .i64 x.from_, .int .i64 x.to_, .slice Ax x.b.length cx] 32)) := h1.of_below ((Below.refl _ w1).alloc (Nat.le_refl _) _)
  have c1 : (w1.alloc (.cells #[.int .i64 x.from_, .int .i64 x.to_, .slice Ax x.b.length cx] 32)).cell? ⟨b, 1, none⟩ = some (.int .i64 s.lost) := cell_of_block h2.blk 1
  have f1 := free_of_block h2.blk 1
  have hlb := h2.lt
  have hlb1 := h1.lt
  have hne : ¬ b = w1.heap.size := by omega
  have hend := (h1.lostS (wrap64 (s.lost + 1))).of_below ((Below.refl _ _).alloc (Nat.le_refl _) (.cells #[.int .i64 x.from_, .int .i64 x.to_, .slice Ax x.b.length cx] 32))
  replace h1 := Lib.hid h1
  replace h2 := Lib.hid h2
  replace hx := Lib.hid hx
  replace hf := Lib.hid hf
  replace hend := Lib.hid hend
  go_wp2_with (fail)
  go_ret
  exact ⟨_, rfl, hend.out, ((hf.out.setCell (p := ⟨b, 1, none⟩) (fun _ => rfl) _).alloc _)⟩
set_option maxHeartbeats 1000000 in
theorem twice_out {β b : Nat} {v : Value} {bs : List Value} {s : PS} {F : Nat → Prop} {w : World} (h : PA β b v bs s F w) (i : Int) (hi : i < 0 ∨ (s.l.length : Int) ≤ i) :
    Calls Try.prog 23 #[.pointer (some ⟨b, 0, none⟩), .int .i64 i] w fun e w' => e = .returned (.int .i64 3) ∧ w' = w := by
  have c2 : w.cell? ⟨b, 2, none⟩ = some v := cell_of_block h.blk 2
  obtain ⟨A, c, rfl, _⟩ := own_slice h.row
  replace h := Lib.hid h
  cases hneg : decide (i < 0)
  · have hge : decide ((s.l.length : Int) ≤ i) = true := by simp at hneg ⊢; omega
    clear hi
    go_enter Try.func23, Try.ntmps23
    go_wp2_with (fail)
    go_ret
    exact ⟨rfl, rfl⟩
  · clear hi
    go_enter Try.func23, Try.ntmps23
    go_wp2_with (fail)
    go_ret
    exact ⟨rfl, rfl⟩
set_option maxHeartbeats 1000000 in
theorem twice_in {β b : Nat} {v : Value} {bs : List Value} {s : PS} {F : Nat → Prop} {w : World} (h : PA β b v bs s F w) (k : Nat) (hk : k < s.l.length) (hkb : k < bs.length) (R : Ending → World → Prop)
    (hR : Calls Try.prog 19 #[.pointer (some ⟨b, 0, none⟩), .agg #[.int .i64 s.l[k].from_, .int .i64 s.l[k].to_, bs[k]]] w (fun e w' => ∃ r, e = .returned (.int .i64 r) ∧ R (.returned (.int .i64 r)) w')) :
    Calls Try.prog 23 #[.pointer (some ⟨b, 0, none⟩), .int .i64 k] w R := by
  obtain ⟨g, cap, rfl, hnc, _, hc⟩ := own_succ h.row (by omega)
  have c2 : w.cell? ⟨b, 2, none⟩ = some (.slice (some ⟨g, 0, none⟩) s.l.length cap) := cell_of_block h.blk 2
  obtain ⟨p0, p1, p2⟩ := pcV_at h.len hk
  have x0 := hc _ _ p0
  have x1 := hc _ _ p1
  have x2 := hc _ _ p2
  obtain ⟨Ax, cx, hvb⟩ := (h.byt k hk hkb).slice
  have hi0 : (k : Int) < (s.l.length : Int) := by omega
  have hneg : decide ((k : Int) < 0) = false := decide_eq_false (by omega)
  have hge : decide (s.l.length ≤ k) = false := decide_eq_false (by omega)
  generalize s.l[k] = x at *
  generalize bs[k] = vb at *
  subst hvb
  replace h := Lib.hid h
  replace hR := Lib.hid hR
  clear p0 p1 p2 hc
  go_enter Try.func23, Try.ntmps23
  go_wp2_with (fail)
  refine hR.out.mono ?_
  rintro e w2 ⟨r, rfl, hr⟩
  replace hr := Lib.hid hr
  go_wp2_with (fail)
  exact hr.out
set_option maxHeartbeats 1000000 in
theorem all_pool {β b : Nat} {v : Value} {bs : List Value} {s : PS} {F : Nat → Prop} {w : World} (h : PA β b v bs s F w) :
    Calls Try.prog 25 #[.pointer (some ⟨b, 0, none⟩)] w fun e w' => e = .returned v ∧ w' = w.setCell ⟨b, 2, none⟩ (.slice none 0 0) := by
  have c2 : w.cell? ⟨b, 2, none⟩ = some v := cell_of_block h.blk 2
  have f2 := free_of_block h.blk 2
  obtain ⟨A, c, rfl, _⟩ := own_slice h.row
  replace h := Lib.hid h
  go_enter Try.func25, Try.ntmps25
  go_wp2_with (fail)
  go_ret
  exact ⟨rfl, rfl⟩
set_option maxHeartbeats 1000000 in
theorem to_pool {β b : Nat} {v : Value} {bs : List Value} {s : PS} {F : Nat → Prop} {w : World} (h : PA β b v bs s F w) (n : Int) :
    Calls Try.prog 28 #[.pointer (some ⟨b, 0, none⟩), .int .i64 n] w fun e w' => e = .returned (.int .i64 (toL s.l n : Nat)) ∧ w' = w := by
  have c2 : w.cell? ⟨b, 2, none⟩ = some v := cell_of_block h.blk 2
  obtain ⟨A, c, rfl, _⟩ := own_slice h.row
  have hlen : s.l.length ≤ 1024 := by have := h.pos; omega
  have hcell : ∀ k (hk : k < s.l.length), ∃ g, A = some ⟨g, 0, none⟩ ∧ w.cell? ⟨g, k * 3 + 1, none⟩ = some (.int .i64 s.l[k].to_) := by
    intro k hk
    obtain ⟨g, c', e, _, _, hc⟩ := own_succ h.row (by omega)
    cases e
    exact ⟨g, rfl, hc _ _ (pcV_at h.len hk).2.1⟩
  replace h := Lib.hid h
  replace hcell := Lib.hid hcell
  go_enter Try.func28, Try.ntmps28
  go_wp2
  go_loop [5, 6] (fun t i => ∃ k : Nat, k ≤ s.l.length ∧ i = .int .i64 k ∧ t = .int .i64 (toL (s.l.take k) n : Nat)) (fun _ i => s.l.length - (intOf i).toNat)
  case atStart => exact ⟨0, Nat.zero_le _, rfl, rfl⟩
  case round =>
    obtain ⟨k, hk, rfl, rfl⟩ := hrel
    have hle := toL_le (s.l.take k) n
    rw [List.length_take] at hle
    by_cases hlt : k < s.l.length
    · obtain ⟨g, rfl, hc⟩ := hcell.out k hlt
      have hs := toL_snoc hlt n
      generalize hx : s.l[k].to_ = x at hc hs
      replace hs := Lib.hid hs
      replace hx := Lib.hid hx
      cases hxn : x == n
      all_goals
        go_wp2
        go_round
        case rel => exact ⟨k + 1, by omega, by go_num, by rw [hs.out, hxn]; first | rfl | go_num⟩
        case measure => simp [intOf]; omega
    · obtain rfl : k = s.l.length := by omega
      replace hle := Lib.hid hle
      go_wp2
      go_ret
      exact ⟨rfl, rfl⟩

theorem send_any {β b : Nat} {s : PS} {F : Nat → Prop} {w : World} (h : IsP β b s F w) (hs : SOk s) (x : Pc) (A : Option Addr) (c : Nat) (hv : Rd w (.slice A x.b.length c) x.b.length (byV x.b)) (hb : x.b.length ≤ 1000000) :
    Calls Try.prog 19 #[.pointer (some ⟨b, 0, none⟩), .agg #[.int .i64 x.from_, .int .i64 x.to_, .slice A x.b.length c]] w fun e w' => e = .returned (.int .i64 (sendR s x)) ∧ IsP β b (sendS s x) (fun k => F k ∨ w.heap.size ≤ k) w' ∧ Fr (Wr b w) w w' := by
  obtain ⟨v, bs, h⟩ := h
  cases hx : badP x
  · by_cases hl : s.most ≤ (s.l.length : Int)
    · refine (send_full h x A x.b.length c hx hl).mono ?_
      rintro e w' ⟨rfl, hp, hf⟩
      rw [wrap_lost hs.lost] at hp
      refine ⟨by unfold sendR; rw [if_neg (by simp [hx]), if_pos hl], ⟨v, bs, ?_⟩, hf.mono (fun k _ e => .inl e)⟩
      unfold sendS
      rw [if_neg (by simp [hx]), if_pos hl]
      exact hp.mono (fun _ _ h => .inl h)
    · refine (send_ok h x A c hv hb hx (by omega)).mono ?_
      rintro e w' ⟨rfl, ⟨v', vb', hp⟩, hf⟩
      refine ⟨by unfold sendR; rw [if_neg (by simp [hx]), if_neg hl], ⟨v', bs ++ [vb'], ?_⟩, FS.wr (v := v) (bs := bs) hf h⟩
      unfold sendS
      rw [if_neg (by simp [hx]), if_neg hl]
      exact hp
  · refine (send_bad h x A x.b.length c hx).mono ?_
    rintro e w' ⟨rfl, hB⟩
    refine ⟨by unfold sendR; rw [if_pos hx], ⟨v, bs, ?_⟩, Fr.of_below hB⟩
    unfold sendS
    rw [if_pos hx]
    exact (h.of_below hB).mono (fun _ _ h => .inl h)
theorem take_any {β b : Nat} {s : PS} {F : Nat → Prop} {w : World} (h : IsP β b s F w) (i : Int) :
    Calls Try.prog 20 #[.pointer (some ⟨b, 0, none⟩), .int .i64 i] w fun e w' => ∃ v', e = .returned (.tuple #[.agg #[.int .i64 (itemAt s i).from_, .int .i64 (itemAt s i).to_, v'], .int .i64 (takeR s i)]) ∧ Rd w' v' (itemAt s i).b.length (byV (itemAt s i).b) ∧ IsP β b (takeS s i) F w' ∧ Fr (Wr b w) w w' := by
  obtain ⟨v, bs, h⟩ := h
  cases hi : inR s i
  · refine (take_out h i (inR_out hi)).mono ?_
    rintro e w' ⟨rfl, hB⟩
    unfold takeR takeS
    rw [itemAt_out hi, if_neg (by simp [hi]), if_neg (by simp [hi])]
    exact ⟨_, rfl, .inl ⟨rfl, rfl, none, 0, rfl⟩, ⟨v, bs, h.of_below hB⟩, Fr.of_below hB⟩
  · obtain ⟨k, rfl, hk⟩ := inR_nat hi
    have hkb : k < bs.length := by rw [h.len]; exact hk
    refine (take_ok h k hk hkb).mono ?_
    rintro e w' ⟨v2, rfl, hp, hx, hf⟩
    unfold takeR takeS
    rw [itemAt_of hk, if_pos hi, if_pos hi]
    exact ⟨_, rfl, hx, ⟨v2, _, hp⟩, hf.mono (fun _ _ e => .inl e)⟩
theorem drop_any {β b : Nat} {s : PS} {F : Nat → Prop} {w : World} (h : IsP β b s F w) (hs : SOk s) (i : Int) :
    Calls Try.prog 24 #[.pointer (some ⟨b, 0, none⟩), .int .i64 i] w fun e w' => e = .returned (.int .i64 (takeR s i)) ∧ IsP β b (dropS s i) F w' ∧ Fr (Wr b w) w w' := by
  obtain ⟨v, bs, h⟩ := h
  cases hi : inR s i
  · refine (drop_out h i (inR_out hi)).mono ?_
    rintro e w' ⟨rfl, hB⟩
    unfold takeR dropS
    rw [if_neg (by simp [hi]), if_neg (by simp [hi])]
    exact ⟨rfl, ⟨v, bs, h.of_below hB⟩, Fr.of_below hB⟩
  · obtain ⟨k, rfl, hk⟩ := inR_nat hi
    refine (drop_ok h k hk).mono ?_
    rintro e w' ⟨v2, rfl, hp, hf⟩
    rw [wrap_lost hs.lost] at hp
    unfold takeR dropS
    rw [if_pos hi, if_pos hi]
    exact ⟨rfl, ⟨v2, _, hp⟩, hf.mono (fun _ _ e => .inl e)⟩
theorem twice_any {β b : Nat} {s : PS} {F : Nat → Prop} {w : World} (h : IsP β b s F w) (hs : SOk s) (i : Int) :
    Calls Try.prog 23 #[.pointer (some ⟨b, 0, none⟩), .int .i64 i] w fun e w' => e = .returned (.int .i64 (twiceR s i)) ∧ IsP β b (twiceS s i) (fun k => F k ∨ w.heap.size ≤ k) w' ∧ Fr (Wr b w) w w' := by
  obtain ⟨v, bs, h⟩ := h
  cases hi : inR s i
  · refine (twice_out h i (inR_out hi)).mono ?_
    rintro e w' ⟨rfl, rfl⟩
    unfold twiceR twiceS
    rw [if_neg (by simp [hi]), if_neg (by simp [hi])]
    exact ⟨rfl, ⟨v, bs, h.mono (fun _ _ h => .inl h)⟩, Fr.refl _ _⟩
  · obtain ⟨k, rfl, hk⟩ := inR_nat hi
    have hkb : k < bs.length := by rw [h.len]; exact hk
    have hsh := hs.short _ (List.getElem_mem hk)
    have hbyt := h.byt k hk hkb
    unfold twiceR twiceS
    rw [if_pos hi, if_pos hi, itemAt_of hk]
    refine (twice_in h k hk hkb (fun e w' => e = .returned (.int .i64 (sendR s s.l[k])) ∧ IsP β b (sendS s s.l[k]) (fun k => F k ∨ w.heap.size ≤ k) w' ∧ Fr (Wr b w) w w') ?_).mono fun _ _ h => h
    obtain ⟨A, c, hvb⟩ := hbyt.slice
    rw [hvb] at hbyt ⊢
    refine (send_any ⟨v, bs, h⟩ hs s.l[k] A c hbyt hsh).mono ?_
    rintro e w' ⟨rfl, hp, hf⟩
    exact ⟨_, rfl, rfl, hp, hf⟩
theorem all_any {β b : Nat} {s : PS} {F : Nat → Prop} {w : World} (h : IsP β b s F w) :
    Calls Try.prog 25 #[.pointer (some ⟨b, 0, none⟩)] w fun e w' => ∃ v bs, PA β b v bs s F w ∧ e = .returned v ∧ w'.ownsRow β 32 3 v s.l.length (pcV s.l bs) ∧ (∀ i (h : i < s.l.length) (h' : i < bs.length), Rd w' bs[i] s.l[i].b.length (byV s.l[i].b)) ∧ IsP β b { s with l := [] } (fun _ => False) w' ∧ Fr (fun k => k = b) w w' := by
  obtain ⟨v, bs, h⟩ := h
  refine (all_pool h).mono ?_
  rintro e w' ⟨rfl, rfl⟩
  have hf : Fr (fun k => k = b) w (w.setCell ⟨b, 2, none⟩ (.slice none 0 0)) := (Fr.refl (fun k => k = b) w).setCell (p := ⟨b, 2, none⟩) (fun _ => rfl) _
  have he := h.emptied
  exact ⟨v, bs, h, rfl, own_fr h.row hf (fun g hg e => h.row_ne (e ▸ hg)), fun i h1 h2 => (h.byt i h1 h2).fr hf (fun g hg e => (h.byt_ne i h2 g hg).1 e), ⟨_, _, ⟨he.blk, he.low, he.pos, he.row, he.len, he.byt, fun i hi => by cases hi⟩⟩, hf⟩
theorem to_any {β b : Nat} {s : PS} {F : Nat → Prop} {w : World} (h : IsP β b s F w) (n : Int) : Calls Try.prog 28 #[.pointer (some ⟨b, 0, none⟩), .int .i64 n] w fun e w' => e = .returned (.int .i64 (toL s.l n : Nat)) ∧ w' = w := by
  obtain ⟨v, bs, h⟩ := h
  exact to_pool h n
end Go.Proofs.Ytjfbiifcjiidfaa.R
