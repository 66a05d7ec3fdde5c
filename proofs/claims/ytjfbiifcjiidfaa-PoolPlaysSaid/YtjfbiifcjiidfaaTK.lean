/- The walks through Take and Drop. -/
import Derived.Test.YtjfbiifcjiidfaaSE
import Derived.Test.YtjfbiifcjiidfaaDA
namespace Go.Proofs.Ytjfbiifcjiidfaa
open Go.RowKit

theorem set3_fr (w : World) (p : Nat) (u0 u1 u2 : Value) : Fr (fun j => j = p) w (((w.setCell ⟨p, 0, none⟩ u0).setCell ⟨p, 1, none⟩ u1).setCell ⟨p, 2, none⟩ u2) :=
  (((Fr.refl (fun j => j = p) w).setCell (p := ⟨p, 0, none⟩) (fun _ => rfl) u0).setCell (p := ⟨p, 1, none⟩) (fun _ => rfl) u1).setCell (p := ⟨p, 2, none⟩) (fun _ => rfl) u2
theorem set3_block {w : World} {p : Nat} {a b c : Value} {t : TypeId} (h : w.heap[p]? = some (.cells #[a, b, c] t (0, 0))) (u0 u1 u2 : Value) : (((w.setCell ⟨p, 0, none⟩ u0).setCell ⟨p, 1, none⟩ u1).setCell ⟨p, 2, none⟩ u2).heap[p]? = some (.cells #[u0, u1, u2] t (0, 0)) :=
  blk_conv (block_setCell (block_setCell (block_setCell h _) _) _) rfl
theorem pcV_erase : ∀ {l : List Pc} {bs : List Value} (k : Nat), bs.length = l.length → pcV (l.eraseIdx k) (bs.eraseIdx k) = (pcV l bs).take (k * 3) ++ (pcV l bs).drop ((k + 1) * 3)
  | [], [], _, _ => by simp [pcV]
  | [], _ :: _, _, h => by cases h
  | _ :: _, [], _, h => by cases h
  | x :: l, v :: bs, 0, _ => by simp [pcV]
  | x :: l, v :: bs, k + 1, h => by
    have := pcV_erase (l := l) (bs := bs) k (by simpa using h)
    rw [show (k + 1) * 3 = k * 3 + 3 by omega, show (k + 1 + 1) * 3 = (k + 1) * 3 + 3 by omega]
    simp only [List.eraseIdx_cons_succ, pcV, List.take_succ_cons, List.drop_succ_cons, this, List.cons_append]
theorem PA.one {β b : Nat} {v : Value} {bs : List Value} {s : PS} {F : Nat → Prop} {w : World} (h : PA β b v bs s F w) : ∀ u ∈ pcV s.l bs, u.oneCell' = true := by
  have key : ∀ (l : List Pc) (bs : List Value), (∀ u ∈ bs, u.oneCell' = true) → ∀ u ∈ pcV l bs, u.oneCell' = true := by
    intro l
    induction l with
    | nil => intro bs _ u hu; cases bs <;> cases hu
    | cons x l ih =>
      intro bs hb u hu
      cases bs with
      | nil => cases hu
      | cons v bs =>
        simp only [pcV, List.mem_cons] at hu
        rcases hu with rfl | rfl | rfl | hu
        · rfl
        · rfl
        · exact hb _ (by simp)
        · exact ih bs (fun u hu => hb u (by simp [hu])) u hu
  refine key _ _ fun u hu => ?_
  obtain ⟨i, hi, rfl⟩ := List.getElem_of_mem hu
  obtain ⟨A, c, e⟩ := (h.byt i (by rw [← h.len]; exact hi) hi).slice
  rw [e]; rfl
theorem getElem_eraseIdx' {α : Type} {l : List α} {k i : Nat} (h : i < (l.eraseIdx k).length) (hk : k < l.length) : ∃ j, ∃ hj : j < l.length, (l.eraseIdx k)[i] = l[j] ∧ (j = if i < k then i else i + 1) := by
  have hl : (l.eraseIdx k).length = l.length - 1 := List.length_eraseIdx_of_lt hk
  by_cases hi : i < k
  · exact ⟨i, by omega, by rw [List.getElem_eraseIdx, dif_pos hi], by rw [if_pos hi]⟩
  · exact ⟨i + 1, by omega, by rw [List.getElem_eraseIdx, dif_neg hi], by rw [if_neg hi]⟩
theorem PA.fr {β b : Nat} {v : Value} {bs : List Value} {s : PS} {F S : Nat → Prop} {w w' : World} (h : PA β b v bs s F w) (hf : Fr S w w') (hb : ¬ S b) (hv : ∀ g, v.ownBlock = some g → ¬ S g) (hy : ∀ i (h : i < bs.length) g, (bs[i]).ownBlock = some g → ¬ S g) : PA β b v bs s F w' :=
  ⟨fr_block h.blk hf hb, h.low, h.pos, own_fr h.row hf hv, h.len, fun i h1 h2 => (h.byt i h1 h2).fr hf (hy i h2), fun i h1 g hg => by obtain ⟨hF, c, fz, hc⟩ := h.own i h1 g hg; exact ⟨hF, c, fz, fr_block hc hf (hy i h1 g hg)⟩⟩
/-- One parcel less. -/
theorem PA.erase {β b k : Nat} {v v' : Value} {bs : List Value} {s : PS} {F : Nat → Prop} {w w1 : World} (h : PA β b v bs s F w) (hk : k < s.l.length) 
    (hown : w1.ownsRow β 37 3 v' (s.l.length - 1) ((pcV s.l bs).take (k * 3) ++ (pcV s.l bs).drop ((k + 1) * 3))) (hf : Fr (fun j => v.ownBlock = some j) w w1) :
    PA β b v' (bs.eraseIdx k) { s with l := s.l.eraseIdx k } F (w1.setCell ⟨b, 2, none⟩ v') ∧ Fr (fun j => j = b ∨ v.ownBlock = some j) w (w1.setCell ⟨b, 2, none⟩ v') := by
  have hF : Fr (fun j => j = b ∨ v.ownBlock = some j) w (w1.setCell ⟨b, 2, none⟩ v') := (hf.mono (fun _ _ h => .inr h)).setCell (p := ⟨b, 2, none⟩) (fun _ => .inl rfl) v'
  have hkb : k < bs.length := by rw [h.len]; exact hk
  have hB1 := fr_block h.blk hf h.row_ne
  refine ⟨⟨blk_conv (block_setCell hB1 _) rfl, h.low, ⟨h.pos.1, h.pos.2.1, ?_⟩, ?_, ?_, ?_, ?_⟩, hF⟩
  · have := h.pos.2.2; show ((s.l.eraseIdx k).length : Int) ≤ s.most; rw [List.length_eraseIdx_of_lt hk]; omega
  · rw [List.length_eraseIdx_of_lt hk, pcV_erase k h.len]
    refine own_fr hown ((Fr.refl (fun j => j = b) w1).setCell (p := ⟨b, 2, none⟩) (fun _ => rfl) v') (fun j hj e => ?_)
    obtain ⟨c, fz, hc⟩ := own_kind hown j hj
    rw [e, hB1] at hc
    simp at hc
  · rw [List.length_eraseIdx_of_lt hk, List.length_eraseIdx_of_lt hkb, h.len]
  · intro i h1 h2
    obtain ⟨j, hj, e1, e2⟩ := getElem_eraseIdx' h1 hk
    obtain ⟨j', hj', e3, e4⟩ := getElem_eraseIdx' h2 hkb
    obtain rfl : j' = j := by rw [e2, e4]
    rw [e1, e3]
    exact (h.byt j' hj hj').fr hF (fun g hg hS => by have := h.byt_ne j' hj' g hg; rcases hS with rfl | hS; exact this.1 rfl; exact this.2 hS)
  · intro i h1 g hg
    obtain ⟨j', hj', e3, e4⟩ := getElem_eraseIdx' h1 hkb
    rw [e3] at hg
    obtain ⟨hFg, c, fz, hc⟩ := h.own j' hj' g hg
    have := h.byt_ne j' hj' g hg
    exact ⟨hFg, c, fz, fr_block hc hF (fun hS => by rcases hS with rfl | hS; exact this.1 rfl; exact this.2 hS)⟩

set_option maxHeartbeats 1000000 in
theorem take_out {β b : Nat} {v : Value} {bs : List Value} {s : PS} {F : Nat → Prop} {w : World} (h : PA β b v bs s F w) (i : Int) (hi : i < 0 ∨ (s.l.length : Int) ≤ i) :
    Calls Try.prog 12 #[.pointer (some ⟨b, 0, none⟩), .int .i64 i] w fun e w' => e = .returned (.tuple #[.agg zeroP, .int .i64 3]) ∧ Below w.heap.size w w' := by
  have hb0 : Below w.heap.size w (w.alloc (.cells zeroP 37)) := (Below.refl _ w).alloc (Nat.le_refl _) _
  have h0 := h.of_below hb0
  have hP := alloc_new w (.cells zeroP 37)
  have hlb := h.lt
  replace h := Lib.hid h
  replace h0 := Lib.hid h0
  replace hP := Lib.hid hP
  replace hb0 := Lib.hid hb0
  go_enter Try.func12, Try.ntmps12
  go_wp2_with (fail)
  refine (at_out h0.out i hi).mono ?_
  rintro e w1 ⟨rfl, hb1⟩
  have h1 := h0.out.of_below hb1
  have hP1 := block_kept hP.out hb1
  have hB1 := hb0.out.trans (hb1.mono hb0.out.size)
  have d0 : w1.cell? ⟨w.heap.size, 0, none⟩ = some (.int .i64 0) := cell_of_block hP1 0
  have d1 : w1.cell? ⟨w.heap.size, 1, none⟩ = some (.int .i64 0) := cell_of_block hP1 1
  have d2 : w1.cell? ⟨w.heap.size, 2, none⟩ = some (.slice none 0 0) := cell_of_block hP1 2
  have g0 := free_of_block hP1 0
  have g1 := free_of_block hP1 1
  have g2 := free_of_block hP1 2
  have hlt := lt_of_block hP1
  have h2 : PA β b v bs s F (w1.alloc (.cells zeroP 37)) := h1.of_below ((Below.refl _ w1).alloc (Nat.le_refl _) _)
  unfold zeroP at *
  replace h1 := Lib.hid h1
  replace h2 := Lib.hid h2
  replace hP1 := Lib.hid hP1
  replace hB1 := Lib.hid hB1
  replace hb1 := Lib.hid hb1
  go_wp2_with (go_at_call 29; refine (none_pool h2.out).mono ?_; rintro e w2 ⟨rfl, rfl⟩)
  refine bodyPost_ret (v := .tuple #[.agg #[.int .i64 0, .int .i64 0, .slice none 0 0], .int .i64 3]) (by simp [results, Try.results12, go_sem, *]) rfl ⟨rfl, ?_⟩
  exact hB1.out.trans (((set3_fr w1 w.heap.size _ _ _).alloc _).below (B := w.heap.size) (by omega) (fun k hk e => by omega))

set_option maxHeartbeats 2000000 in
theorem take_ok {β b : Nat} {v : Value} {bs : List Value} {s : PS} {F : Nat → Prop} {w : World} (h : PA β b v bs s F w) (k : Nat) (hk : k < s.l.length) (hs : s.l[k].b.length ≤ 1000000) :
    Calls Try.prog 12 #[.pointer (some ⟨b, 0, none⟩), .int .i64 k] w fun e w' => ∃ v2 vx, e = .returned (.tuple #[.agg #[.int .i64 s.l[k].from_, .int .i64 s.l[k].to_, vx], .int .i64 0]) ∧ PA β b v2 (bs.eraseIdx k) { s with l := s.l.eraseIdx k } F w' ∧ w'.ownsRow w.heap.size 5 1 vx s.l[k].b.length (byV s.l[k].b) ∧ v2.ownBlock = v.ownBlock ∧ Fr (fun j => j = b ∨ v.ownBlock = some j) w w' := by
  have hb0 : Below w.heap.size w (w.alloc (.cells zeroP 37)) := (Below.refl _ w).alloc (Nat.le_refl _) _
  have h0 := h.of_below hb0
  have hP := alloc_new w (.cells zeroP 37)
  have hlb := h.lt
  have hko : (k : Int) + 1 ≤ 1025 := by have := h.pos; omega
  replace h := Lib.hid h
  replace h0 := Lib.hid h0
  replace hP := Lib.hid hP
  replace hb0 := Lib.hid hb0
  go_enter Try.func12, Try.ntmps12
  go_wp2_with (fail)
  refine (at_in h0.out k hk hs).mono ?_
  rintro e w1 ⟨vx, rfl, hx, hb1⟩
  obtain ⟨Ax, cx, rfl, _⟩ := own_slice hx
  have h1 := h0.out.of_below hb1
  have hP1 := block_kept hP.out hb1
  have hB1 := hb0.out.trans (hb1.mono hb0.out.size)
  have hx1 := own_lower hx hb0.out.size
  generalize hxx : s.l[k] = x at *
  have d0 : w1.cell? ⟨w.heap.size, 0, none⟩ = some (.int .i64 0) := cell_of_block hP1 0
  have d1 : w1.cell? ⟨w.heap.size, 1, none⟩ = some (.int .i64 0) := cell_of_block hP1 1
  have d2 : w1.cell? ⟨w.heap.size, 2, none⟩ = some (.slice none 0 0) := cell_of_block hP1 2
  have g0 := free_of_block hP1 0
  have g1 := free_of_block hP1 1
  have g2 := free_of_block hP1 2
  have hlt := lt_of_block hP1
  have hb2 : Below w1.heap.size w1 (w1.alloc (.cells #[.int .i64 x.from_, .int .i64 x.to_, .slice Ax x.b.length cx] 37)) := (Below.refl _ w1).alloc (Nat.le_refl _) _
  have h2 : PA β b v bs s F (w1.alloc (.cells #[.int .i64 x.from_, .int .i64 x.to_, .slice Ax x.b.length cx] 37)) := h1.of_below hb2
  have c2 : (w1.alloc (.cells #[.int .i64 x.from_, .int .i64 x.to_, .slice Ax x.b.length cx] 37)).cell? ⟨b, 2, none⟩ = some v := cell_of_block h2.blk 2
  have f2 := free_of_block h2.blk 2
  have hX2 := alloc_new w1 (.cells #[.int .i64 x.from_, .int .i64 x.to_, .slice Ax x.b.length cx] 37)
  have hP2 := block_kept hP1 hb2
  unfold zeroP at *
  obtain ⟨Av, cv, rfl, _⟩ := own_slice h2.row
  replace hx := Lib.hid hx
  replace hx1 := Lib.hid hx1
  replace h1 := Lib.hid h1
  replace h2 := Lib.hid h2
  replace hP1 := Lib.hid hP1
  replace hB1 := Lib.hid hB1
  replace hb1 := Lib.hid hb1
  replace hb2 := Lib.hid hb2
  replace hX2 := Lib.hid hX2
  replace hP2 := Lib.hid hP2
  replace hxx := Lib.hid hxx
  replace hk := Lib.hid hk
  go_wp2_with (go_at_call 29; refine (none_pool h2.out).mono ?_; rintro e w2 ⟨rfl, rfl⟩)
  refine (delete_own h2.out.row h2.out.one k hk.out).mono ?_
  rintro e w3 ⟨v2, rfl, hvb, hown, hf⟩
  have hB3 := fr_block h2.out.blk hf h2.out.row_ne
  have hkX : (Value.slice Av s.l.length cv).ownBlock ≠ some w1.heap.size := fun e => by have := own_lt h1.out.row _ e; omega
  have hkP : (Value.slice Av s.l.length cv).ownBlock ≠ some w.heap.size := fun e => by have := own_lt h.out.row _ e; omega
  have hX3 := fr_block hX2.out hf hkX
  have hP3 := fr_block hP2.out hf hkP
  have c3 : w3.cell? ⟨b, 2, none⟩ = some (.slice Av s.l.length cv) := cell_of_block hB3 2
  have f3 := free_of_block hB3 2
  have x0 : w3.cell? ⟨w1.heap.size, 0, none⟩ = some (.int .i64 x.from_) := cell_of_block hX3 0
  have x1 : w3.cell? ⟨w1.heap.size, 1, none⟩ = some (.int .i64 x.to_) := cell_of_block hX3 1
  have x2 : w3.cell? ⟨w1.heap.size, 2, none⟩ = some (.slice Ax x.b.length cx) := cell_of_block hX3 2
  have e0 : w3.cell? ⟨w.heap.size, 0, none⟩ = some (.int .i64 0) := cell_of_block hP3 0
  have e1 : w3.cell? ⟨w.heap.size, 1, none⟩ = some (.int .i64 0) := cell_of_block hP3 1
  have e2 : w3.cell? ⟨w.heap.size, 2, none⟩ = some (.slice none 0 0) := cell_of_block hP3 2
  have i0 := free_of_block hP3 0
  have i1 := free_of_block hP3 1
  have i2 := free_of_block hP3 2
  obtain ⟨A2, c2', rfl, _⟩ := own_slice hown
  have hne : ¬ b = w1.heap.size := by omega
  have hne1 : ¬ w1.heap.size = b := by omega
  have hne2 : ¬ w.heap.size = b := by omega
  have hne3 : ¬ b = w.heap.size := by omega
  have hne4 : ¬ w1.heap.size = w.heap.size := by omega
  replace hown := Lib.hid hown
  replace hf := Lib.hid hf
  replace hB3 := Lib.hid hB3
  replace hX3 := Lib.hid hX3
  replace hP3 := Lib.hid hP3
  replace hkX := Lib.hid hkX
  replace hkP := Lib.hid hkP
  replace hvb := Lib.hid hvb
  go_wp2_with (fail)
  obtain ⟨hend, hfr⟩ := h2.out.erase hk.out hown.out hf.out
  have hP4 := (block_set_other (w := w3) (g := w.heap.size) (i := 2) hne2 (Value.slice A2 (s.l.length - 1) c2')).trans hP3.out
  have hfr4 := hfr
  have hs3 := set3_fr (w3.setCell ⟨b, 2, none⟩ (.slice A2 (s.l.length - 1) c2')) w.heap.size (.int .i64 x.from_) (.int .i64 x.to_) (.slice Ax x.b.length cx)
  have hs3b := set3_block hP4 (.int .i64 x.from_) (.int .i64 x.to_) (.slice Ax x.b.length cx)
  generalize w3.setCell ⟨b, 2, none⟩ (.slice A2 (s.l.length - 1) c2') = W4 at hend hfr hs3 hs3b hP4 hfr4 ⊢
  generalize ((W4.setCell ⟨w.heap.size, 0, none⟩ (.int .i64 x.from_)).setCell ⟨w.heap.size, 1, none⟩ (.int .i64 x.to_)).setCell ⟨w.heap.size, 2, none⟩ (.slice Ax x.b.length cx) = W5 at hs3 hs3b ⊢
  have r0 : W5.cell? ⟨w.heap.size, 0, none⟩ = some (.int .i64 x.from_) := cell_of_block hs3b 0
  have r1 : W5.cell? ⟨w.heap.size, 1, none⟩ = some (.int .i64 x.to_) := cell_of_block hs3b 1
  have r2 : W5.cell? ⟨w.heap.size, 2, none⟩ = some (.slice Ax x.b.length cx) := cell_of_block hs3b 2
  have hFw : Fr (fun j => j = b ∨ (Value.slice Av s.l.length cv).ownBlock = some j) w W5 := by
    have q1 : Fr (fun j => j = b ∨ (Value.slice Av s.l.length cv).ownBlock = some j) w w1 := Fr.of_below hB1.out
    have q2 : Fr (fun j => j = b ∨ (Value.slice Av s.l.length cv).ownBlock = some j) w1 W4 := ((Fr.refl _ w1).alloc _).trans hfr (fun _ _ h => h)
    exact (q1.trans q2 (fun _ _ h => h)).trans hs3 (fun j hj e => by omega)
  have hPA5 : PA β b (.slice A2 (s.l.length - 1) c2') (bs.eraseIdx k) { s with l := s.l.eraseIdx k } F W5 := hend.fr hs3 (fun e => by omega) (fun g hg e => by
      have := own_lt h.out.row g (hvb.out ▸ hg)
      omega) (fun i hi g hg e => by
      obtain ⟨j, hj, e3, _⟩ := getElem_eraseIdx' hi (by rw [h.out.len]; exact hk.out)
      rw [e3] at hg
      obtain ⟨_, c, fz, hc⟩ := h.out.own j hj g hg
      have := lt_of_block hc
      omega)
  have hxe : W5.ownsRow w.heap.size 5 1 (.slice Ax x.b.length cx) x.b.length (byV x.b) := by
    have hbx : ∀ g, (Value.slice Ax x.b.length cx).ownBlock = some g → g ≠ b ∧ (Value.slice Av s.l.length cv).ownBlock ≠ some g ∧ g ≠ w.heap.size := by
      intro g hg
      have q := own_base hx.out g hg
      simp at q
      refine ⟨by omega, fun e => ?_, by omega⟩
      have := own_lt h.out.row g e
      omega
    have q := own_fr hx1.out ((Fr.refl (fun j => j = b ∨ (Value.slice Av s.l.length cv).ownBlock = some j) w1).alloc _ |>.trans hfr (fun _ _ h => h)) (fun g hg e => by have := hbx g hg; rcases e with rfl | e; exact this.1 rfl; exact this.2.1 e)
    exact own_fr q hs3 (fun g hg e => (hbx g hg).2.2 e)
  refine bodyPost_ret (v := .tuple #[.agg #[.int .i64 x.from_, .int .i64 x.to_, .slice Ax x.b.length cx], .int .i64 0]) (by simp [results, Try.results12, go_sem, r0, r1, r2]) rfl ?_
  rw [hxx.out]
  exact ⟨_, _, rfl, hPA5, hxe, hvb.out, hFw⟩
end Go.Proofs.Ytjfbiifcjiidfaa
