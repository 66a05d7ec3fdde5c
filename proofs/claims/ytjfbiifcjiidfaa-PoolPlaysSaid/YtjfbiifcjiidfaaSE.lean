/- The walk through Send. -/
import Derived.Deep.AppendLies
import Derived.Deep.QuietTactic
import Derived.BigQuiet
import Derived.Test.YtjfbiifcjiidfaaAT
namespace Go.Proofs.Ytjfbiifcjiidfaa
open Go.RowKit

theorem info_pc : (Try.prog.info? 37).map (fun i => (i.zero, i.size, i.bytes)) = some (some (.agg #[.int .i64 0, .int .i64 0, .slice none 0 0]), 3, 40) := by kernel_rfl
theorem step_append_own {P : Program} {ops : Array Oper} {o : Oper} {a : Act} {w : World} {K : Act → World → Prop} {Q : Exit → Act → World → Prop} {E : Prop}
    (hg : o.guard = none) (s x : Operand) (t : TypeId) (hop : o.op = Op.call { callee := Callee.builtin Builtin.append, args := #[s, x], argTypes := #[t, t] })
    (base : Nat) (e : TypeId) (i : TypeInfo) (z : Value) (size bytes : Nat) (h1 : P.underlying t = some (.slice e)) (h2 : P.info? e = some i) (h3 : i.zero = some z) (h4 : i.size = size) (h5 : i.bytes = bytes) (h6 : z.cells.size = size) (h7 : 0 < size)
    (v : Value) (n : Nat) (xs : List Value) (hs : a.eval s = v) (hown : w.ownsRow base e size v n xs)
    (ad : Addr) (m c : Nat) (news : List Value) (hx : a.eval x = .slice (some ad) m c) (hn : news.length = m * size) (hc : ∀ j u, news[j]? = some u → w.cell? (ad.add j) = some u) (h1c : ∀ u ∈ news, u.oneCell' = true)
    (b1 : n + m ≤ maxLen) (b2 : (n + m) * bytes ≤ 140737488355328) (hbase : base ≤ w.heap.size)
    (hK : ∀ v' w', w'.ownsRow base e size v' (n + m) (xs ++ news) → w.grownBy w' v.ownBlock → K (a.put o.dst v') w') :
    if Region.wanted o (yielded ops a.tmps) = true then Oper.wp P o a w K Q else E := by
  have hw : Region.wanted o (yielded ops a.tmps) = true := by simp [Region.wanted, hg]
  rw [if_pos hw]
  obtain ⟨v', w', hrun, r1, r2, _⟩ := run_append_own (P := P) w base t o.type e i z size bytes h1 h2 h3 h4 h5 h6 h7 v n xs hown ad m c news hn hc h1c b1 b2 hbase
  unfold Oper.wp
  simp [execOp, hop, resolve, invoke, builtin, hs, hx, hrun, Result.andThen]
  exact hK v' w' r1 r2
def okN (n : Int) : Bool := decide (0 ≤ n) && decide (n < 8)
def badP (x : Pc) : Bool := !okN x.from_ || !okN x.to_ || x.from_ == x.to_

set_option maxHeartbeats 1000000 in
theorem send_bad {β b : Nat} {v : Value} {bs : List Value} {s : PS} {F : Nat → Prop} {w : World} (h : PA β b v bs s F w) (x : Pc) (A : Option Addr) (n c : Nat) (hx : badP x = true) :
    Calls Try.prog 11 #[.pointer (some ⟨b, 0, none⟩), .agg #[.int .i64 x.from_, .int .i64 x.to_, .slice A n c]] w fun e w' => e = .returned (.int .i64 1) ∧ Below w.heap.size w w' := by
  have hb0 : Below w.heap.size w (w.alloc (.cells #[.int .i64 x.from_, .int .i64 x.to_, .slice A n c] 37)) := (Below.refl _ w).alloc (Nat.le_refl _) _
  have h1 := h.of_below hb0
  have hlb := h.lt
  have hne : ¬ b = w.heap.size := by omega
  unfold badP at hx
  replace h := Lib.hid h
  replace h1 := Lib.hid h1
  replace hb0 := Lib.hid hb0
  cases n1 : okN x.from_
  · unfold okN at n1
    clear hx
    go_enter Try.func11, Try.ntmps11
    go_wp2_with (first
      | (go_at_call 29; refine (none_pool h1.out).mono ?_; rintro e w1 ⟨rfl, rfl⟩)
      | (go_at_call 30; refine (node_any _ _).mono ?_; rintro e w1 ⟨rfl, rfl⟩; rw [n1]))
    go_ret
    exact ⟨rfl, hb0.out⟩
  · cases n2 : okN x.to_
    · unfold okN at n1 n2
      clear hx
      go_enter Try.func11, Try.ntmps11
      go_wp2_with (first
        | (go_at_call 29; refine (none_pool h1.out).mono ?_; rintro e w1 ⟨rfl, rfl⟩)
        | (go_at_call 30; refine (node_any _ _).mono ?_; rintro e w1 ⟨rfl, rfl⟩; first | rw [n1] | rw [n2]))
      go_ret
      exact ⟨rfl, hb0.out⟩
    · have n3 : (x.from_ == x.to_) = true := by rw [n1, n2] at hx; simpa using hx
      unfold okN at n1 n2
      clear hx
      go_enter Try.func11, Try.ntmps11
      go_wp2_with (first
        | (go_at_call 29; refine (none_pool h1.out).mono ?_; rintro e w1 ⟨rfl, rfl⟩)
        | (go_at_call 30; refine (node_any _ _).mono ?_; rintro e w1 ⟨rfl, rfl⟩; first | rw [n1] | rw [n2]))
      go_ret
      exact ⟨rfl, hb0.out⟩
theorem own_kind {w : World} {base : Nat} {e : TypeId} {size n : Nat} {v : Value} {xs : List Value} (h : w.ownsRow base e size v n xs) (g : Nat) (hg : v.ownBlock = some g) : ∃ c fz, w.heap[g]? = some (.cells c e fz) := by
  rcases h.2 with ⟨rfl, _⟩ | ⟨g', cap, cur, rfl, _, hh, _⟩
  · cases hg
  · cases hg
    exact ⟨_, _, hh⟩
theorem send_end {β b : Nat} {v v2 vb : Value} {bs : List Value} {s : PS} {F : Nat → Prop} {w w1 w2 : World} {x : Pc} {B : Nat} {o : Obj} (h : PA β b v bs s F w1) (hbw : Below w.heap.size w w1) (hown : w1.ownsRow B 5 1 vb x.b.length (byV x.b)) (hB : w.heap.size ≤ B)
    (hown2 : w2.ownsRow β 37 3 v2 (s.l.length + 1) (pcV s.l bs ++ [.int .i64 x.from_, .int .i64 x.to_, vb])) (hgr : (w1.alloc o).grownBy w2 v.ownBlock) (hl : (s.l.length : Int) < s.most) :
    PA β b v2 (bs ++ [vb]) { s with l := s.l ++ [x] } (fun k => F k ∨ w.heap.size ≤ k) (w2.setCell ⟨b, 2, none⟩ v2) ∧ Fr (fun k => k = b ∨ v.ownBlock = some k) w (w2.setCell ⟨b, 2, none⟩ v2) := by
  have hF1 : Fr (fun k => k = b ∨ v.ownBlock = some k) (w1.alloc o) w2 := ⟨hgr.os, hgr.tape, hgr.output, hgr.size, fun k hk hS => hgr.block k hk (fun e => hS (.inr e.symm))⟩
  have hF : Fr (fun k => k = b ∨ v.ownBlock = some k) w1 (w2.setCell ⟨b, 2, none⟩ v2) := (((Fr.refl _ w1).alloc o).trans hF1 (fun _ _ h => h)).setCell (p := ⟨b, 2, none⟩) (fun _ => .inl rfl) v2
  have hB2 : w2.heap[b]? = some (.cells #[.int .i64 s.most, .int .i64 s.lost, v] 60 (0, 0)) := (hgr.block b (lt_of_block (block_alloc h.blk o)) (fun e => h.row_ne e.symm)).trans (block_alloc h.blk o)
  have hvb : ∀ g, vb.ownBlock = some g → g ≠ b ∧ v.ownBlock ≠ some g := by
    intro g hg
    obtain ⟨c, fz, hc⟩ := own_kind hown g hg
    refine ⟨?_, ?_⟩
    · rintro rfl
      rw [h.blk] at hc
      simp at hc
    · intro hv
      obtain ⟨c', fz', hc'⟩ := own_kind h.row g hv
      rw [hc] at hc'
      simp at hc'
  refine ⟨⟨blk_conv (block_setCell hB2 _) rfl, h.low, ⟨h.pos.1, h.pos.2.1, by simp; omega⟩, ?_, by simp [h.len], ?_, ?_⟩, (Fr.of_below hbw).trans hF (fun _ _ h => h)⟩
  · have := own_fr hown2 ((Fr.refl (fun k => k = b) w2).setCell (p := ⟨b, 2, none⟩) (fun _ => rfl) v2) (fun k hk e => by
      obtain ⟨c, fz, hc⟩ := own_kind hown2 k hk
      rw [e, hB2] at hc
      simp at hc)
    rw [← pcV_append x vb h.len] at this
    simpa using this
  · intro i h1 h2
    by_cases hi : i < bs.length
    · have hi' : i < s.l.length := by rw [← h.len]; exact hi
      have := (h.byt i hi' hi).fr hF (fun g hg hS => by have := h.byt_ne i hi g hg; rcases hS with rfl | hS; exact this.1 rfl; exact this.2 hS)
      simpa [List.getElem_append_left hi, List.getElem_append_left hi'] using this
    · have e : i = bs.length := by simp at h2; omega
      have e' : i = s.l.length := by rw [← h.len]; exact e
      have := (Rd.of_own hown).fr hF (fun g hg hS => by have := hvb g hg; rcases hS with rfl | hS; exact this.1 rfl; exact this.2 hS)
      have g1 : (bs ++ [vb])[i] = vb := by simp [e]
      have g2 : (s.l ++ [x])[i]'(by simp; omega) = x := by simp [e']
      simp only [g1, g2]
      exact this
  · intro i h1 g hg
    by_cases hi : i < bs.length
    · rw [List.getElem_append_left hi] at hg
      obtain ⟨hFg, c, fz, hc⟩ := h.own i hi g hg
      have := h.byt_ne i hi g hg
      exact ⟨.inl hFg, c, fz, fr_block hc hF (fun hS => by rcases hS with rfl | hS; exact this.1 rfl; exact this.2 hS)⟩
    · have e : i = bs.length := by simp at h1; omega
      have g1 : (bs ++ [vb])[i] = vb := by simp [e]
      rw [g1] at hg
      obtain ⟨c, fz, hc⟩ := own_kind hown g hg
      have := hvb g hg
      exact ⟨.inr (Nat.le_trans hB (own_base hown g hg)), c, fz, fr_block hc hF (fun hS => by rcases hS with rfl | hS; exact this.1 rfl; exact this.2 hS)⟩

set_option maxHeartbeats 4000000 in
theorem send_ok {β b : Nat} {v : Value} {bs : List Value} {s : PS} {F : Nat → Prop} {w : World} (h : PA β b v bs s F w) (x : Pc) (A : Option Addr) (c : Nat) (hv : Rd w (.slice A x.b.length c) x.b.length (byV x.b)) (hb : x.b.length ≤ 1000000) (hx : badP x = false) (hl : (s.l.length : Int) < s.most) :
    Calls Try.prog 11 #[.pointer (some ⟨b, 0, none⟩), .agg #[.int .i64 x.from_, .int .i64 x.to_, .slice A x.b.length c]] w fun e w' => e = .returned (.int .i64 0) ∧ (∃ v' vb', PA β b v' (bs ++ [vb']) { s with l := s.l ++ [x] } (fun k => F k ∨ w.heap.size ≤ k) w') ∧ Fr (fun k => k = b ∨ v.ownBlock = some k) w w' := by
  have hb0 : Below w.heap.size w (w.alloc (.cells #[.int .i64 x.from_, .int .i64 x.to_, .slice A x.b.length c] 37)) := (Below.refl _ w).alloc (Nat.le_refl _) _
  have h1 := h.of_below hb0
  have hP := alloc_new w (.cells #[.int .i64 x.from_, .int .i64 x.to_, .slice A x.b.length c] 37)
  have hv1 := hv.below hb0
  have n1 : okN x.from_ = true := by unfold badP at hx; cases h : okN x.from_ <;> simp_all
  have n2 : okN x.to_ = true := by unfold badP at hx; cases h : okN x.to_ <;> simp_all
  have n3 : (x.from_ == x.to_) = false := by unfold badP at hx; cases h : (x.from_ == x.to_) <;> simp_all
  have c0 : (w.alloc (.cells #[.int .i64 x.from_, .int .i64 x.to_, .slice A x.b.length c] 37)).cell? ⟨b, 0, none⟩ = some (.int .i64 s.most) := cell_of_block h1.blk 0
  have c2 : (w.alloc (.cells #[.int .i64 x.from_, .int .i64 x.to_, .slice A x.b.length c] 37)).cell? ⟨b, 2, none⟩ = some v := cell_of_block h1.blk 2
  obtain ⟨i0, hi, hz0, hz1, hz2⟩ := info_parts info_pc
  obtain ⟨Av, cv, rfl, _⟩ := own_slice h.row
  have hge : decide (s.most ≤ (s.l.length : Int)) = false := decide_eq_false (by omega)
  unfold okN at n1 n2
  have hlb := h.lt
  have hne : ¬ b = w.heap.size := by omega
  have hwn : some w.heap.size ≠ (Value.slice Av s.l.length cv).ownBlock := fun e => by have := own_lt h.row _ e.symm; omega
  have hbn : some b ≠ (Value.slice Av s.l.length cv).ownBlock := fun e => h.row_ne e.symm
  replace hwn := Lib.hid hwn
  replace hbn := Lib.hid hbn
  replace h := Lib.hid h
  replace h1 := Lib.hid h1
  replace hb0 := Lib.hid hb0
  replace hP := Lib.hid hP
  replace hv := Lib.hid hv
  clear hx
  replace hl := Lib.hid hl
  go_enter Try.func11, Try.ntmps11
  go_wp2_with (first
    | (go_at_call 29; refine (none_pool h1.out).mono ?_; rintro e w1 ⟨rfl, rfl⟩)
    | (go_at_call 30; refine (node_any _ _).mono ?_; rintro e w1 ⟨rfl, rfl⟩; first | rw [n1] | rw [n2]))
  go_quiet (fail)
  go_wp2_with (fail)
  have hq : Below (w.alloc (.cells #[.int .i64 x.from_, .int .i64 x.to_, .slice A x.b.length c] 37)).heap.size (w.alloc (.cells #[.int .i64 x.from_, .int .i64 x.to_, .slice A x.b.length c] 37)) ((w.alloc (.cells #[.int .i64 x.from_, .int .i64 x.to_, .slice A x.b.length c] 37)).drewN nq) := below_drewN (Below.refl _ _) nq
  have h6 := h1.out.of_below hq
  have hv6 := hv1.below hq
  have hP6 := block_kept hP.out hq
  have hB6 := hb0.out.trans (hq.mono hb0.out.size)
  have hlw : w.heap.size < ((w.alloc (.cells #[.int .i64 x.from_, .int .i64 x.to_, .slice A x.b.length c] 37)).drewN nq).heap.size := lt_of_block hP6
  clear c0 c2 hv1 hq
  generalize (w.alloc (.cells #[.int .i64 x.from_, .int .i64 x.to_, .slice A x.b.length c] 37)).drewN nq = W6 at h6 hv6 hP6 hB6 hlw ⊢
  have y0 : W6.cell? ⟨w.heap.size, 0, none⟩ = some (.int .i64 x.from_) := cell_of_block hP6 0
  have y1 : W6.cell? ⟨w.heap.size, 1, none⟩ = some (.int .i64 x.to_) := cell_of_block hP6 1
  have y2 : W6.cell? ⟨w.heap.size, 2, none⟩ = some (.slice A x.b.length c) := cell_of_block hP6 2
  have c2 : W6.cell? ⟨b, 2, none⟩ = some (.slice Av s.l.length cv) := cell_of_block h6.blk 2
  have hv6d : Rd W6.drew (.slice A x.b.length c) x.b.length (byV x.b) := hv6
  have hP6d : W6.drew.heap[w.heap.size]? = _ := hP6
  have h6d : PA β b (.slice Av s.l.length cv) bs s F W6.drew := h6.of_below (Below.refl _ _).drew
  replace hv6d := Lib.hid hv6d
  replace hP6d := Lib.hid hP6d
  replace h6d := Lib.hid h6d
  replace h6 := Lib.hid h6
  replace hP6 := Lib.hid hP6
  clear hv6
  go_region_law
    (first
      | (go_simp; go_at_call 31; refine (apart_any x.from_ x.to_ A x.b.length c (byV x.b) _ hv6d.out (byV_length _) hb (byV_one _)).mono ?_; rintro e w1 ⟨vb, rfl, hown, hb1⟩; have hP1 := block_kept hP6d.out hb1; have z0 : w1.cell? ⟨w.heap.size, 0, none⟩ = some (.int .i64 x.from_) := cell_of_block hP1 0; have z1 : w1.cell? ⟨w.heap.size, 1, none⟩ = some (.int .i64 x.to_) := cell_of_block hP1 1; have z2 : w1.cell? ⟨w.heap.size, 2, none⟩ = some (.slice A x.b.length c) := cell_of_block hP1 2; have h7 := h6d.out.of_below hb1; have e2 : w1.cell? ⟨b, 2, none⟩ = some (.slice Av s.l.length cv) := cell_of_block h7.blk 2; have hl7 := h7.lt; replace hP1 := Lib.hid hP1; replace h7 := Lib.hid h7; replace hown := Lib.hid hown; replace hb1 := Lib.hid hb1)
      | (refine step_append_own rfl (.tmp 49) (.tmp 52) 41 rfl β 37 i0 _ 3 40 Try.underlying41 hi hz0 hz1 hz2 rfl (by decide) _ _ _ rfl (h7.out.row.alloc (.cells #[.int .i64 x.from_, .int .i64 x.to_, vb] 37)) ⟨w1.heap.size, 0, none⟩ 1 1 [.int .i64 x.from_, .int .i64 x.to_, vb] rfl rfl (cells_new w1 [.int .i64 x.from_, .int .i64 x.to_, vb] _) (by intro u hu; simp at hu; rcases hu with rfl | rfl | rfl; rfl; rfl; (obtain ⟨A9, c9, rfl, _⟩ := own_slice hown.out; rfl)) (by have := h7.out.pos; unfold maxLen; omega) (by have := h7.out.pos; omega) (by have := h7.out.low; have := h7.out.lt; simp; omega) ?_; intro v2 w2 hown2 hgr; have hPa := block_alloc hP1.out (.cells #[.int .i64 x.from_, .int .i64 x.to_, vb] 37); have hP2 := (hgr.block w.heap.size (lt_of_block hPa) hwn.out).trans hPa; have hBa := block_alloc h7.out.blk (.cells #[.int .i64 x.from_, .int .i64 x.to_, vb] 37); have hB2 := (hgr.block b (lt_of_block hBa) hbn.out).trans hBa; have k0 : w2.cell? ⟨w.heap.size, 0, none⟩ = some (.int .i64 x.from_) := cell_of_block hP2 0; have k1 : w2.cell? ⟨w.heap.size, 1, none⟩ = some (.int .i64 x.to_) := cell_of_block hP2 1; have k2 : w2.cell? ⟨w.heap.size, 2, none⟩ = some (.slice A x.b.length c) := cell_of_block hP2 2; have e3 : w2.cell? ⟨b, 2, none⟩ = some (.slice Av s.l.length cv) := cell_of_block hB2 2; have f3 := free_of_block hB2 2; obtain ⟨A2, c2', rfl, _⟩ := own_slice hown2; replace hown2 := Lib.hid hown2; replace hB2 := Lib.hid hB2; replace hP2 := Lib.hid hP2; replace hPa := Lib.hid hPa; replace hBa := Lib.hid hBa; replace hgr := Lib.hid hgr)
      | fail)
  all_goals (go_wp2_with (fail))
  all_goals go_ret
  all_goals
    have hend := send_end h7.out (hB6.drew.trans (hb1.out.mono hB6.drew.size)) hown.out hB6.drew.size hown2.out hgr.out hl.out
    exact ⟨rfl, ⟨_, vb, hend.1⟩, hend.2⟩

theorem PA.lostS {β b : Nat} {v : Value} {bs : List Value} {s : PS} {F : Nat → Prop} {w : World} (h : PA β b v bs s F w) (n : Int) : PA β b v bs { s with lost := n } F (w.setCell ⟨b, 1, none⟩ (.int .i64 n)) := by
  have hF : Fr (fun k => k = b) w (w.setCell ⟨b, 1, none⟩ (.int .i64 n)) := (Fr.refl (fun k => k = b) w).setCell (p := ⟨b, 1, none⟩) (fun _ => rfl) _
  exact ⟨blk_conv (block_setCell h.blk _) rfl, h.low, h.pos, own_fr h.row hF (fun k hk e => h.row_ne (e ▸ hk)), h.len, fun i h1 h2 => (h.byt i h1 h2).fr hF (fun g hg e => (h.byt_ne i h2 g hg).1 e),
    fun i h1 g hg => by obtain ⟨hFg, c, fz, hc⟩ := h.own i h1 g hg; exact ⟨hFg, c, fz, fr_block hc hF (h.byt_ne i h1 g hg).1⟩⟩
set_option maxHeartbeats 2000000 in
theorem send_full {β b : Nat} {v : Value} {bs : List Value} {s : PS} {F : Nat → Prop} {w : World} (h : PA β b v bs s F w) (x : Pc) (A : Option Addr) (n c : Nat) (hx : badP x = false) (hl : s.most ≤ (s.l.length : Int)) :
    Calls Try.prog 11 #[.pointer (some ⟨b, 0, none⟩), .agg #[.int .i64 x.from_, .int .i64 x.to_, .slice A n c]] w fun e w' => e = .returned (.int .i64 7) ∧ PA β b v bs { s with lost := wrap64 (s.lost + 1) } F w' ∧ Fr (fun k => k = b) w w' := by
  have hb0 : Below w.heap.size w (w.alloc (.cells #[.int .i64 x.from_, .int .i64 x.to_, .slice A n c] 37)) := (Below.refl _ w).alloc (Nat.le_refl _) _
  have h1 := h.of_below hb0
  have n1 : okN x.from_ = true := by unfold badP at hx; cases h : okN x.from_ <;> simp_all
  have n2 : okN x.to_ = true := by unfold badP at hx; cases h : okN x.to_ <;> simp_all
  have n3 : (x.from_ == x.to_) = false := by unfold badP at hx; cases h : (x.from_ == x.to_) <;> simp_all
  have c0 : (w.alloc (.cells #[.int .i64 x.from_, .int .i64 x.to_, .slice A n c] 37)).cell? ⟨b, 0, none⟩ = some (.int .i64 s.most) := cell_of_block h1.blk 0
  have c2 : (w.alloc (.cells #[.int .i64 x.from_, .int .i64 x.to_, .slice A n c] 37)).cell? ⟨b, 2, none⟩ = some v := cell_of_block h1.blk 2
  obtain ⟨Av, cv, rfl, _⟩ := own_slice h.row
  have hge : decide (s.most ≤ (s.l.length : Int)) = true := decide_eq_true hl
  unfold okN at n1 n2
  have hlb := h.lt
  have hne : ¬ b = w.heap.size := by omega
  replace h := Lib.hid h
  replace h1 := Lib.hid h1
  replace hb0 := Lib.hid hb0
  clear hx hl
  go_enter Try.func11, Try.ntmps11
  go_wp2_with (first
    | (go_at_call 29; refine (none_pool h1.out).mono ?_; rintro e w1 ⟨rfl, rfl⟩)
    | (go_at_call 30; refine (node_any _ _).mono ?_; rintro e w1 ⟨rfl, rfl⟩; first | rw [n1] | rw [n2]))
  go_quiet (fail)
  have hq : Below (w.alloc (.cells #[.int .i64 x.from_, .int .i64 x.to_, .slice A n c] 37)).heap.size (w.alloc (.cells #[.int .i64 x.from_, .int .i64 x.to_, .slice A n c] 37)) ((w.alloc (.cells #[.int .i64 x.from_, .int .i64 x.to_, .slice A n c] 37)).drewN nq) := below_drewN (Below.refl _ _) nq
  have h6 := h1.out.of_below hq
  have hB6 := hb0.out.trans (hq.mono hb0.out.size)
  clear c0 c2 hq
  generalize (w.alloc (.cells #[.int .i64 x.from_, .int .i64 x.to_, .slice A n c] 37)).drewN nq = W6 at h6 hB6 ⊢
  have c1 : W6.cell? ⟨b, 1, none⟩ = some (.int .i64 s.lost) := cell_of_block h6.blk 1
  have f1 := free_of_block h6.blk 1
  have hend := h6.lostS (wrap64 (s.lost + 1))
  have hfr : Fr (fun k => k = b) w (W6.setCell ⟨b, 1, none⟩ (.int .i64 (wrap64 (s.lost + 1)))) := (Fr.of_below (S := fun k => k = b) hB6).setCell (p := ⟨b, 1, none⟩) (fun _ => rfl) _
  replace h6 := Lib.hid h6
  replace hB6 := Lib.hid hB6
  replace hend := Lib.hid hend
  replace hfr := Lib.hid hfr
  go_wp2_with (fail)
  go_ret
  exact ⟨rfl, hend.out, hfr.out⟩
end Go.Proofs.Ytjfbiifcjiidfaa
