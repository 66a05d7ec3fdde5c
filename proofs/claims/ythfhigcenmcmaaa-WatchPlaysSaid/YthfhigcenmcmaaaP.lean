/- The law WatchPlays, walked: act by act the program's watch and the document's hold and tell the same. -/
import Derived.Deep.RegionHeld3
import Derived.Deep.DeepCutAuto
import Derived.Deep.CutBlock
import Derived.Test.YthfhigcenmcmaaaC
import Derived.Test.YthfhigcenmcmaaaRL
import Derived.Test.YthfhigcenmcmaaaU
namespace Go.Proofs.Ythfhigcenmcmaaa
open Go.RowKit

abbrev ActT := D_glebelaw21_Act

def WS.act (s : WS) (x : ActT) : WS :=
  if x.kind = 0 then s.stopS x.a else if x.kind = 1 then s.tellS x.a x.b else if x.kind = 2 then s.hearS x.a x.n else s

/-- Both watches, apart, in new blocks. -/
structure Two (w0 w : World) (b R : Nat) (s : WS) : Prop where
  p : IsW w b s
  r : IsR w R s
  ne : b ≠ R
  b0 : w0.heap.size ≤ b
  r0 : w0.heap.size ≤ R
  below : Below w0.heap.size w0 w

set_option maxRecDepth 100000 in
theorem fr_undrew {S : Nat → Prop} {w w' : World} (h : Fr S w.drew w') : Fr S w w' := ⟨h.os, h.tape, h.output, h.size, h.block⟩
theorem Two.below_of {w0 w w' : World} {b R : Nat} {s : WS} (h : Two w0 w b R s) (hB : Below w.heap.size w w') : Two w0 w' b R s :=
  ⟨h.p.fr (Fr.of_below hB (S := fun _ => False)) (fun h => h), h.r.fr (Fr.of_below hB (S := fun _ => False)) (fun h => h), h.ne, h.b0, h.r0, h.below.trans (hB.mono h.below.size)⟩
/-- One call on each of the two. -/
theorem Two.step {w0 w w1 w2 : World} {b R : Nat} {s s' : WS} (h : Two w0 w b R s) (h1 : IsW w1 b s') (f1 : Fr (· = b) w w1) (h2 : IsR w2 R s') (f2 : Fr (· = R) w1 w2) : Two w0 w2 b R s' :=
  ⟨h1.fr f2 h.ne, h2, h.ne, h.b0, h.r0, (h.below.trans (f1.below h.below.size (fun k hk e => by have := h.b0; omega))).trans (f2.below (Nat.le_trans h.below.size f1.size) (fun k hk e => by have := h.r0; omega))⟩
theorem block_fr {S : Nat → Prop} {w w' : World} {B : Nat} {o : Obj} (h : w.heap[B]? = some o) (hf : Fr S w w') (hS : ¬ S B) : w'.heap[B]? = some o :=
  (hf.block B (Array.getElem?_eq_some_iff.1 h).1 hS).trans h

theorem lt_of_block {w : World} {b : Nat} {o : Obj} (h : w.heap[b]? = some o) : b < w.heap.size := (Array.getElem?_eq_some_iff.1 h).1
theorem WS.due_le (s : WS) (hw : s.wf) : s.due.length ≤ 64 := by
  have h1 := WS.dueF_le s (pairsTo s.N.toNat s.N.toNat 0)
  have h2 := pairsTo_len s.N.toNat s.N.toNat 0
  have h3 : s.N.toNat * s.N.toNat ≤ 8 * 8 := Nat.mul_le_mul (by have := hw.2; omega) (by have := hw.2; omega)
  unfold WS.due; omega

set_option maxRecDepth 100000 in
set_option maxHeartbeats 400000 in
theorem plays_long (n : Int) (A : Option Addr) (len c : Nat) (w : World) (h : 100 < len) :
    Calls Try.prog 4 #[.int .i64 n, .slice A len c] w fun e w' => e = .returned (.bool true) ∧ Below w.heap.size w w' := by
  have h1 : (100 : Int) < (len : Int) := by omega
  go_enter Try.func4, Try.ntmps4
  go_wp2_with (go_at_call 6; refine (knows_true _).mono ?_; rintro e w' ⟨rfl, hB⟩)
  go_ret
  exact ⟨rfl, hB⟩

set_option maxRecDepth 100000 in
set_option maxHeartbeats 1000000 in
theorem plays_bad (n : Int) (A : Option Addr) (len c : Nat) (w : World) (h : len ≤ 100) (hn : n < 1 ∨ 8 < n) :
    Calls Try.prog 4 #[.int .i64 n, .slice A len c] w fun e w' => e = .returned (.bool true) ∧ Below w.heap.size w w' := by
  have h1 : (len : Int) ≤ 100 := by omega
  have hlen0 : 0 ≤ (len : Int) := by omega
  go_enter Try.func4, Try.ntmps4
  go_wp2_with (first
    | (go_at_call 7; refine (new_bad n _ hn).mono ?_; rintro e w' ⟨rfl, rfl⟩)
    | (go_at_call 14; refine (rnew_bad n _ hn).mono ?_; rintro e w' ⟨rfl, rfl⟩)
    | (go_at_call 8; refine (num_any _ _).mono ?_; rintro e w' ⟨rfl, rfl⟩)
    | (go_at_call 6; refine (knows_true _).mono ?_; rintro e w2 ⟨rfl, hB2⟩))
  refine wp_loop_rounds 1 ?_
  rw [rounds_succ]
  rcases Nat.eq_zero_or_pos len with rfl | h0
  · go_wp2
    go_ret
    exact ⟨rfl, hB2⟩
  · have h2 : (0 : Int) < (len : Int) := by omega
    go_wp2
    go_ret
    exact ⟨rfl, hB2⟩

set_option maxRecDepth 100000 in
set_option maxHeartbeats 2000000 in
theorem plays_ok (n : Int) (v : Value) (l : List ActT) (w : World) (hv : Rd w v l.length (actV l)) (h : l.length ≤ 100) (hn0 : 1 ≤ n) (hn1 : n ≤ 8) :
    Calls Try.prog 4 #[.int .i64 n, v] w fun e w' => e = .returned (.bool true) ∧ Below w.heap.size w w' := by
  obtain ⟨A, c, rfl⟩ := hv.slice
  have h1 : (l.length : Int) ≤ 100 := by omega
  go_enter Try.func4, Try.ntmps4
  go_wp2_with (first
    | (go_at_call 7; refine (new_ok n _ hn0 hn1).mono ?_; rintro e w1 ⟨rfl, hW1, hB1⟩)
    | (go_at_call 14; refine (rnew_ok n _ hn0 hn1).mono ?_; rintro e w2 ⟨rfl, hR2, hB2⟩)
    | (go_at_call 8; refine (num_any _ _).mono ?_; rintro e w' ⟨rfl, rfl⟩)
    | (go_at_call 6; refine (knows_true _).mono ?_; rintro e w3 ⟨rfl, hB3⟩))
  have hlt1 := hW1.lt
  have hlt2 := hR2.lt
  have HT : Two w w3 w.heap.size w1.heap.size (WS.init n) :=
    ⟨(hW1.fr (Fr.of_below hB2 (S := fun _ => False)) (fun h => h)).fr (Fr.of_below hB3 (S := fun _ => False)) (fun h => h), hR2.fr (Fr.of_below hB3 (S := fun _ => False)) (fun h => h), by omega, Nat.le_refl _, hB1.size, (hB1.trans (hB2.mono hB1.size)).trans (hB3.mono (Nat.le_trans hB1.size hB2.size))⟩
  obtain ⟨R, hR⟩ : ∃ R, R = w1.heap.size := ⟨_, rfl⟩
  rw [← hR] at HT ⊢
  clear hW1 hB1 hR2 hB2 hB3 hlt1 hlt2 hR
  go_loopw [5, 8] (fun p i wr => ∃ (b k : Nat) (s : WS), k ≤ l.length ∧ p = .pointer (some ⟨b, 0, none⟩) ∧ i = .int .i64 k ∧ Two w wr b R s) (fun _ i _ => l.length - (intOf i).toNat)
  case atStart => exact ⟨_, 0, _, Nat.zero_le _, rfl, rfl, HT⟩
  case round =>
    clear HT
    obtain ⟨b, k, s, hk, rfl, rfl, HT⟩ := hrel
    by_cases hlt : k < l.length
    · rcases hv with ⟨h0, _⟩ | ⟨g, o, c', he, hg, hc⟩
      · omega
      · cases he
        have c0 := (HT.below.cell (p := ⟨g, o + (k * 5 + 0), none⟩) hg).trans (hc _ _ (actV_at hlt (i := 0) (by omega)))
        have c1 := (HT.below.cell (p := ⟨g, o + (k * 5 + 1), none⟩) hg).trans (hc _ _ (actV_at hlt (i := 1) (by omega)))
        have c2 := (HT.below.cell (p := ⟨g, o + (k * 5 + 2), none⟩) hg).trans (hc _ _ (actV_at hlt (i := 2) (by omega)))
        have c3 := (HT.below.cell (p := ⟨g, o + (k * 5 + 3), none⟩) hg).trans (hc _ _ (actV_at hlt (i := 3) (by omega)))
        have c4 := (HT.below.cell (p := ⟨g, o + (k * 5 + 4), none⟩) hg).trans (hc _ _ (actV_at hlt (i := 4) (by omega)))
        simp only [Nat.add_zero] at c0 c1 c2 c3 c4
        rw [← Nat.add_assoc] at c1 c2 c3 c4
        have hi0 : (k : Int) < (l.length : Int) := by omega
        generalize l[k] = x at *
        have hbl := HT.p.lt
        have hRl := HT.r.lt
        clear hc
        go_upto_block 2 with (fail)
        have hBa : Below wr.heap.size wr (wr.alloc (.cells #[.int .i64 x.kind, .int .i64 x.a, .int .i64 x.b, .int .i64 x.n, .int .i64 x.most] 30)) := (Below.refl _ _).alloc (Nat.le_refl _) _
        have HTa := HT.below_of hBa
        have HB9 := alloc_new wr (.cells #[.int .i64 x.kind, .int .i64 x.a, .int .i64 x.b, .int .i64 x.n, .int .i64 x.most] 30)
        have e1 := cell_of_block HB9 1
        have e2 := cell_of_block HB9 2
        have e3 := cell_of_block HB9 3
        simp only [List.getElem?_toArray, List.getElem?_cons_succ, List.getElem?_cons_zero] at e1 e2 e3
        have hBl := (Array.getElem?_eq_some_iff.1 HB9).1
        have hnb : ¬ (wr.heap.size = b) := by omega
        have hnR : ¬ (wr.heap.size = R) := by omega
        have hRb : ¬ (R = b) := fun h => HT.ne h.symm
        go_cut [5] (fun s5 wx => ∃ (b2 : Nat) (s2 : WS), s5 = .pointer (some ⟨b2, 0, none⟩) ∧ Two w wx b2 R s2 ∧ wx.heap[wr.heap.size]? = some (.cells #[.int .i64 x.kind, .int .i64 x.a, .int .i64 x.b, .int .i64 x.n, .int .i64 x.most] 30 (0, 0)) ∧ ¬ (wr.heap.size = b2))
        case first =>
          by_cases hx0 : x.kind = 0
          · have x0 : (x.kind == 0) = true := beq_iff_eq.2 hx0
            clear hx0
            go_wp2_with fail
            go_region_held3 (fun w' => w'.cell? ⟨wr.heap.size, 1, none⟩ = some (.int .i64 x.a)) (first | go_keep)
            (first
              | (go_at_call 8; refine (num_any _ _).mono ?_; rintro e w' ⟨rfl, rfl⟩)
              | (go_at_call 9; refine (stop_any b s x.a _ (by exact ⟨HTa.p.wf, HTa.p.at_⟩)).mono ?_; rintro e w5 ⟨rfl, hW5, hF5⟩; have j1 := (hF5.cell (p := ⟨wr.heap.size, 1, none⟩) hBl hnb).trans e1)
              | (go_at_call 15; refine (rstop_any R s x.a _ (by exact HTa.r.fr (S := (· = b)) (fr_undrew hF5) hRb)).mono ?_; rintro e w6 ⟨rfl, hR6, hF6⟩; have q1 := (hF6.cell (p := ⟨wr.heap.size, 1, none⟩) (Nat.lt_of_lt_of_le hBl hF5.size) hnR).trans j1))
            have hT6 := HTa.step hW5 (fr_undrew hF5) hR6 hF6
            have hB6 := block_fr (S := (· = R)) (block_fr (S := (· = b)) HB9 (fr_undrew hF5) hnb) hF6 hnR
            go_wp2_with fail
            go_meet
            exact ⟨_, _, rfl, hT6, hB6, hnb⟩
          · have x0 : (x.kind == 0) = false := beq_eq_false_iff_ne.2 hx0
            clear hx0
            by_cases hx1 : x.kind = 1
            · have x1 : (x.kind == 1) = true := beq_iff_eq.2 hx1
              clear hx1
              go_wp2_with fail
              go_region_held3 (fun w' => w'.cell? ⟨wr.heap.size, 1, none⟩ = some (.int .i64 x.a) ∧ w'.cell? ⟨wr.heap.size, 2, none⟩ = some (.int .i64 x.b)) (first | go_keep)
              (first
                | (go_at_call 8; refine (num_any _ _).mono ?_; rintro e w' ⟨rfl, rfl⟩)
                | (go_at_call 10; refine (tell_any b s x.a x.b _ (by exact ⟨HTa.p.wf, HTa.p.at_⟩)).mono ?_; rintro e w5 ⟨rfl, hW5, hF5⟩; have j1 := (hF5.cell (p := ⟨wr.heap.size, 1, none⟩) hBl hnb).trans e1; have j2 := (hF5.cell (p := ⟨wr.heap.size, 2, none⟩) hBl hnb).trans e2)
                | (go_at_call 16; refine (rtell_any R s x.a x.b _ (by exact HTa.r.fr (S := (· = b)) (fr_undrew hF5) hRb)).mono ?_; rintro e w6 ⟨rfl, hR6, hF6⟩; have q1 := (hF6.cell (p := ⟨wr.heap.size, 1, none⟩) (Nat.lt_of_lt_of_le hBl hF5.size) hnR).trans j1; have q2 := (hF6.cell (p := ⟨wr.heap.size, 2, none⟩) (Nat.lt_of_lt_of_le hBl hF5.size) hnR).trans j2))
              have hT6 := HTa.step hW5 (fr_undrew hF5) hR6 hF6
              have hB6 := block_fr (S := (· = R)) (block_fr (S := (· = b)) HB9 (fr_undrew hF5) hnb) hF6 hnR
              go_wp2_with fail
              go_meet
              exact ⟨_, _, rfl, hT6, hB6, hnb⟩
            · have x1 : (x.kind == 1) = false := beq_eq_false_iff_ne.2 hx1
              clear hx1
              by_cases hx2 : x.kind = 2
              · have x2 : (x.kind == 2) = true := beq_iff_eq.2 hx2
                clear hx2
                go_wp2_with fail
                go_region_held3 (fun w' => w'.cell? ⟨wr.heap.size, 1, none⟩ = some (.int .i64 x.a) ∧ w'.cell? ⟨wr.heap.size, 3, none⟩ = some (.int .i64 x.n)) (first | go_keep)
              (first
                | (go_at_call 8; refine (num_any _ _).mono ?_; rintro e w' ⟨rfl, rfl⟩)
                | (go_at_call 17; refine (heard_any b s x.a x.n _ (by exact ⟨HTa.p.wf, HTa.p.at_⟩)).mono ?_; rintro e w5 ⟨rfl, hW5, hF5⟩; have j1 := (hF5.cell (p := ⟨wr.heap.size, 1, none⟩) hBl hnb).trans e1; have j3 := (hF5.cell (p := ⟨wr.heap.size, 3, none⟩) hBl hnb).trans e3)
                | (go_at_call 18; refine (rheard_any R s x.a x.n _ (by exact HTa.r.fr (S := (· = b)) (fr_undrew hF5) hRb)).mono ?_; rintro e w6 ⟨rfl, hR6, hF6⟩; have q1 := (hF6.cell (p := ⟨wr.heap.size, 1, none⟩) (Nat.lt_of_lt_of_le hBl hF5.size) hnR).trans j1; have q3 := (hF6.cell (p := ⟨wr.heap.size, 3, none⟩) (Nat.lt_of_lt_of_le hBl hF5.size) hnR).trans j3))
                have hT6 := HTa.step hW5 (fr_undrew hF5) hR6 hF6
                have hB6 := block_fr (S := (· = R)) (block_fr (S := (· = b)) HB9 (fr_undrew hF5) hnb) hF6 hnR
                go_wp2_with fail
                go_meet
                exact ⟨_, _, rfl, hT6, hB6, hnb⟩
              · have x2 : (x.kind == 2) = false := beq_eq_false_iff_ne.2 hx2
                clear hx2
                by_cases hx3 : x.kind = 3
                · have x3 : (x.kind == 3) = true := beq_iff_eq.2 hx3
                  clear hx3
                  go_wp2_with fail
                  refine (clone_any b s _ HTa.p).mono ?_
                  rintro e w5 ⟨rfl, hW5, hB5⟩
                  have hT5 := HTa.below_of hB5
                  have hH5 := block_fr (S := fun _ => False) HB9 (Fr.of_below hB5) (fun h => h)
                  have hl5 := hW5.lt
                  simp only [World.size_alloc] at hW5 hl5
                  go_wp2_with fail
                  refine (stop_any b s 0 _ hT5.p).mono ?_
                  rintro e w6 ⟨rfl, hW6, hF6⟩
                  have j1 := (hF6.cell (p := ⟨wr.heap.size, 1, none⟩) (show wr.heap.size < w5.heap.size by omega) hnb).trans ((cell_of_block hH5 1).trans rfl)
                  have hH6 := block_fr hH5 hF6 hnb
                  have hC6 := hW5.fr hF6 (by omega)
                  have hR6 := hT5.r.fr hF6 hRb
                  have hl6 := hF6.size
                  go_wp2_with fail
                  refine (heard_any b _ x.a 1125899906842624 _ hW6).mono ?_
                  rintro e w7 ⟨rfl, hW7, hF7⟩
                  have hH7 := block_fr hH6 hF7 hnb
                  have hC7 := hC6.fr hF7 (by omega)
                  have hR7 := hR6.fr hF7 hRb
                  have hB7 := (hT5.below.trans (hF6.below hT5.below.size (fun k hk e => by have := HT.b0; omega))).trans (hF7.below (Nat.le_trans hT5.below.size hF6.size) (fun k hk e => by have := HT.b0; omega))
                  go_wp2_with fail
                  go_meet
                  exact ⟨_, s, rfl, ⟨hC7, hR7, by omega, by have := HT.below.size; omega, HT.r0, hB7⟩, hH7, by omega⟩
                · have x3 : (x.kind == 3) = false := beq_eq_false_iff_ne.2 hx3
                  clear hx3
                  go_wp2_with fail
                  go_meet
                  exact ⟨b, s, rfl, HTa, HB9, hnb⟩
        case rest =>
          obtain ⟨b2, s2, rfl, HT2, HB2, hn2⟩ := hcut
          clear e1 e2 e3 HTa HB9 hnb c0 c1 c2 c3 c4 hBa HT hRb hBl hbl hRl hnR
          generalize wr.heap.size = B9 at *
          go_wp2_with fail
          refine (running_any b2 s2 _ HT2.p).mono ?_
          rintro e w5 ⟨v5, rfl, hown5, hB5⟩
          have HT5 := HT2.below_of hB5
          have HB5 := block_fr (S := fun _ => False) HB2 (Fr.of_below hB5) (fun h => h)
          obtain ⟨A5, c5, rfl, _⟩ := own_slice hown5
          go_wp2_with fail
          refine (rrunning_any R s2 _ HT5.r).mono ?_
          rintro e w6 ⟨v6, rfl, hown6, hB6⟩
          have HT6 := HT5.below_of hB6
          have HB6 := block_fr (S := fun _ => False) HB5 (Fr.of_below hB6) (fun h => h)
          have hown56 := own_fr (S := fun _ => False) hown5 (Fr.of_below hB6) (fun _ _ h => h)
          obtain ⟨A6, c6, rfl, _⟩ := own_slice hown6
          have hL := WS.runL_le s2 8
          clear hown5 HB5 HT5 hB5 hB6 HB2 HT2
          generalize hrl : s2.runL 8 = rl at *
          clear hrl
          go_wp2
          go_loopw [13] (fun i wx => ∃ m : Nat, m ≤ rl.length ∧ i = .int .i64 m ∧ Below w6.heap.size w6 wx) (fun i _ => rl.length - (intOf i).toNat)
          case atStart => exact ⟨0, Nat.zero_le _, rfl, Below.refl _ _⟩
          case round =>
            obtain ⟨m, hm, rfl, hB7⟩ := hrel
            by_cases hltm : m < rl.length
            · have hi1 : (m : Int) < (rl.length : Int) := by omega
              have hg5 := own_lt hown56
              have hg6 := own_lt hown6
              obtain ⟨g5, d5, he5, _, _, hc5⟩ := own_succ hown56 (by omega)
              obtain ⟨g6, d6, he6, _, _, hc6⟩ := own_succ hown6 (by omega)
              cases he5
              cases he6
              have hat : (intV rl)[m]? = some (.int .i64 (rl[m] : Int)) := by simp [intV, hltm]
              have j5 := (hB7.cell (p := ⟨g5, m, none⟩) (hg5 _ rfl)).trans (hc5 m _ hat)
              have j6 := (hB7.cell (p := ⟨g6, m, none⟩) (hg6 _ rfl)).trans (hc6 m _ hat)
              generalize rl[m] = rm at *
              clear hc5 hc6 hat
              go_wp2
              go_quiet (fail)
              go_wp2
              go_roundw
              case rel => exact ⟨m + 1, by omega, by go_num, below_drewN hB7 _⟩
              case measure => simp [intOf]; omega
            · obtain rfl : m = rl.length := by omega
              have HT7 := HT6.below_of hB7
              have HB7 := block_fr (S := fun _ => False) HB6 (Fr.of_below hB7) (fun h => h)
              clear hown56 hown6 HT6 HB6 hB7
              go_upto_region 33 with (fail)
              have q1 := (cell_of_block HB7 1).trans (show _ = some (Value.int .i64 x.a) from rfl)
              have q2 := (cell_of_block HB7 2).trans (show _ = some (Value.int .i64 x.b) from rfl)
              have q3 := (cell_of_block HB7 3).trans (show _ = some (Value.int .i64 x.n) from rfl)
              have q4 := (cell_of_block HB7 4).trans (show _ = some (Value.int .i64 x.most) from rfl)
              have hdl : s2.due.length ≤ 9223372036854775807 := by have := s2.due_le HT7.p.wf; omega
              go_region_held3 (fun w' => w'.cell? ⟨B9, 1, none⟩ = some (.int .i64 x.a) ∧ w'.cell? ⟨B9, 2, none⟩ = some (.int .i64 x.b) ∧ w'.cell? ⟨B9, 3, none⟩ = some (.int .i64 x.n) ∧ w'.cell? ⟨B9, 4, none⟩ = some (.int .i64 x.most)) (first | go_keep)
                (first
                  | (go_at_call 12; refine (runs_any b2 s2 _ _ (by exact ⟨HT7.p.wf, HT7.p.at_⟩)).mono ?_; rintro e w8 ⟨rfl, rfl⟩)
                  | (go_at_call 22; refine (rruns_any R s2 _ _ (by exact ⟨HT7.r.wf, HT7.r.at_⟩)).mono ?_; rintro e w8 ⟨rfl, rfl⟩)
                  | (go_at_call 11; refine (knows_any b2 s2 _ _ _ (by exact ⟨HT7.p.wf, HT7.p.at_⟩)).mono ?_; rintro e w8 ⟨rfl, rfl⟩)
                  | (go_at_call 23; refine (rknows_any R s2 _ _ _ (by exact ⟨HT7.r.wf, HT7.r.at_⟩)).mono ?_; rintro e w8 ⟨rfl, rfl⟩)
                  | (go_at_call 24; refine (quiet_any b2 s2 _ _ _ _ (by exact ⟨HT7.p.wf, HT7.p.at_⟩)).mono ?_; rintro e w8 ⟨rfl, rfl⟩)
                  | (go_at_call 25; refine (rquiet_any R s2 _ _ _ _ (by exact ⟨HT7.r.wf, HT7.r.at_⟩)).mono ?_; rintro e w8 ⟨rfl, rfl⟩)
                  | (go_at_call 13; refine (due_any b2 s2 _ (by exact ⟨HT7.p.wf, HT7.p.at_⟩)).mono ?_; rintro e w8 ⟨v8, rfl, hown8, hB8⟩; have j1 := (hB8.cell (p := ⟨B9, 1, none⟩) (lt_of_block HB7)).trans q1; have j2 := (hB8.cell (p := ⟨B9, 2, none⟩) (lt_of_block HB7)).trans q2; have j3 := (hB8.cell (p := ⟨B9, 3, none⟩) (lt_of_block HB7)).trans q3; have j4 := (hB8.cell (p := ⟨B9, 4, none⟩) (lt_of_block HB7)).trans q4)
                  | (go_at_call 27; refine (rdue_any R s2 _ (by exact HT7.r.fr (S := fun _ => False) (fr_undrew (Fr.of_below hB8)) (fun h => h))).mono ?_; rintro e w9 ⟨v9, rfl, hown9, hB9⟩; have l1 := (hB9.cell (p := ⟨B9, 1, none⟩) (Nat.lt_of_lt_of_le (lt_of_block HB7) hB8.size)).trans j1; have l2 := (hB9.cell (p := ⟨B9, 2, none⟩) (Nat.lt_of_lt_of_le (lt_of_block HB7) hB8.size)).trans j2; have l3 := (hB9.cell (p := ⟨B9, 3, none⟩) (Nat.lt_of_lt_of_le (lt_of_block HB7) hB8.size)).trans j3; have l4 := (hB9.cell (p := ⟨B9, 4, none⟩) (Nat.lt_of_lt_of_le (lt_of_block HB7) hB8.size)).trans j4)
                  | (go_at_call 26; refine (same_any v8 v9 s2.due s2.due _ (by exact (Rd.of_own hown8).below hB9) (by exact Rd.of_own hown9) hdl).mono ?_; rintro e w10 ⟨rfl, hB10⟩; have o1 := (hB10.cell (p := ⟨B9, 1, none⟩) (Nat.lt_of_lt_of_le (Nat.lt_of_lt_of_le (lt_of_block HB7) hB8.size) hB9.size)).trans l1; have o2 := (hB10.cell (p := ⟨B9, 2, none⟩) (Nat.lt_of_lt_of_le (Nat.lt_of_lt_of_le (lt_of_block HB7) hB8.size) hB9.size)).trans l2; have o3 := (hB10.cell (p := ⟨B9, 3, none⟩) (Nat.lt_of_lt_of_le (Nat.lt_of_lt_of_le (lt_of_block HB7) hB8.size) hB9.size)).trans l3; have o4 := (hB10.cell (p := ⟨B9, 4, none⟩) (Nat.lt_of_lt_of_le (Nat.lt_of_lt_of_le (lt_of_block HB7) hB8.size) hB9.size)).trans l4))
              have hB11 : Below w.heap.size w w10 := HT7.below.trans (((⟨hB8.os, hB8.tape, hB8.output, hB8.size, hB8.block⟩ : Below wr.heap.size wr w8).trans (hB9.mono hB8.size)).trans (hB10.mono (Nat.le_trans hB8.size hB9.size)) |>.mono HT7.below.size)
              have HT11 : Two w w10 b2 R s2 := HT7.below_of ((⟨hB8.os, hB8.tape, hB8.output, hB8.size, hB8.block⟩ : Below wr.heap.size wr w8).trans (hB9.mono hB8.size) |>.trans (hB10.mono (Nat.le_trans hB8.size hB9.size)))
              clear hB11 hB8 hB9 hB10 hown8 hown9 HT7 HB7 q1 q2 q3 q4 j1 j2 j3 j4 l1 l2 l3 l4 o1 o2 o3 o4
              go_wp2
              go_roundw
              case rel => exact ⟨b2, k + 1, s2, by omega, rfl, by go_num, HT11⟩
              case measure => simp [intOf]; omega
    · clear hv
      go_wp2
      go_ret
      exact ⟨rfl, HT.below⟩

/-- The whole law. -/
theorem plays_walk (w : World) (n : Int) (_hn : (Lit.int .i64 n).wf = true) (v : Value) (l : List ActT) (hv : RdK D_glebelaw21_Act.k w v l) :
    Calls Try.prog 4 #[.int .i64 n, v] w fun e w' => e = .returned (.bool true) ∧ Below w.heap.size w w' := by
  by_cases h : l.length ≤ 100
  · by_cases hn : n < 1 ∨ 8 < n
    · obtain ⟨A, c, rfl⟩ := hv.slice
      exact plays_bad n A _ c w h hn
    · exact plays_ok n v l w (hv.flat D_glebelaw21_Act.enc (fun _ _ h => D_glebelaw21_Act.flat h) (fun _ => rfl) (by decide)) h (by omega) (by omega)
  · obtain ⟨A, c, rfl⟩ := hv.slice
    exact plays_long n A _ c w (by omega)
end Go.Proofs.Ythfhigcenmcmaaa
