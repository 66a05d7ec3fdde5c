/- The walk through LinearTold: what Order tells fits. -/
import Derived.Deep.DeepCutAuto
import Derived.Deep.CutBlock
import Derived.Deep.RegionHeld3
import Derived.Deep.RegionLaw
import Derived.StillTailTactics
import Derived.Test.YtbengfmoimlnbaaBT
namespace Go.Proofs.Ytbengfmoimlnbaa
open Go.RowKit

set_option maxRecDepth 100000 in
set_option maxHeartbeats 20000000 in
theorem told_any (A : Option Addr) (c : Nat) (l : List It) (w : World) (hv : Rd w (.slice A l.length c) l.length (itsV l)) :
    Calls Try.prog 7 #[.slice A l.length c] w fun e w' => e = .returned (.bool true) ∧ Below w.heap.size w w' := by
  go_enter Try.func7, Try.ntmps7
  go_wp2_with (fail)
  refine (light_any A c l 14 _ hv).mono ?_
  rintro e w1 ⟨⟨light, rfl, hl14⟩, hb1⟩
  cases light
  · go_wp2_with (go_at_call 9; refine (knows_any _).mono ?_; rintro e w2 ⟨rfl, hbk⟩)
    go_ret
    exact ⟨rfl, hb1.trans (hbk.mono hb1.size)⟩
  · have hl : l.length ≤ 14 := by have := hl14 rfl; omega
    clear hl14
    have hv1 := hv.below hb1
    clear hv
    go_wp2_with (fail)
    refine (own_any A c l _ hv1 (by omega)).mono ?_
    rintro e w2 ⟨v3, rfl, hown3, hb2⟩
    have hx := Rd.of_own hown3
    obtain ⟨A3, c3, rfl, _⟩ := own_slice hown3
    have hB2 := hb1.trans (hb2.mono hb1.size)
    clear hown3 hv1 hb1 hb2
    go_wp2_with (fail)
    refine (order_any A3 c3 l _ hx (by omega)).mono ?_
    rintro e wm ⟨v4, rfl, hown4, hb3⟩
    replace hx := hx.below hb3
    have hBm := hB2.trans (hb3.mono hB2.size)
    clear hB2 hb3
    cases hS : S l 0 St.zero with
    | none =>
      have hE : ordE l = 3 := by unfold ordE; rw [hS]; rfl
      have hR : ordR l = [] := by unfold ordR; rw [hS]; rfl
      rw [hR] at hown4
      rw [hE]
      obtain ⟨A4, c4, rfl, _⟩ := own_slice hown4
      clear hS hown4 hE hR hx
      go_wp2_with (first
        | (go_at_call 14; refine (num_any _ _).mono ?_; rintro e w1 ⟨rfl, rfl⟩)
        | (go_at_call 9; refine (knows_any _).mono ?_; rintro e w3 ⟨rfl, hbk⟩))
      go_ret
      exact ⟨rfl, hBm.trans (hbk.mono hBm.size)⟩
    | some q =>
      have hE : ordE l = 0 := by unfold ordE; rw [hS]; rfl
      have hR : ordR l = q := by unfold ordR; rw [hS]; rfl
      have hway := S_sound l _ _ _ _ rfl hS
      have hql : q.length ≤ 14 := by have := S_length l _ _ _ _ rfl hS; omega
      rw [hR] at hown4
      rw [hE]
      have hq := Rd.of_own hown4
      obtain ⟨A4, c4, rfl, _⟩ := own_slice hown4
      have hmk := make_bits l.length (by omega)
      clear hS hown4 hE hR
      replace hway := Lib.hid hway
      replace hx := Lib.hid hx
      replace hq := Lib.hid hq
      replace hBm := Lib.hid hBm
      go_wp2_with (go_at_call 14; refine (num_any _ _).mono ?_; rintro e w1 ⟨rfl, rfl⟩)
      go_loopw [8] (fun i wr => ∃ p m s, p ≤ q.length ∧ i = .int .i64 (p : Nat) ∧ TS w wm l.length m s wr ∧ Way l m s (q.drop p))
        (fun i _ => q.length - (intOf i).toNat)
      case atStart =>
        refine ⟨0, 0, St.zero, Nat.zero_le _, rfl, ⟨hBm.out, ((Below.refl _ wm).alloc (Nat.le_refl _) _).alloc (by simp) _, block_alloc (alloc_new wm _) _, ?_⟩, hway.out⟩
        have := alloc_new (wm.alloc (.cells (bitsA l.length 0) 4)) (.cells (stC St.zero) 44)
        simp only [World.size_alloc] at this
        exact this
      case round =>
        obtain ⟨p, m, s, hp, rfl, hT, hw⟩ := hrel
        by_cases hlt : p < q.length
        · rw [List.drop_eq_getElem_cons hlt] at hw
          obtain ⟨hk, hmk0, hord, hfit, hnext⟩ := way_cons hw
          obtain ⟨k, hkq⟩ : ∃ k, k = q[p] := ⟨_, rfl⟩
          rw [← hkq] at hk hmk0 hord hfit hnext
          rcases hx.out with ⟨h0, _⟩ | ⟨gx, ox, cx, hex, hgx, hcx⟩
          · omega
          rcases hq.out with ⟨h0, _⟩ | ⟨gq, oq, cq, heq, hgq, hcq⟩
          · omega
          cases hex
          cases heq
          have hi0 : (p : Int) < (q.length : Int) := by omega
          have hi1 : (k : Int) < (l.length : Int) := by omega
          have hneg : decide ((k : Int) < 0) = false := decide_eq_false (by omega)
          have hge : decide (l.length ≤ k) = false := decide_eq_false (by omega)
          have q0 := (hT.below.cell (p := ⟨gq, oq + p, none⟩) hgq).trans (hcq _ _ (natV_at hlt))
          rw [← hkq] at q0
          have q9 := Lib.hid ((hcq _ _ (natV_at hlt)).trans (congrArg (fun x : Nat => some (Value.int .i64 (x : Int))) hkq.symm))
          have s0 := (cell_of_block hT.seen k).trans (bitsA_at hk)
          rw [hmk0] at s0
          have HT := Lib.hid hT
          replace hord := Lib.hid hord
          replace hnext := Lib.hid hnext
          replace hfit := Lib.hid hfit
          replace hcx := Lib.hid hcx
          replace hmk0 := Lib.hid hmk0
          replace hkq := Lib.hid hkq
          clear hT hcq hw
          go_wp2
          go_loopw [9] (fun i wj => ∃ j : Nat, j ≤ l.length ∧ i = .int .i64 j ∧ TS w wm l.length m s wj)
            (fun i _ => l.length - (intOf i).toNat)
          case atStart => exact ⟨0, Nat.zero_le _, rfl, HT.out⟩
          case round =>
            clear q0 s0 HT
            obtain ⟨j, hj, rfl, hTj⟩ := hrel
            have q1 := (hTj.below.cell (p := ⟨gq, oq + p, none⟩) hgq).trans q9.out
            by_cases hj2 : j < l.length
            · have hi2 : (j : Int) < (l.length : Int) := by omega
              have sj := (cell_of_block hTj.seen j).trans (bitsA_at hj2)
              cases hmj : m.testBit j
              · rw [hmj] at sj
                by_cases hjk : j = k
                · subst hjk
                  have HTj := Lib.hid hTj
                  clear hTj
                  go_wp2
                  go_quiet (fail)
                  go_wp2
                  go_roundw
                  case rel => exact ⟨j + 1, by omega, rfl, HTj.out.of_below (below_drewN (Below.refl _ _) _)⟩
                  case measure => simp [intOf]; omega
                · have hah := hord.out j hj2 hmj hjk
                  rw [itm_eq hj2, itm_eq hk] at hah
                  have hne : ((j : Int) == (k : Int)) = false := beq_eq_false_iff_ne.2 (by omega)
                  have hne' : ((j : Int) != (k : Int)) = true := bne_iff_ne.2 (by omega)
                  have x0 := (hTj.below.cell (p := ⟨gx, ox + (j * 9 + 0), none⟩) hgx).trans (hcx.out _ _ (itsV_at hj2 (i := 0) (by omega)))
                  have x1 := (hTj.below.cell (p := ⟨gx, ox + (j * 9 + 1), none⟩) hgx).trans (hcx.out _ _ (itsV_at hj2 (i := 1) (by omega)))
                  have x2 := (hTj.below.cell (p := ⟨gx, ox + (j * 9 + 2), none⟩) hgx).trans (hcx.out _ _ (itsV_at hj2 (i := 2) (by omega)))
                  have x3 := (hTj.below.cell (p := ⟨gx, ox + (j * 9 + 3), none⟩) hgx).trans (hcx.out _ _ (itsV_at hj2 (i := 3) (by omega)))
                  have x4 := (hTj.below.cell (p := ⟨gx, ox + (j * 9 + 4), none⟩) hgx).trans (hcx.out _ _ (itsV_at hj2 (i := 4) (by omega)))
                  have x5 := (hTj.below.cell (p := ⟨gx, ox + (j * 9 + 5), none⟩) hgx).trans (hcx.out _ _ (itsV_at hj2 (i := 5) (by omega)))
                  have x6 := (hTj.below.cell (p := ⟨gx, ox + (j * 9 + 6), none⟩) hgx).trans (hcx.out _ _ (itsV_at hj2 (i := 6) (by omega)))
                  have x7 := (hTj.below.cell (p := ⟨gx, ox + (j * 9 + 7), none⟩) hgx).trans (hcx.out _ _ (itsV_at hj2 (i := 7) (by omega)))
                  have x8 := (hTj.below.cell (p := ⟨gx, ox + (j * 9 + 8), none⟩) hgx).trans (hcx.out _ _ (itsV_at hj2 (i := 8) (by omega)))
                  simp only [Nat.add_zero] at x0
                  rw [← Nat.add_assoc] at x1 x2 x3 x4 x5 x6 x7 x8
                  have y0 := (hTj.below.cell (p := ⟨gx, ox + (k * 9 + 0), none⟩) hgx).trans (hcx.out _ _ (itsV_at hk (i := 0) (by omega)))
                  have y1 := (hTj.below.cell (p := ⟨gx, ox + (k * 9 + 1), none⟩) hgx).trans (hcx.out _ _ (itsV_at hk (i := 1) (by omega)))
                  have y2 := (hTj.below.cell (p := ⟨gx, ox + (k * 9 + 2), none⟩) hgx).trans (hcx.out _ _ (itsV_at hk (i := 2) (by omega)))
                  have y3 := (hTj.below.cell (p := ⟨gx, ox + (k * 9 + 3), none⟩) hgx).trans (hcx.out _ _ (itsV_at hk (i := 3) (by omega)))
                  have y4 := (hTj.below.cell (p := ⟨gx, ox + (k * 9 + 4), none⟩) hgx).trans (hcx.out _ _ (itsV_at hk (i := 4) (by omega)))
                  have y5 := (hTj.below.cell (p := ⟨gx, ox + (k * 9 + 5), none⟩) hgx).trans (hcx.out _ _ (itsV_at hk (i := 5) (by omega)))
                  have y6 := (hTj.below.cell (p := ⟨gx, ox + (k * 9 + 6), none⟩) hgx).trans (hcx.out _ _ (itsV_at hk (i := 6) (by omega)))
                  have y7 := (hTj.below.cell (p := ⟨gx, ox + (k * 9 + 7), none⟩) hgx).trans (hcx.out _ _ (itsV_at hk (i := 7) (by omega)))
                  have y8 := (hTj.below.cell (p := ⟨gx, ox + (k * 9 + 8), none⟩) hgx).trans (hcx.out _ _ (itsV_at hk (i := 8) (by omega)))
                  simp only [Nat.add_zero] at y0
                  rw [← Nat.add_assoc] at y1 y2 y3 y4 y5 y6 y7 y8
                  have HTj := Lib.hid hTj
                  replace hah := Lib.hid hah
                  clear hTj
                  go_wp2
                  go_still_tail 25, (by kernel_rfl)
                  change wpList _ _ _ _ _ wr.drew
                  go_wp2_with (go_at_call 18; refine (ahead_any l[j] l[k] _).mono ?_; rw [hah.out]; rintro e w' ⟨rfl, hbw⟩)
                  go_roundw
                  case rel => exact ⟨j + 1, by omega, rfl, (HTj.out.of_below (Below.refl _ _).drew).of_below hbw⟩
                  case measure => simp [intOf]; omega
              · rw [hmj] at sj
                have HTj := Lib.hid hTj
                clear hTj
                go_wp2
                go_quiet (fail)
                go_wp2
                go_roundw
                case rel => exact ⟨j + 1, by omega, rfl, HTj.out.of_below (below_drewN (Below.refl _ _) _)⟩
                case measure => simp [intOf]; omega
            · have HTj := Lib.hid hTj
              have f1 := free_of_block hTj.seen k
              have s1 := (cell_of_block hTj.seen k).trans (bitsA_at hk)
              clear hTj
              go_wp2
              have T2 := HTj.out.set k
              generalize wr.setCell ⟨wm.heap.size, k, none⟩ (.bool true) = W2 at T2 ⊢
              clear f1 s1 q1
              have q2 := (T2.below.cell (p := ⟨gq, oq + p, none⟩) hgq).trans q9.out
              have t0 : W2.cell? ⟨wm.heap.size + 1, 0, none⟩ = some (.int .i64 s.ver) := cell_of_block T2.st 0
              have t1 : W2.cell? ⟨wm.heap.size + 1, 1, none⟩ = some (.string s.val) := cell_of_block T2.st 1
              have z0 := (T2.below.cell (p := ⟨gx, ox + (k * 9 + 0), none⟩) hgx).trans (hcx.out _ _ (itsV_at hk (i := 0) (by omega)))
              have z4 := (T2.below.cell (p := ⟨gx, ox + (k * 9 + 4), none⟩) hgx).trans (hcx.out _ _ (itsV_at hk (i := 4) (by omega)))
              simp only [Nat.add_zero] at z0
              rw [← Nat.add_assoc] at z4
              have HT2 := Lib.hid T2
              clear T2
              obtain ⟨da, hda⟩ : ∃ da, da = doesA s l[k].kind := ⟨_, rfl⟩
              obtain ⟨s', hs'⟩ : ∃ s', s' = doesS s l[k].kind l[k].value := ⟨_, rfl⟩
              replace hda := Lib.hid hda
              replace hs' := Lib.hid hs'
              have hS0 : Below W2.heap.size W2 W2 ∧ W2.cell? ⟨wm.heap.size + 1, 0, none⟩ = some (.int .i64 s.ver) ∧ W2.cell? ⟨wm.heap.size + 1, 1, none⟩ = some (.string s.val) ∧ W2.cell? ⟨gq, oq + p, none⟩ = some (.int .i64 (k : Int)) ∧ W2.cell? ⟨gx, ox + k * 9, none⟩ = some (.int .i64 l[k].kind) ∧ W2.cell? ⟨gx, ox + k * 9 + 4, none⟩ = some (.string l[k].value) := ⟨Below.refl _ _, t0, t1, q2, z0, z4⟩
              have hpb : wm.heap.size + 1 < W2.heap.size ∧ wm.heap.size + 1 < W2.heap.size ∧ gq < W2.heap.size ∧ gx < W2.heap.size ∧ gx < W2.heap.size := by
                have := lt_of_block HT2.out.st
                omega
              clear t0 t1 q2 z0 z4
              go_cut [10, 11] (fun va vb wx => ∃ ba bb, va = .pointer (some ⟨ba, 0, none⟩) ∧ vb = .pointer (some ⟨bb, 0, none⟩) ∧ W2.heap.size ≤ ba ∧ Below W2.heap.size W2 wx ∧ wx.heap[ba]? = some (.cells (anC da) 42 (0, 0)) ∧ wx.heap[bb]? = some (.cells (stC s') 44 (0, 0)))
              case first =>
                go_region_held3 (fun W => Below W2.heap.size W2 W ∧ W.cell? ⟨wm.heap.size + 1, 0, none⟩ = some (.int .i64 s.ver) ∧ W.cell? ⟨wm.heap.size + 1, 1, none⟩ = some (.string s.val) ∧ W.cell? ⟨gq, oq + p, none⟩ = some (.int .i64 (k : Int)) ∧ W.cell? ⟨gx, ox + k * 9, none⟩ = some (.int .i64 l[k].kind) ∧ W.cell? ⟨gx, ox + k * 9 + 4, none⟩ = some (.string l[k].value))
                  (first | exact keep6 (w := w5) hpb (by repeat (first | (with_reducible exact Below.refl _ _) | (focus ((with_reducible refine Below.setCell ?_ ?_ _); rotate_left; (first | omega | (simp; omega) | simp))) | (focus ((with_reducible refine Below.alloc ?_ ?_ _); rotate_left; (first | omega | (simp; omega) | simp))) | (with_reducible refine Below.drew ?_))) hS5 | exact keep6 (w := W2) hpb (by repeat (first | (with_reducible exact Below.refl _ _) | (focus ((with_reducible refine Below.setCell ?_ ?_ _); rotate_left; (first | omega | (simp; omega) | simp))) | (focus ((with_reducible refine Below.alloc ?_ ?_ _); rotate_left; (first | omega | (simp; omega) | simp))) | (with_reducible refine Below.drew ?_))) hS0)
                  (first
                    | (go_at_call 15; refine (does_any s l[k].kind l[k].value _).mono ?_; rw [← hda.out, ← hs'.out]; rintro e w5 ⟨rfl, hb5⟩; simp only [anC, stC]; have hs5 := hb5.size; simp at hs5; have hbW : Below W2.heap.size W2 w5 := (by (refine Below.trans ?_ (hb5.mono ?_)); (repeat (first | refine Below.alloc ?_ (by first | omega | (simp; omega) | simp) _ | exact Below.refl _ _ | exact (Below.refl _ _).drew | refine Below.drew ?_)); (first | omega | (simp; omega) | simp)); have hS5 := keep6 (w := W2) hpb hbW hS0; (first | (have n0 : w5.heap[W2.heap.size]? = some (.cells #[.int .i64 0, .bool false, .string ⟨#[]⟩, .int .i64 0] 42 (0, 0)) := (by have h := block_kept (w := (W2.drew.alloc (.cells #[.int .i64 0, .bool false, .string ⟨#[]⟩, .int .i64 0] 42)).alloc (.cells #[.int .i64 0, .string ⟨#[]⟩] 44)) (block_alloc (alloc_new W2.drew (.cells #[.int .i64 0, .bool false, .string ⟨#[]⟩, .int .i64 0] 42)) (.cells #[.int .i64 0, .string ⟨#[]⟩] 44)) hb5; first | exact h | (rw [World.size_alloc] at h; exact h)); have n1 : w5.heap[W2.heap.size + 1]? = some (.cells #[.int .i64 0, .string ⟨#[]⟩] 44 (0, 0)) := (by have h := block_kept (w := (W2.drew.alloc (.cells #[.int .i64 0, .bool false, .string ⟨#[]⟩, .int .i64 0] 42)).alloc (.cells #[.int .i64 0, .string ⟨#[]⟩] 44)) (alloc_new (W2.drew.alloc (.cells #[.int .i64 0, .bool false, .string ⟨#[]⟩, .int .i64 0] 42)) (.cells #[.int .i64 0, .string ⟨#[]⟩] 44)) hb5; first | exact h | (rw [World.size_alloc] at h; exact h)); have a0 : w5.cell? ⟨W2.heap.size, 0, none⟩ = some (.int .i64 0) := cell_of_block n0 0; have af0 : w5.frozen? ⟨W2.heap.size, 0, none⟩ = false := free_of_block n0 0; have a1 : w5.cell? ⟨W2.heap.size, 1, none⟩ = some (.bool false) := cell_of_block n0 1; have af1 : w5.frozen? ⟨W2.heap.size, 1, none⟩ = false := free_of_block n0 1; have a2 : w5.cell? ⟨W2.heap.size, 2, none⟩ = some (.string ⟨#[]⟩) := cell_of_block n0 2; have af2 : w5.frozen? ⟨W2.heap.size, 2, none⟩ = false := free_of_block n0 2; have a3 : w5.cell? ⟨W2.heap.size, 3, none⟩ = some (.int .i64 0) := cell_of_block n0 3; have af3 : w5.frozen? ⟨W2.heap.size, 3, none⟩ = false := free_of_block n0 3; have b0 : w5.cell? ⟨W2.heap.size + 1, 0, none⟩ = some (.int .i64 0) := cell_of_block n1 0; have bf0 : w5.frozen? ⟨W2.heap.size + 1, 0, none⟩ = false := free_of_block n1 0; have b1 : w5.cell? ⟨W2.heap.size + 1, 1, none⟩ = some (.string ⟨#[]⟩) := cell_of_block n1 1; have bf1 : w5.frozen? ⟨W2.heap.size + 1, 1, none⟩ = false := free_of_block n1 1; have hx0 : ¬ W2.heap.size = w5.heap.size := Nat.ne_of_lt (lt_of_block n0); have hx1 : ¬ w5.heap.size = W2.heap.size := fun e => hx0 e.symm; have hx2 : ¬ W2.heap.size + 1 = w5.heap.size := Nat.ne_of_lt (lt_of_block n1); have hx3 : ¬ w5.heap.size = W2.heap.size + 1 := fun e => hx2 e.symm; have hl0 := lt_of_block n0; have hl1 := lt_of_block n1; replace n0 := Lib.hid n0; replace n1 := Lib.hid n1) | (have n0 : w5.heap[W2.heap.size]? = some (.cells #[.int .i64 0, .string ⟨#[]⟩] 44 (0, 0)) := (by have h := block_kept (w := (W2.drew.alloc (.cells #[.int .i64 0, .string ⟨#[]⟩] 44)).alloc (.cells #[.int .i64 0, .bool false, .string ⟨#[]⟩, .int .i64 0] 42)) (block_alloc (alloc_new W2.drew (.cells #[.int .i64 0, .string ⟨#[]⟩] 44)) (.cells #[.int .i64 0, .bool false, .string ⟨#[]⟩, .int .i64 0] 42)) hb5; first | exact h | (rw [World.size_alloc] at h; exact h)); have n1 : w5.heap[W2.heap.size + 1]? = some (.cells #[.int .i64 0, .bool false, .string ⟨#[]⟩, .int .i64 0] 42 (0, 0)) := (by have h := block_kept (w := (W2.drew.alloc (.cells #[.int .i64 0, .string ⟨#[]⟩] 44)).alloc (.cells #[.int .i64 0, .bool false, .string ⟨#[]⟩, .int .i64 0] 42)) (alloc_new (W2.drew.alloc (.cells #[.int .i64 0, .string ⟨#[]⟩] 44)) (.cells #[.int .i64 0, .bool false, .string ⟨#[]⟩, .int .i64 0] 42)) hb5; first | exact h | (rw [World.size_alloc] at h; exact h)); have a0 : w5.cell? ⟨W2.heap.size, 0, none⟩ = some (.int .i64 0) := cell_of_block n0 0; have af0 : w5.frozen? ⟨W2.heap.size, 0, none⟩ = false := free_of_block n0 0; have a1 : w5.cell? ⟨W2.heap.size, 1, none⟩ = some (.string ⟨#[]⟩) := cell_of_block n0 1; have af1 : w5.frozen? ⟨W2.heap.size, 1, none⟩ = false := free_of_block n0 1; have b0 : w5.cell? ⟨W2.heap.size + 1, 0, none⟩ = some (.int .i64 0) := cell_of_block n1 0; have bf0 : w5.frozen? ⟨W2.heap.size + 1, 0, none⟩ = false := free_of_block n1 0; have b1 : w5.cell? ⟨W2.heap.size + 1, 1, none⟩ = some (.bool false) := cell_of_block n1 1; have bf1 : w5.frozen? ⟨W2.heap.size + 1, 1, none⟩ = false := free_of_block n1 1; have b2 : w5.cell? ⟨W2.heap.size + 1, 2, none⟩ = some (.string ⟨#[]⟩) := cell_of_block n1 2; have bf2 : w5.frozen? ⟨W2.heap.size + 1, 2, none⟩ = false := free_of_block n1 2; have b3 : w5.cell? ⟨W2.heap.size + 1, 3, none⟩ = some (.int .i64 0) := cell_of_block n1 3; have bf3 : w5.frozen? ⟨W2.heap.size + 1, 3, none⟩ = false := free_of_block n1 3; have hx0 : ¬ W2.heap.size = w5.heap.size := Nat.ne_of_lt (lt_of_block n0); have hx1 : ¬ w5.heap.size = W2.heap.size := fun e => hx0 e.symm; have hx2 : ¬ W2.heap.size + 1 = w5.heap.size := Nat.ne_of_lt (lt_of_block n1); have hx3 : ¬ w5.heap.size = W2.heap.size + 1 := fun e => hx2 e.symm; have hl0 := lt_of_block n0; have hl1 := lt_of_block n1; replace n0 := Lib.hid n0; replace n1 := Lib.hid n1) | (have n0 : w5.heap[W2.heap.size]? = some (.cells #[.int .i64 0, .bool false, .string ⟨#[]⟩, .int .i64 0] 42 (0, 0)) := (by have h := block_kept (w := W2.drew.alloc (.cells #[.int .i64 0, .bool false, .string ⟨#[]⟩, .int .i64 0] 42)) (alloc_new W2.drew (.cells #[.int .i64 0, .bool false, .string ⟨#[]⟩, .int .i64 0] 42)) hb5; first | exact h | (rw [World.size_alloc] at h; exact h)); have a0 : w5.cell? ⟨W2.heap.size, 0, none⟩ = some (.int .i64 0) := cell_of_block n0 0; have af0 : w5.frozen? ⟨W2.heap.size, 0, none⟩ = false := free_of_block n0 0; have a1 : w5.cell? ⟨W2.heap.size, 1, none⟩ = some (.bool false) := cell_of_block n0 1; have af1 : w5.frozen? ⟨W2.heap.size, 1, none⟩ = false := free_of_block n0 1; have a2 : w5.cell? ⟨W2.heap.size, 2, none⟩ = some (.string ⟨#[]⟩) := cell_of_block n0 2; have af2 : w5.frozen? ⟨W2.heap.size, 2, none⟩ = false := free_of_block n0 2; have a3 : w5.cell? ⟨W2.heap.size, 3, none⟩ = some (.int .i64 0) := cell_of_block n0 3; have af3 : w5.frozen? ⟨W2.heap.size, 3, none⟩ = false := free_of_block n0 3; have hx0 : ¬ W2.heap.size = w5.heap.size := Nat.ne_of_lt (lt_of_block n0); have hx1 : ¬ w5.heap.size = W2.heap.size := fun e => hx0 e.symm; have hl0 := lt_of_block n0; replace n0 := Lib.hid n0) | (have n0 : w5.heap[W2.heap.size]? = some (.cells #[.int .i64 0, .string ⟨#[]⟩] 44 (0, 0)) := (by have h := block_kept (w := W2.drew.alloc (.cells #[.int .i64 0, .string ⟨#[]⟩] 44)) (alloc_new W2.drew (.cells #[.int .i64 0, .string ⟨#[]⟩] 44)) hb5; first | exact h | (rw [World.size_alloc] at h; exact h)); have a0 : w5.cell? ⟨W2.heap.size, 0, none⟩ = some (.int .i64 0) := cell_of_block n0 0; have af0 : w5.frozen? ⟨W2.heap.size, 0, none⟩ = false := free_of_block n0 0; have a1 : w5.cell? ⟨W2.heap.size, 1, none⟩ = some (.string ⟨#[]⟩) := cell_of_block n0 1; have af1 : w5.frozen? ⟨W2.heap.size, 1, none⟩ = false := free_of_block n0 1; have hx0 : ¬ W2.heap.size = w5.heap.size := Nat.ne_of_lt (lt_of_block n0); have hx1 : ¬ w5.heap.size = W2.heap.size := fun e => hx0 e.symm; have hl0 := lt_of_block n0; replace n0 := Lib.hid n0) | skip))
                    | fail)
                all_goals (go_wp2_with (fail))
                all_goals go_meet
                all_goals (refine ⟨_, _, rfl, rfl, ?_, ?_, ?_, ?_⟩; (focus (first | exact Nat.le_refl _ | omega)); (focus (repeat (first | (with_reducible exact hbW) | (focus ((with_reducible refine Below.setCell ?_ ?_ _); rotate_left; (first | omega | (simp; omega) | simp))) | (focus ((with_reducible refine Below.alloc ?_ ?_ _); rotate_left; (first | omega | (simp; omega) | simp)))))); (focus (apply blk_conv; (focus (repeat (first | (with_reducible exact (Hid.out n0)) | (with_reducible exact (Hid.out n1)) | (with_reducible apply block_setCell) | (focus ((with_reducible refine later_set_other ?_ ?_); (focus (first | omega | (simp; omega))))) | (with_reducible exact alloc_new _ _) | (focus ((with_reducible refine later_new ?_); (focus simp))) | (with_reducible refine block_alloc ?_ _)))); rfl)); (focus (apply blk_conv; (focus (repeat (first | (with_reducible exact (Hid.out n0)) | (with_reducible exact (Hid.out n1)) | (with_reducible apply block_setCell) | (focus ((with_reducible refine later_set_other ?_ ?_); (focus (first | omega | (simp; omega))))) | (with_reducible exact alloc_new _ _) | (focus ((with_reducible refine later_new ?_); (focus simp))) | (with_reducible refine block_alloc ?_ _)))); rfl)))
              case rest =>
                obtain ⟨b10, b11, rfl, rfl, hb10, hbx, hA, hS⟩ := hcut
                have T5 := HT2.out.of_below hbx
                have u0 : wc.cell? ⟨wm.heap.size + 1, 0, none⟩ = some (.int .i64 s.ver) := cell_of_block T5.st 0
                have u1 : wc.cell? ⟨wm.heap.size + 1, 1, none⟩ = some (.string s.val) := cell_of_block T5.st 1
                have g0 := free_of_block T5.st 0
                have g1 := free_of_block T5.st 1
                have r0 : wc.cell? ⟨b11, 0, none⟩ = some (.int .i64 s'.ver) := cell_of_block hS 0
                have r1 : wc.cell? ⟨b11, 1, none⟩ = some (.string s'.val) := cell_of_block hS 1
                have T7 := T5.put s'
                have D7 := (block_set_other (g := b10) (b := wm.heap.size + 1) (i := 1) (by have := hpb.1; omega) (.string s'.val)).trans ((block_set_other (g := b10) (b := wm.heap.size + 1) (i := 0) (by have := hpb.1; omega) (.int .i64 s'.ver)).trans hA)
                replace T5 := Lib.hid T5
                replace T7 := Lib.hid T7
                replace D7 := Lib.hid D7
                replace hS := Lib.hid hS
                replace hA := Lib.hid hA
                replace hbx := Lib.hid hbx
                go_wp2_with (fail)
                replace T7 := T7.out
                replace D7 := D7.out
                change Code.wp _ _ _ _ ((wc.setCell ⟨wm.heap.size + 1, 0, none⟩ (.int .i64 s'.ver)).setCell ⟨wm.heap.size + 1, 1, none⟩ (.string s'.val))
                generalize ((wc.setCell ⟨wm.heap.size + 1, 0, none⟩ (.int .i64 s'.ver)).setCell ⟨wm.heap.size + 1, 1, none⟩ (.string s'.val)) = W7 at T7 D7 ⊢
                clear u0 u1 g0 g1 r0 r1
                have q7 := (T7.below.cell (p := ⟨gq, oq + p, none⟩) hgq).trans q9.out
                have z3 := (T7.below.cell (p := ⟨gx, ox + (k * 9 + 3), none⟩) hgx).trans (hcx.out _ _ (itsV_at hk (i := 3) (by omega)))
                have z5 := (T7.below.cell (p := ⟨gx, ox + (k * 9 + 5), none⟩) hgx).trans (hcx.out _ _ (itsV_at hk (i := 5) (by omega)))
                have z6 := (T7.below.cell (p := ⟨gx, ox + (k * 9 + 6), none⟩) hgx).trans (hcx.out _ _ (itsV_at hk (i := 6) (by omega)))
                have z7 := (T7.below.cell (p := ⟨gx, ox + (k * 9 + 7), none⟩) hgx).trans (hcx.out _ _ (itsV_at hk (i := 7) (by omega)))
                have z8 := (T7.below.cell (p := ⟨gx, ox + (k * 9 + 8), none⟩) hgx).trans (hcx.out _ _ (itsV_at hk (i := 8) (by omega)))
                rw [← Nat.add_assoc] at z3 z5 z6 z7 z8
                have HT7 := Lib.hid T7
                clear T7
                have hend : TS w wm l.length (m ||| 2 ^ k) (play l s k) W7 := by
                  have : play l s k = s' := by unfold play; rw [itm_eq hk]; exact hs'.out.symm
                  rw [this]; exact HT7.out
                replace hend := Lib.hid hend
                have hfo : l[k].open_ = true ∨ (l[k].open_ = false ∧ da = l[k].ans) := by
                  have := hfit.out
                  rw [itm_eq hk, ← hda.out] at this
                  cases ho : l[k].open_
                  · rw [ho] at this; exact .inr ⟨rfl, this.resolve_left (by simp)⟩
                  · exact .inl rfl
                rcases hfo with ho | ⟨ho, hda2⟩
                · rw [ho] at z3
                  go_quiet (fail)
                  go_wp2
                  go_roundw
                  case rel => exact ⟨p + 1, m ||| 2 ^ k, play l s k, by omega, rfl, hend.out.of_below (below_drewN (Below.refl _ _) _), hnext.out⟩
                  case measure => simp [intOf]; omega
                · rw [ho] at z3
                  rw [hda2] at D7
                  have d0 : W7.cell? ⟨b10, 0, none⟩ = some (.int .i64 l[k].ans.e) := cell_of_block D7 0
                  have d1 : W7.cell? ⟨b10, 1, none⟩ = some (.bool l[k].ans.found) := cell_of_block D7 1
                  have d2 : W7.cell? ⟨b10, 2, none⟩ = some (.string l[k].ans.value) := cell_of_block D7 2
                  have d3 : W7.cell? ⟨b10, 3, none⟩ = some (.int .i64 l[k].ans.ver) := cell_of_block D7 3
                  replace D7 := Lib.hid D7
                  go_quiet (fail)
                  go_wp2
                  go_roundw
                  case rel => exact ⟨p + 1, m ||| 2 ^ k, play l s k, by omega, rfl, hend.out.of_below (below_drewN (Below.refl _ _) _), hnext.out⟩
                  case measure => simp [intOf]; omega
        · obtain rfl : p = q.length := by omega
          rw [List.drop_length] at hw
          have hdone := way_nil hw
          have HT := Lib.hid hT
          clear hT hw
          replace hdone := Lib.hid hdone
          go_wp2
          go_loopw [12] (fun i wj => ∃ j : Nat, j ≤ l.length ∧ i = .int .i64 j ∧ TS w wm l.length m s wj)
            (fun i _ => l.length - (intOf i).toNat)
          case atStart => exact ⟨0, Nat.zero_le _, rfl, HT.out⟩
          case round =>
            clear HT
            obtain ⟨j, hj, rfl, hTj⟩ := hrel
            by_cases hj2 : j < l.length
            · have hi2 : (j : Int) < (l.length : Int) := by omega
              rcases hx.out with ⟨h0, _⟩ | ⟨gx, ox, cx, hex, hgx, hcx⟩
              · omega
              cases hex
              have x3 := (hTj.below.cell (p := ⟨gx, ox + (j * 9 + 3), none⟩) hgx).trans (hcx _ _ (itsV_at hj2 (i := 3) (by omega)))
              rw [← Nat.add_assoc] at x3
              have sj := (cell_of_block hTj.seen j).trans (bitsA_at hj2)
              cases ho : l[j].open_
              · rw [hdone.out j hj2 (by rw [itm_eq hj2]; exact ho)] at sj
                rw [ho] at x3
                have HTj := Lib.hid hTj
                clear hTj hcx
                go_wp2
                go_roundw
                case rel => exact ⟨j + 1, by omega, rfl, HTj.out⟩
                case measure => simp [intOf]; omega
              · rw [ho] at x3
                have HTj := Lib.hid hTj
                clear hTj hcx sj
                go_wp2
                go_roundw
                case rel => exact ⟨j + 1, by omega, rfl, HTj.out⟩
                case measure => simp [intOf]; omega
            · have HTj := Lib.hid hTj
              clear hTj
              go_wp2_with (go_at_call 9; refine (knows_any _).mono ?_; rintro e w3 ⟨rfl, hbk⟩)
              go_ret
              have hend := HTj.out.all
              exact ⟨rfl, hend.trans (hbk.mono hend.size)⟩

/-- The whole law. -/
theorem told_walk (w : World) (v : Value) (l : List It) (hv : RdK D_gleberef24_Item.k w v l) :
    Calls Try.prog 7 #[v] w fun e w' => e = .returned (.bool true) ∧ Below w.heap.size w w' := by
  have h := hv.flat D_gleberef24_Item.enc (fun _ _ h => D_gleberef24_Item.flat h) (fun _ => rfl) (by decide)
  obtain ⟨A, c, rfl⟩ := hv.slice
  exact told_any A c l w h
end Go.Proofs.Ytbengfmoimlnbaa
