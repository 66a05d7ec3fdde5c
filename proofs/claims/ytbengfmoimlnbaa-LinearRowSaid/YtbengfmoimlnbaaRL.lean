/- The walk through LinearRow. -/
import Derived.Deep.DeepCutAuto
import Derived.Deep.CutBlock
import Derived.Deep.RegionHeld3
import Derived.Deep.RegionLaw
import Derived.StillTailTactics
import Derived.Test.YtbengfmoimlnbaaRK
namespace Go.Proofs.Ytbengfmoimlnbaa
open Go.RowKit

theorem check_len (A : Option Addr) (n c : Nat) (l : List It) (w : World) (hl : l.length = n) (hv : Rd w (.slice A n c) n (itsV l)) (hn : n ≤ 24) :
    Calls Try.prog 13 #[.slice A n c] w fun e w' => e = .returned (.tuple #[.bool (okR l), .int .i64 0]) ∧ Below w.heap.size w w' := by
  subst hl
  exact check_any A c l w hv hn
theorem own_len (A : Option Addr) (n c : Nat) (l : List It) (w : World) (hl : l.length = n) (hv : Rd w (.slice A n c) n (itsV l)) (hn : n ≤ 1000) :
    Calls Try.prog 11 #[.slice A n c] w fun e w' => ∃ v', e = .returned v' ∧ w'.ownsRow w.heap.size 53 9 v' n (itsV l) ∧ Below w.heap.size w w' := by
  subst hl
  exact own_any A c l w hv hn

theorem keep3 {B : Nat} {w0 w w' : World} {p1 p2 : Addr} {v1 v2 : Value} (hp : p1.block < B ∧ p2.block < B) (hb : Below B w w')
    (h : Below B w0 w ∧ w.cell? p1 = some v1 ∧ w.cell? p2 = some v2) :
    Below B w0 w' ∧ w'.cell? p1 = some v1 ∧ w'.cell? p2 = some v2 :=
  ⟨h.1.trans hb, (hb.cell (hp.1)).trans h.2.1, (hb.cell (hp.2)).trans h.2.2⟩
theorem keep3call {B : Nat} {w0 w w' : World} {p1 p2 : Addr} {v1 v2 : Value} (hp : p1.block < B ∧ p2.block < B) (hBw : B ≤ w0.heap.size) (hb : Below w.heap.size w w')
    (h : Below B w0 w ∧ w.cell? p1 = some v1 ∧ w.cell? p2 = some v2) :
    Below B w0 w' ∧ w'.cell? p1 = some v1 ∧ w'.cell? p2 = some v2 :=
  keep3 hp (hb.mono (Nat.le_trans hBw h.1.size)) h
theorem itsV_snoc (l : List It) (x : It) : itsV (l ++ [x]) = itsV l ++ x.enc := by simp [itsV]
def openI (o : Op7) : It := ⟨o.kind, 5, -1, true, o.value, An.none⟩

set_option maxRecDepth 100000 in
set_option maxHeartbeats 8000000 in
theorem linrow_any (ops : List Op7) (e t : List Int) (turn : Int) (o : Op7) (w : World) (A1 A2 A3 : Option Addr) (c1 c2 c3 : Nat) (hv1 : Rd w (.slice A1 ops.length c1) ops.length (opsV ops)) (hv2 : Rd w (.slice A2 e.length c2) e.length (intV e)) (hv3 : Rd w (.slice A3 t.length c3) t.length (intV t)) :
    Calls Try.prog 6 #[.slice A1 ops.length c1, .slice A2 e.length c2, .slice A3 t.length c3, .int .i64 turn, .agg #[.int .i64 o.kind, .int .i64 o.at_.x, .int .i64 o.at_.y, .string o.key, .string o.value, .int .i64 o.client, .int .i64 o.seq]] w fun x w' => x = .returned (.bool true) ∧ Below w.heap.size w w' := by
  obtain ⟨i0, hi, hz0, hz1, hz2⟩ := info_parts info_it
  obtain ⟨i1, hi1, hy0, hy1, hy2⟩ := info_parts info_item
  have HB := alloc_new w (.cells #[.int .i64 o.kind, .int .i64 o.at_.x, .int .i64 o.at_.y, .string o.key, .string o.value, .int .i64 o.client, .int .i64 o.seq] 61)
  have hB0 : Below w.heap.size w (w.alloc (.cells #[.int .i64 o.kind, .int .i64 o.at_.x, .int .i64 o.at_.y, .string o.key, .string o.value, .int .i64 o.client, .int .i64 o.seq] 61)) := (Below.refl _ w).alloc (Nat.le_refl _) _
  go_enter Try.func6, Try.ntmps6
  replace HB := Lib.hid HB
  replace hB0 := Lib.hid hB0
  go_upto_block 0 with (fail)
  replace HB := HB.out
  replace hB0 := hB0.out
  generalize (w.alloc (.cells #[.int .i64 o.kind, .int .i64 o.at_.x, .int .i64 o.at_.y, .string o.key, .string o.value, .int .i64 o.client, .int .i64 o.seq] 61)) = wb at HB hB0 ⊢
  have b0 : wb.cell? ⟨w.heap.size, 0, none⟩ = some (.int .i64 o.kind) := cell_of_block HB 0
  have b4 : wb.cell? ⟨w.heap.size, 4, none⟩ = some (.string o.value) := cell_of_block HB 4
  have hlb := lt_of_block HB
  replace HB := Lib.hid HB
  have hv1b := Lib.hid (hv1.below hB0)
  go_cut [] (fun wx => wx = wb)
  case first =>
    go_wp2_with (fail)
    go_loopw [11] (fun i wr => ∃ k : Nat, k ≤ ops.length ∧ k ≤ 20 ∧ i = .int .i64 k ∧ wr = wb)
      (fun i _ => 20 - (intOf i).toNat)
    case atStart => exact ⟨0, Nat.zero_le _, by omega, rfl, rfl⟩
    case round =>
      obtain ⟨k, hk, hk20, rfl, rfl⟩ := hrel
      by_cases hlt : k < ops.length ∧ k < 20
      · obtain ⟨hlt, hl20⟩ := hlt
        rcases hv1b.out with ⟨h0, _⟩ | ⟨gl, ol, cl, hel, hgl, hcl⟩
        · omega
        cases hel
        have hi0 : (k : Int) < (ops.length : Int) := by omega
        have hi20 : (k : Int) < 20 := by omega
        have o4 := hcl _ _ (opsV_at hlt (i := 4) (by omega))
        rw [← Nat.add_assoc] at o4
        clear hcl hv1
        cases hbig : decide ((100 : Int) < (ops[k].value.size : Int))
        · go_wp2_with (fail)
          go_roundw
          case rel => exact ⟨k + 1, by omega, by omega, rfl, trivial⟩
          case measure => simp [intOf]; omega
        · go_wp2_with (go_at_call 9; refine (knows_any _).mono ?_; rintro x w2 ⟨rfl, hbk⟩)
          go_ret
          exact ⟨rfl, hB0.trans (hbk.mono hB0.size)⟩
      · by_cases hl : k < ops.length
        · have hi0 : (k : Int) < (ops.length : Int) := by omega
          have hi20 : ¬ (k : Int) < 20 := by omega
          clear hlt
          go_wp2_with (fail)
          go_meet
          trivial
        · have hi0 : ¬ (k : Int) < (ops.length : Int) := by omega
          clear hlt
          go_wp2_with (fail)
          go_meet
          trivial
  case rest =>
    obtain rfl := hcut
    cases hbig : decide ((100 : Int) < (o.value.size : Int))
    · go_wp2_with (first | (go_at_call 9; refine (knows_any _).mono ?_; rintro x w2 ⟨rfl, hbk⟩) | fail)
      have hB2 := hB0.trans (hbk.mono hB0.size)
      have HB2 := block_kept HB.out hbk
      refine (row_any ops e t _ A1 A2 A3 c1 c2 c3 (hv1.below hB2) (hv2.below hB2) (hv3.below hB2)).mono ?_
      rintro x w3 ⟨v12, rfl, hown3, hb3⟩
      have hB3 := hB2.trans (hb3.mono hB2.size)
      have HB3 := block_kept HB2 hb3
      have hnn : min ops.length 12 ≤ ops.length := Nat.min_le_left _ _
      have hn12 : min ops.length 12 ≤ 12 := Nat.min_le_right _ _
      have hrow := rowL_row ops e t (min ops.length 12) hnn
      have hXl := rowL_length ops e t (min ops.length 12)
      generalize rowL ops e t (min ops.length 12) = X at hown3 hrow hXl
      generalize min ops.length 12 = n at hown3 hXl hn12
      obtain ⟨A12, c12, rfl, _⟩ := own_slice hown3
      have hrx := Rd.of_own hown3
      clear hnn hv1 hv2 hv3 hv1b HB HB2 hB2 hb3 hbk b0 b4 hlb hB0
      replace hrx := Lib.hid hrx
      replace hrow := Lib.hid hrow
      replace HB3 := Lib.hid HB3
      replace hB3 := Lib.hid hB3
      replace hown3 := Lib.hid hown3
      go_upto_region 10 with (fail)
      go_cut [14] (fun v14 wx => ∃ A14 c14, v14 = .slice A14 n c14 ∧ wx.ownsRow w3.heap.size 40 9 (.slice A14 n c14) n (itsV X) ∧ Below w3.heap.size w3 wx)
      case first =>
        have hmade := World.ownsRow_made (base := w3.heap.size) (e := 40) (size := 9) w3 #[] 0 (Nat.le_refl _) (by unfold maxLen; omega) rfl
        rcases hown3.out.2 with ⟨hv0, hn0⟩ | ⟨g, cap, cur, hvv, hgb, hh, _⟩
        · cases hv0
          have hX0 : X = [] := List.eq_nil_of_length_eq_zero hXl
          subst hX0
          go_wp2_with (at_builtin; refine wpList_append_own_none rfl _ _ 22 rfl w3.heap.size 40 i0 9 Try.underlying22 hi _ _ _ rfl hmade rfl ?_)
          go_meet
          exact ⟨_, _, rfl, hmade, (Below.refl _ w3).alloc (Nat.le_refl _) _⟩
        · cases hvv
          have hg := lt_of_block hh
          have hcell : ∀ j u, (itsV X)[j]? = some u → (w3.alloc (.cells #[] 40)).cell? ((⟨g, 0, none⟩ : Addr).add j) = some u := by
            intro j u hj
            have := hown3.out.cells rfl j u hj
            rw [← this]
            exact World.cell?_of_block (Below.heap_alloc _ _ _ (by unfold Addr.add; split <;> exact hg))
          have hone : ∀ u ∈ itsV X, u.oneCell' = true := by
            intro u hu
            obtain ⟨y, _, hy⟩ := List.mem_flatMap.1 hu
            exact enc_one y u hy
          replace hh := Lib.hid hh
          go_wp2_with (at_builtin; refine wpList_append_own _ rfl _ _ 22 rfl w3.heap.size 40 i0 _ 9 88 Try.underlying22 hi hz0 hz1 hz2 rfl (by decide) _ _ _ rfl hmade ⟨g, 0, none⟩ n c12 (itsV X) rfl (by rw [itsV_length, hXl]) hcell hone ?c3 ?c4 ?c5 ?_)
          case c3 => unfold maxLen; omega
          case c4 => omega
          case c5 => simp
          intro v' w1 hown' hgrow _
          obtain ⟨A2', c2', rfl, _⟩ := own_slice hown'
          have hb1 : Below w3.heap.size w3 w1 := ((Below.refl _ w3).alloc (Nat.le_refl _) _).grown hgrow (by simp) (own_base hmade)
          go_wp2_with (fail)
          go_meet
          exact ⟨_, _, rfl, hown', hb1⟩
      case rest =>
        obtain ⟨A14, c14, rfl, hown4, hb4⟩ := hcut
        have hrr : ∃ r : Nat, (X = [] ∨ r < X.length) ∧ (0 < n → r < n ∧ (wrap64 (turn.tmod (n : Int) + (n : Int))).tmod (n : Int) = (r : Int)) := by
          rcases Nat.eq_zero_or_pos n with h0 | h0
          · exact ⟨0, .inl (List.eq_nil_of_length_eq_zero (by omega)), fun h => by omega⟩
          · obtain ⟨r, h1, h2⟩ := turn_fact turn n h0 hn12
            exact ⟨r, .inr (by omega), fun _ => ⟨h1, h2⟩⟩
        obtain ⟨r, hrX, hrn⟩ := hrr
        replace hown4 := Lib.hid hown4
        replace hb4 := Lib.hid hb4
        replace hrn := Lib.hid hrn
        go_wp2_with (fail)
        go_loopw [15] (fun i wr => ∃ k : Nat, k ≤ n ∧ i = .int .i64 k ∧ wr.ownsRow w3.heap.size 40 9 (.slice A14 n c14) n (itsV (turnTo X r k)) ∧ Below w3.heap.size w3 wr)
          (fun i _ => n - (intOf i).toNat)
        case atStart => exact ⟨0, Nat.zero_le _, rfl, by rw [turnTo_zero]; exact hown4.out, hb4.out⟩
        case round =>
          obtain ⟨k, hk, rfl, hown, hnx⟩ := hrel
          by_cases hlt : k < n
          · obtain ⟨hr, hr1⟩ := hrn.out (by omega)
            have hidn : (k + r) % n < n := Nat.mod_lt _ (by omega)
            have hidl : ((k + r) % n) < X.length := by omega
            have hi0 : (k : Int) < (n : Int) := by omega
            have hi1 : ((k : Int) + (r : Int)) % (n : Int) < (n : Int) := Int.emod_lt_of_pos _ (by omega)
            have hi2 : ¬ ((k : Int) + (r : Int)) % (n : Int) < 0 := Int.not_lt.2 (Int.emod_nonneg _ (by omega))
            have hn0 : ¬ (n : Int) = 0 := by omega
            have hn1 : ¬ n = 0 := by omega
            have hr2 : (r : Int) < (n : Int) := by omega
            rcases hrx.out with ⟨h0, _⟩ | ⟨gx, ox, cx, hex, hgx, hcx⟩
            · omega
            cases hex
            obtain ⟨g, cc, hge, _, hgb, _⟩ := own_succ hown (by omega)
            cases hge
            have hyl : k < (turnTo X r k).length := by rw [turnTo_length]; omega
            have x0 := (hnx.cell (p := ⟨gx, ox + (((k + r) % n) * 9 + 0), none⟩) hgx).trans (hcx _ _ (itsV_at hidl (i := 0) (by omega)))
            have x1 := (hnx.cell (p := ⟨gx, ox + (((k + r) % n) * 9 + 1), none⟩) hgx).trans (hcx _ _ (itsV_at hidl (i := 1) (by omega)))
            have x2 := (hnx.cell (p := ⟨gx, ox + (((k + r) % n) * 9 + 2), none⟩) hgx).trans (hcx _ _ (itsV_at hidl (i := 2) (by omega)))
            have x3 := (hnx.cell (p := ⟨gx, ox + (((k + r) % n) * 9 + 3), none⟩) hgx).trans (hcx _ _ (itsV_at hidl (i := 3) (by omega)))
            have x4 := (hnx.cell (p := ⟨gx, ox + (((k + r) % n) * 9 + 4), none⟩) hgx).trans (hcx _ _ (itsV_at hidl (i := 4) (by omega)))
            have x5 := (hnx.cell (p := ⟨gx, ox + (((k + r) % n) * 9 + 5), none⟩) hgx).trans (hcx _ _ (itsV_at hidl (i := 5) (by omega)))
            have x6 := (hnx.cell (p := ⟨gx, ox + (((k + r) % n) * 9 + 6), none⟩) hgx).trans (hcx _ _ (itsV_at hidl (i := 6) (by omega)))
            have x7 := (hnx.cell (p := ⟨gx, ox + (((k + r) % n) * 9 + 7), none⟩) hgx).trans (hcx _ _ (itsV_at hidl (i := 7) (by omega)))
            have x8 := (hnx.cell (p := ⟨gx, ox + (((k + r) % n) * 9 + 8), none⟩) hgx).trans (hcx _ _ (itsV_at hidl (i := 8) (by omega)))
            simp only [Nat.add_zero] at x0
            rw [← Nat.add_assoc] at x1 x2 x3 x4 x5 x6 x7 x8
            have e0 : wr.cell? ⟨g, k * 9, none⟩ = some (.int .i64 (turnTo X r k)[k].kind) := (hown.cellAt (k * 9) (by omega)).trans (itsV_at hyl (i := 0) (by omega))
            have f0 := hown.frozenAt (k * 9)
            have e1 : wr.cell? ⟨g, k * 9 + 1, none⟩ = some (.int .i64 (turnTo X r k)[k].begin_) := (hown.cellAt (k * 9 + 1) (by omega)).trans (itsV_at hyl (i := 1) (by omega))
            have f1 := hown.frozenAt (k * 9 + 1)
            have e2 : wr.cell? ⟨g, k * 9 + 2, none⟩ = some (.int .i64 (turnTo X r k)[k].end_) := (hown.cellAt (k * 9 + 2) (by omega)).trans (itsV_at hyl (i := 2) (by omega))
            have f2 := hown.frozenAt (k * 9 + 2)
            have e3 : wr.cell? ⟨g, k * 9 + 3, none⟩ = some (.bool (turnTo X r k)[k].open_) := (hown.cellAt (k * 9 + 3) (by omega)).trans (itsV_at hyl (i := 3) (by omega))
            have f3 := hown.frozenAt (k * 9 + 3)
            have e4 : wr.cell? ⟨g, k * 9 + 4, none⟩ = some (.string (turnTo X r k)[k].value) := (hown.cellAt (k * 9 + 4) (by omega)).trans (itsV_at hyl (i := 4) (by omega))
            have f4 := hown.frozenAt (k * 9 + 4)
            have e5 : wr.cell? ⟨g, k * 9 + 5, none⟩ = some (.int .i64 (turnTo X r k)[k].ans.e) := (hown.cellAt (k * 9 + 5) (by omega)).trans (itsV_at hyl (i := 5) (by omega))
            have f5 := hown.frozenAt (k * 9 + 5)
            have e6 : wr.cell? ⟨g, k * 9 + 6, none⟩ = some (.bool (turnTo X r k)[k].ans.found) := (hown.cellAt (k * 9 + 6) (by omega)).trans (itsV_at hyl (i := 6) (by omega))
            have f6 := hown.frozenAt (k * 9 + 6)
            have e7 : wr.cell? ⟨g, k * 9 + 7, none⟩ = some (.string (turnTo X r k)[k].ans.value) := (hown.cellAt (k * 9 + 7) (by omega)).trans (itsV_at hyl (i := 7) (by omega))
            have f7 := hown.frozenAt (k * 9 + 7)
            have e8 : wr.cell? ⟨g, k * 9 + 8, none⟩ = some (.int .i64 (turnTo X r k)[k].ans.ver) := (hown.cellAt (k * 9 + 8) (by omega)).trans (itsV_at hyl (i := 8) (by omega))
            have f8 := hown.frozenAt (k * 9 + 8)
            have hst : ∃ W9, W9 = (((((((((wr.setCell ⟨g, k * 9, none⟩ (.int .i64 X[((k + r) % n)].kind)).setCell ⟨g, k * 9 + 1, none⟩ (.int .i64 X[((k + r) % n)].begin_)).setCell ⟨g, k * 9 + 2, none⟩ (.int .i64 X[((k + r) % n)].end_)).setCell ⟨g, k * 9 + 3, none⟩ (.bool X[((k + r) % n)].open_)).setCell ⟨g, k * 9 + 4, none⟩ (.string X[((k + r) % n)].value)).setCell ⟨g, k * 9 + 5, none⟩ (.int .i64 X[((k + r) % n)].ans.e)).setCell ⟨g, k * 9 + 6, none⟩ (.bool X[((k + r) % n)].ans.found)).setCell ⟨g, k * 9 + 7, none⟩ (.string X[((k + r) % n)].ans.value)).setCell ⟨g, k * 9 + 8, none⟩ (.int .i64 X[((k + r) % n)].ans.ver)) ∧ W9.ownsRow w3.heap.size 40 9 (.slice (some ⟨g, 0, none⟩) n c14) n (itsV (turnTo X r (k + 1))) ∧ Below w3.heap.size w3 W9 := by
              refine ⟨_, rfl, ?_, (Below.setCell (p := ⟨g, k * 9 + 8, none⟩) (Below.setCell (p := ⟨g, k * 9 + 7, none⟩) (Below.setCell (p := ⟨g, k * 9 + 6, none⟩) (Below.setCell (p := ⟨g, k * 9 + 5, none⟩) (Below.setCell (p := ⟨g, k * 9 + 4, none⟩) (Below.setCell (p := ⟨g, k * 9 + 3, none⟩) (Below.setCell (p := ⟨g, k * 9 + 2, none⟩) (Below.setCell (p := ⟨g, k * 9 + 1, none⟩) (Below.setCell (p := ⟨g, k * 9, none⟩) hnx hgb (.int .i64 X[((k + r) % n)].kind)) hgb (.int .i64 X[((k + r) % n)].begin_)) hgb (.int .i64 X[((k + r) % n)].end_)) hgb (.bool X[((k + r) % n)].open_)) hgb (.string X[((k + r) % n)].value)) hgb (.int .i64 X[((k + r) % n)].ans.e)) hgb (.bool X[((k + r) % n)].ans.found)) hgb (.string X[((k + r) % n)].ans.value)) hgb (.int .i64 X[((k + r) % n)].ans.ver))⟩
              have := (World.ownsRow.stored (World.ownsRow.stored (World.ownsRow.stored (World.ownsRow.stored (World.ownsRow.stored (World.ownsRow.stored (World.ownsRow.stored (World.ownsRow.stored (World.ownsRow.stored hown (k * 9) (.int .i64 X[((k + r) % n)].kind)).1 (k * 9 + 1) (.int .i64 X[((k + r) % n)].begin_)).1 (k * 9 + 2) (.int .i64 X[((k + r) % n)].end_)).1 (k * 9 + 3) (.bool X[((k + r) % n)].open_)).1 (k * 9 + 4) (.string X[((k + r) % n)].value)).1 (k * 9 + 5) (.int .i64 X[((k + r) % n)].ans.e)).1 (k * 9 + 6) (.bool X[((k + r) % n)].ans.found)).1 (k * 9 + 7) (.string X[((k + r) % n)].ans.value)).1 (k * 9 + 8) (.int .i64 X[((k + r) % n)].ans.ver)).1
              rw [itsV_set X[((k + r) % n)] hyl] at this
              have h2 := turnTo_succ (x := X) (r := r) (k := k)
              rw [hXl, itm_eq hidl] at h2
              rw [← h2]
              exact this
            obtain ⟨W9, hW9, hown9, hnx9⟩ := hst
            clear hcx
            replace hown := Lib.hid hown
            replace hnx := Lib.hid hnx
            replace hown9 := Lib.hid hown9
            replace hnx9 := Lib.hid hnx9
            replace hW9 := Lib.hid hW9
            go_wp2_with (fail)
            go_roundw
            case rel => exact ⟨k + 1, by omega, rfl, by rw [← hW9.out]; exact hown9.out, by rw [← hW9.out]; exact hnx9.out⟩
            case measure => simp [intOf]; omega
          · have hkn : k = n := by omega
            have hi0 : ¬ (k : Int) < (n : Int) := by omega
            rw [hkn] at hown
            have hY : wr.ownsRow w3.heap.size 40 9 (.slice A14 n c14) n (itsV (turned X r)) := by rw [← turnTo_full, hXl]; exact hown
            have hY5 := Rd.of_own hY
            have hTl : (turned X r).length = n := by rw [turned_length, hXl]
            have hokT : okR (turned X r) = true := by have := row_turned X [] (by simp) r hrX hrow.out; simpa using this
            have hokO : okR (turned X r ++ [openI o]) = true := row_turned X [openI o] (by simp [openI]) r hrX hrow.out
            have hokR : okR (restL X r n) = true := by have := restL_ok X r hrow.out; rwa [hXl] at this
            have hB5 : Below w.heap.size w wr := hB3.out.trans (hnx.mono hB3.out.size)
            have HB5 := block_kept HB3.out hnx
            have hrx5 := hrx.out.below hnx
            clear hY hown hnx hkn
            go_wp2_with (fail)
            refine (own_len A14 n c14 (turned X r) _ hTl hY5 (by omega)).mono ?_
            rintro x w5 ⟨v5, rfl, hown5, hb5⟩
            have hrd5 := Rd.of_own hown5
            obtain ⟨A5, c5, rfl, _⟩ := own_slice hown5
            clear hown5
            go_wp2_with (fail)
            refine (check_len A5 n c5 (turned X r) _ hTl hrd5 (by omega)).mono ?_
            rintro x w6 ⟨rfl, hb6⟩
            rw [hokT]
            have hb56 := hb5.trans (hb6.mono hb5.size)
            have hY6 := hY5.below hb56
            have HB6 := block_kept HB5 hb56
            have hrx6 := hrx5.below hb56
            have hB6 := hB5.trans (hb56.mono hB5.size)
            have hlb6 := lt_of_block HB6
            clear hb5 hb6 hb56 hrd5 hY5 hrx5 HB5 hB5 hokT
            have b0 : w6.cell? ⟨w.heap.size, 0, none⟩ = some (.int .i64 o.kind) := cell_of_block HB6 0
            have b4 : w6.cell? ⟨w.heap.size, 4, none⟩ = some (.string o.value) := cell_of_block HB6 4
            have hS0 : Below w6.heap.size w6 w6 ∧ w6.cell? ⟨w.heap.size, 0, none⟩ = some (.int .i64 o.kind) ∧ w6.cell? ⟨w.heap.size, 4, none⟩ = some (.string o.value) := ⟨Below.refl _ _, b0, b4⟩
            have hpb : w.heap.size < w6.heap.size ∧ w.heap.size < w6.heap.size := ⟨hlb6, hlb6⟩
            have hY6d : Rd w6.drew (.slice A14 n c14) n (itsV (turned X r)) := hY6
            clear b0 b4 hY6
            replace HB6 := Lib.hid HB6
            replace hrx6 := Lib.hid hrx6
            replace hB6 := Lib.hid hB6
            replace hokR := Lib.hid hokR
            replace hokO := Lib.hid hokO
            go_upto_region 18 with (go_at_call 14; refine (num_any _ _).mono ?_; rintro x w1 ⟨rfl, rfl⟩)
            go_cut [18, 19] (fun va vb wx => va = .bool true ∧ vb = .int .i64 0 ∧ Below w6.heap.size w6 wx)
            case first =>
              go_region_held3 (fun W => Below w6.heap.size w6 W ∧ W.cell? ⟨w.heap.size, 0, none⟩ = some (.int .i64 o.kind) ∧ W.cell? ⟨w.heap.size, 4, none⟩ = some (.string o.value))
                (first | exact keep3 (w := w6) hpb hb9w hS0 | exact keep3 (w := w6) hpb hb8w hS0 | exact keep3 (w := w6) hpb hb7w hS0 | exact keep3 (w := w6) hpb (hb7w.alloc hb7w.size _) hS0 | exact keep3 (w := w6) hpb (Below.refl _ _).drew hS0 | exact keep3 (w := w6) hpb ((Below.refl _ _).drew.alloc (Nat.le_refl _) _) hS0)
                (first
                  | (go_at_call 11; refine (own_len A14 n c14 (turned X r) _ hTl (by first | exact hY6d | exact hY6d.below ((Below.refl _ _).alloc (Nat.le_refl _) _)) (by omega)).mono ?_; rintro x w7 ⟨v7, rfl, hown7, hb7⟩; obtain ⟨A7, c7, rfl, _⟩ := own_slice hown7; have hb7w : Below w6.heap.size w6 w7 := (by first | exact (Below.refl _ _).drew.trans hb7 | exact ((Below.refl _ _).drew.alloc (Nat.le_refl _) _).trans (hb7.mono (by simp))); (first | (have hcI : ∀ j u, (openI o).enc[j]? = some u → w7.cell? ((⟨w6.heap.size, 0, none⟩ : Addr).add j) = some u := fun j u hj => cell_kept hb7 (cells_new w6.drew (openI o).enc _ j u hj)) | skip))
                  | (go_at_call 13; refine (check_len A8 (n + 1) c8 (turned X r ++ [openI o]) _ (by simp [hTl]) (by rw [itsV_snoc]; exact Rd.of_own hown8.out) (by omega)).mono ?_; rintro x w9 ⟨rfl, hb9⟩; rw [hokO.out]; have hb9w := hb8w.trans (hb9.mono hb8w.size))
                  | (refine step_append_own rfl (.tmp 97) (.tmp 103) 29 rfl w6.drew.heap.size 53 i1 _ 9 88 Try.underlying29 hi1 hy0 hy1 hy2 rfl (by decide) _ _ _ rfl (hown7.alloc (.cells (openI o).enc.toArray 53)) ⟨w7.heap.size, 0, none⟩ 1 1 (openI o).enc rfl rfl (cells_new w7 (openI o).enc _) (enc_one (openI o)) (by unfold maxLen; omega) (by omega) (by have := hb7w.size; rw [World.size_alloc]; exact Nat.le_succ_of_le this) ?_; intro v8 w8 hown8 hgr; have hb8w : Below w6.heap.size w6 w8 := (hb7w.alloc hb7w.size _).grown hgr (by have := hb7w.size; rw [World.size_alloc]; exact Nat.le_succ_of_le this) (own_base hown7); obtain ⟨A8, c8, rfl, _⟩ := own_slice hown8; replace hown8 := Lib.hid hown8)
                  | (refine step_append_own rfl (.tmp 97) (.tmp 103) 29 rfl (w6.drew.alloc (.cells (openI o).enc.toArray 53)).heap.size 53 i1 _ 9 88 Try.underlying29 hi1 hy0 hy1 hy2 rfl (by decide) _ _ _ rfl hown7 ⟨w6.heap.size, 0, none⟩ 1 1 (openI o).enc rfl rfl hcI (enc_one (openI o)) (by unfold maxLen; omega) (by omega) hb7.size ?_; intro v8 w8 hown8 hgr; have hb8w : Below w6.heap.size w6 w8 := hb7w.grown hgr hb7w.size (fun j hj => by have := own_base hown7 j hj; simp at this; omega); obtain ⟨A8, c8, rfl, _⟩ := own_slice hown8; replace hown8 := Lib.hid hown8)
                  | fail)
              all_goals (go_wp2_with (fail))
              all_goals go_meet
              all_goals exact ⟨rfl, rfl, hb9w⟩
            case rest =>
              obtain ⟨rfl, rfl, hw6⟩ := hcut
              have hrx7 := hrx6.out.below hw6
              have hB7 := hB6.out.trans (hw6.mono hB6.out.size)
              clear hS0 hpb hY6d hlb6
              replace hrx7 := Lib.hid hrx7
              replace hB7 := Lib.hid hB7
              replace hw6 := Lib.hid hw6
              go_wp2_with (fail)
              go_loopw [20, 21] (fun v i wr => ∃ k : Nat, k ≤ n ∧ i = .int .i64 k ∧ wr.ownsRow wc.heap.size 40 9 v (restL X r k).length (itsV (restL X r k)) ∧ Below wc.heap.size wc wr)
                (fun _ i _ => n - (intOf i).toNat)
              case atStart => exact ⟨0, Nat.zero_le _, rfl, World.ownsRow_nil _ _ _ _, Below.refl _ _⟩
              case round =>
                obtain ⟨k, hk, rfl, hown, hnx⟩ := hrel
                obtain ⟨Av, cv, rfl, _⟩ := own_slice hown
                have hkn12 : (restL X r k).length ≤ 12 := by
                  have h1 := pick_length (keepB X r) (X.take k) 0
                  have h2 : (X.take k).length ≤ X.length := by rw [List.length_take]; omega
                  unfold restL
                  omega
                by_cases hlt : k < n
                · obtain ⟨hr, hr1⟩ := hrn.out (by omega)
                  have hkl : k < X.length := by omega
                  have hsucc := restL_succ (r := r) hkl
                  have hi0 : (k : Int) < (n : Int) := by omega
                  have hn0 : ¬ (n : Int) = 0 := by omega
                  have hn1 : ¬ n = 0 := by omega
                  rcases hrx7.out with ⟨h0, _⟩ | ⟨gx, ox, cx, hex, hgx, hcx⟩
                  · omega
                  cases hex
                  have x0 := (hnx.cell (p := ⟨gx, ox + (k * 9 + 0), none⟩) hgx).trans (hcx _ _ (itsV_at hkl (i := 0) (by omega)))
                  have x1 := (hnx.cell (p := ⟨gx, ox + (k * 9 + 1), none⟩) hgx).trans (hcx _ _ (itsV_at hkl (i := 1) (by omega)))
                  have x2 := (hnx.cell (p := ⟨gx, ox + (k * 9 + 2), none⟩) hgx).trans (hcx _ _ (itsV_at hkl (i := 2) (by omega)))
                  have x3 := (hnx.cell (p := ⟨gx, ox + (k * 9 + 3), none⟩) hgx).trans (hcx _ _ (itsV_at hkl (i := 3) (by omega)))
                  have x4 := (hnx.cell (p := ⟨gx, ox + (k * 9 + 4), none⟩) hgx).trans (hcx _ _ (itsV_at hkl (i := 4) (by omega)))
                  have x5 := (hnx.cell (p := ⟨gx, ox + (k * 9 + 5), none⟩) hgx).trans (hcx _ _ (itsV_at hkl (i := 5) (by omega)))
                  have x6 := (hnx.cell (p := ⟨gx, ox + (k * 9 + 6), none⟩) hgx).trans (hcx _ _ (itsV_at hkl (i := 6) (by omega)))
                  have x7 := (hnx.cell (p := ⟨gx, ox + (k * 9 + 7), none⟩) hgx).trans (hcx _ _ (itsV_at hkl (i := 7) (by omega)))
                  have x8 := (hnx.cell (p := ⟨gx, ox + (k * 9 + 8), none⟩) hgx).trans (hcx _ _ (itsV_at hkl (i := 8) (by omega)))
                  simp only [Nat.add_zero] at x0
                  rw [← Nat.add_assoc] at x1 x2 x3 x4 x5 x6 x7 x8
                  clear hcx
                  replace hown := Lib.hid hown
                  generalize hL : restL X r k = L at hown hsucc hkn12
                  cases hkd : (X[k].kind != 1)
                  · cases hkr : ((k : Int) != (r : Int))
                    · have hkp : keepB X r k = false := by
                        unfold keepB
                        rw [itm_eq hkl, hkd]
                        have : k = r := by have := bne_eq_false_iff_eq.1 hkr; omega
                        simp [this]
                      rw [hkp, if_neg (by simp), List.append_nil] at hsucc
                      replace hsucc := Lib.hid hsucc
                      go_wp2_with (fail)
                      go_roundw
                      case rel => exact ⟨k + 1, by omega, rfl, by rw [hsucc.out]; exact hown.out, hnx⟩
                      case measure => simp [intOf]; omega
                    · have hkp : keepB X r k = true := by
                        unfold keepB
                        have : ¬ k = r := by have := bne_iff_ne.1 hkr; omega
                        simp [this]
                      rw [hkp, if_pos rfl] at hsucc
                      replace hsucc := Lib.hid hsucc
                      go_wp2_with (at_builtin; refine wpList_append_own _ rfl _ _ 22 rfl wc.heap.size 40 i0 _ 9 88 Try.underlying22 hi hz0 hz1 hz2 rfl (by decide) _ _ _ rfl (hown.out.alloc (.cells X[k].enc.toArray 40)) ⟨wr.heap.size, 0, none⟩ 1 1 X[k].enc rfl rfl (cells_new wr X[k].enc _) (enc_one X[k]) ?c3 ?c4 ?c5 ?_)
                      case c3 => unfold maxLen; omega
                      case c4 => omega
                      case c5 => have := hnx.size; simp; omega
                      intro v' w1 hown' hgrow _
                      have hb1 : Below wc.heap.size wc w1 := (hnx.alloc hnx.size _).grown hgrow (by have := hnx.size; simp; omega) (own_base hown.out)
                      replace hown' := Lib.hid hown'
                      go_wp2_with (fail)
                      go_roundw
                      case rel => exact ⟨k + 1, by omega, rfl, by rw [hsucc.out]; simp only [List.length_append, List.length_singleton, itsV_snoc]; exact hown'.out, hb1⟩
                      case measure => simp [intOf]; omega
                  · have hkp : keepB X r k = true := by
                      unfold keepB
                      rw [itm_eq hkl, hkd]
                      rfl
                    rw [hkp, if_pos rfl] at hsucc
                    replace hsucc := Lib.hid hsucc
                    go_wp2_with (at_builtin; refine wpList_append_own _ rfl _ _ 22 rfl wc.heap.size 40 i0 _ 9 88 Try.underlying22 hi hz0 hz1 hz2 rfl (by decide) _ _ _ rfl (hown.out.alloc (.cells X[k].enc.toArray 40)) ⟨wr.heap.size, 0, none⟩ 1 1 X[k].enc rfl rfl (cells_new wr X[k].enc _) (enc_one X[k]) ?c3 ?c4 ?c5 ?_)
                    case c3 => unfold maxLen; omega
                    case c4 => omega
                    case c5 => have := hnx.size; simp; omega
                    intro v' w1 hown' hgrow _
                    have hb1 : Below wc.heap.size wc w1 := (hnx.alloc hnx.size _).grown hgrow (by have := hnx.size; simp; omega) (own_base hown.out)
                    replace hown' := Lib.hid hown'
                    go_wp2_with (fail)
                    go_roundw
                    case rel => exact ⟨k + 1, by omega, rfl, by rw [hsucc.out]; simp only [List.length_append, List.length_singleton, itsV_snoc]; exact hown'.out, hb1⟩
                    case measure => simp [intOf]; omega
                · have hkn : k = n := by omega
                  have hi0 : ¬ (k : Int) < (n : Int) := by omega
                  have hrd := Rd.of_own hown
                  have hokK : okR (restL X r k) = true := by rw [hkn]; exact hokR.out
                  clear hown
                  generalize restL X r k = L at hrd hokK hkn12
                  replace hokK := Lib.hid hokK
                  have hB8 := hB7.out.trans (hnx.mono hB7.out.size)
                  replace hB8 := Lib.hid hB8
                  clear hnx
                  go_wp2_with (fail)
                  refine (own_len Av L.length cv L _ rfl hrd (by omega)).mono ?_
                  rintro x w9 ⟨v9, rfl, hown9, hb9⟩
                  have hrd9 := Rd.of_own hown9
                  obtain ⟨A9, c9, rfl, _⟩ := own_slice hown9
                  clear hown9
                  go_wp2_with (fail)
                  refine (check_len A9 L.length c9 L _ rfl hrd9 (by omega)).mono ?_
                  rintro x w10 ⟨rfl, hb10⟩
                  rw [hokK.out]
                  have hB9 := hB8.out.trans (hb9.mono hB8.out.size)
                  have hB10 := hB9.trans (hb10.mono hB9.size)
                  replace hB10 := Lib.hid hB10
                  clear hb9 hb10 hB9 hrd hrd9
                  go_wp2_with (go_at_call 14; refine (num_any _ _).mono ?_; rintro x w1 ⟨rfl, rfl⟩)
                  go_ret
                  exact ⟨rfl, hB10.out⟩
    · go_wp2_with (go_at_call 9; refine (knows_any _).mono ?_; rintro x w2 ⟨rfl, hbk⟩)
      go_ret
      exact ⟨rfl, hB0.trans (hbk.mono hB0.size)⟩

/-- The whole law. -/
theorem row_walk (w : World) (v1 : Value) (ops : List Op7) (h1 : RdK D_gleberef07_Op.k w v1 ops) (v2 : Value) (e : List Int) (h2 : RdK (RK.int .i64) w v2 e) (v3 : Value) (t : List Int) (h3 : RdK (RK.int .i64) w v3 t) (turn : Int) (_ : (Lit.int .i64 turn).wf = true) (co : Array Value) (o : Op7) (ho : D_gleberef07_Op.k.K w o co.toList) :
    Calls Try.prog 6 #[v1, v2, v3, .int .i64 turn, .agg co] w fun x w' => x = .returned (.bool true) ∧ Below w.heap.size w w' := by
  have k1 := h1.flat D_gleberef07_Op.enc (fun _ _ h => D_gleberef07_Op.flat h) (fun _ => rfl) (by decide)
  have k2 := h2.flat (fun i => [Value.int .i64 i]) (fun _ _ h => h.1) (fun _ => rfl) (by decide)
  have k3 := h3.flat (fun i => [Value.int .i64 i]) (fun _ _ h => h.1) (fun _ => rfl) (by decide)
  have e2 : e.flatMap (fun i => [Value.int .i64 i]) = intV e := by unfold intV; rw [List.map_eq_flatMap]
  have e3 : t.flatMap (fun i => [Value.int .i64 i]) = intV t := by unfold intV; rw [List.map_eq_flatMap]
  rw [e2] at k2
  rw [e3] at k3
  obtain ⟨A1, c1, rfl⟩ := h1.slice
  obtain ⟨A2, c2, rfl⟩ := h2.slice
  obtain ⟨A3, c3, rfl⟩ := h3.slice
  have eo : co = o.enc.toArray := by rw [← D_gleberef07_Op.flat ho]
  rw [eo]
  exact linrow_any ops e t turn o w A1 A2 A3 c1 c2 c3 k1 k2 k3
end Go.Proofs.Ytbengfmoimlnbaa
