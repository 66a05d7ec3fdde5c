/- The walks through the reference's Order and through LinearOrders. -/
import Derived.Deep.DeepCutAuto
import Derived.Deep.CutBlock
import Derived.Deep.RegionHeld3
import Derived.Deep.RegionLaw
import Derived.Test.YtbengfmoimlnbaaRT
namespace Go.Proofs.Ytbengfmoimlnbaa
open Go.RowKit

set_option maxHeartbeats 1000000 in
theorem rorder_any (A : Option Addr) (c : Nat) (l : List It) (w : World) (hv : Rd w (.slice A l.length c) l.length (itsV l)) (hn : l.length ≤ 24) :
    Calls Try.prog 12 #[.slice A l.length c] w fun e w' => ∃ v', e = .returned (.tuple #[v', .int .i64 (ordE l)]) ∧ w'.ownsRow w.heap.size 3 1 v' (ordR l).length (natV (ordR l)) ∧ Below w.heap.size w w' := by
  have h1 : decide ((24 : Int) < (l.length : Int)) = false := decide_eq_false (by omega)
  have hmk := make_bits l.length hn
  go_enter Try.func12, Try.ntmps12
  go_wp2_with (fail)
  have hb0 : Below w.heap.size w (w.alloc (.cells (bitsA l.length 0) 4)) := (Below.refl _ w).alloc (Nat.le_refl _) _
  refine (rtry_any l hn _ 0 St.zero _ A c (some ⟨w.heap.size, 0, none⟩) l.length rfl (hv.below hb0) (rd_new (t := 4) rfl (by simp [bitsV]))).mono ?_
  rintro e w1 ⟨hres, hb1⟩
  have hB := hb0.trans (hb1.mono hb0.size)
  unfold TryRes at hres
  cases hS : S l 0 St.zero with
  | none =>
    have hE : ordE l = 3 := by unfold ordE; rw [hS]; rfl
    have hR : ordR l = [] := by unfold ordR; rw [hS]; rfl
    rw [hS] at hres
    obtain rfl := hres
    clear hS hmk
    replace hE := Lib.hid hE
    replace hR := Lib.hid hR
    go_wp2_with (fail)
    go_ret2
    rw [hE.out, hR.out]
    exact ⟨_, rfl, World.ownsRow_nil _ _ _ _, hB⟩
  | some q =>
    have hE : ordE l = 0 := by unfold ordE; rw [hS]; rfl
    have hR : ordR l = q := by unfold ordR; rw [hS]; rfl
    rw [hS] at hres
    obtain ⟨v1, rfl, hown⟩ := hres
    clear hS hmk
    replace hown := Lib.hid hown
    replace hE := Lib.hid hE
    replace hR := Lib.hid hR
    go_wp2_with (fail)
    go_ret2
    rw [hE.out, hR.out]
    exact ⟨_, rfl, own_lower hown.out (by simp), hB⟩

set_option maxRecDepth 100000 in
set_option maxHeartbeats 4000000 in
theorem orders_any (A : Option Addr) (c : Nat) (l : List It) (w : World) (hv : Rd w (.slice A l.length c) l.length (itsV l)) :
    Calls Try.prog 3 #[.slice A l.length c] w fun e w' => e = .returned (.bool true) ∧ Below w.heap.size w w' := by
  go_enter Try.func3, Try.ntmps3
  go_wp2_with (fail)
  refine (light_any A c l 7 _ hv).mono ?_
  rintro e w1 ⟨⟨light, rfl, hl7⟩, hb1⟩
  cases light
  · go_wp2_with (go_at_call 9; refine (knows_any _).mono ?_; rintro e w2 ⟨rfl, hbk⟩)
    go_ret
    exact ⟨rfl, hb1.trans (hbk.mono hb1.size)⟩
  · have hl : l.length ≤ 7 := by have := hl7 rfl; omega
    clear hl7
    have hv1 := hv.below hb1
    go_wp2_with (fail)
    refine (own_any A c l _ hv1 (by omega)).mono ?_
    rintro e w2 ⟨v2, rfl, hown2, hb2⟩
    have hx := Rd.of_own hown2
    obtain ⟨A2, c2, rfl, _⟩ := own_slice hown2
    have hB2 := hb1.trans (hb2.mono hb1.size)
    have hv2 := hv1.below hb2
    clear hown2 hv1 hb2 hb1 hv
    go_wp2_with (fail)
    refine (order_any A2 c2 l _ hx (by omega)).mono ?_
    rintro e w3 ⟨v3, rfl, hown3, hb3⟩
    have ha := Rd.of_own hown3
    obtain ⟨A3, c3, rfl, _⟩ := own_slice hown3
    have hB3 := hB2.trans (hb3.mono hB2.size)
    have hv3 := hv2.below hb3
    clear hown3 hv2 hb3 hB2 hx
    go_wp2_with (fail)
    refine (rorder_any A c l _ hv3 (by omega)).mono ?_
    rintro e w4 ⟨v4, rfl, hown4, hb4⟩
    have hb := Rd.of_own hown4
    obtain ⟨A4, c4, rfl, _⟩ := own_slice hown4
    have hB4 := hB3.trans (hb4.mono hB3.size)
    have hv4 := hv3.below hb4
    replace ha := ha.below hb4
    clear hown4 hv3 hb4 hB3
    go_wp2_with (fail)
    refine (own_any A c l _ hv4 (by omega)).mono ?_
    rintro e w5 ⟨v5, rfl, hown5, hb5⟩
    have hy := Rd.of_own hown5
    obtain ⟨A5, c5, rfl, _⟩ := own_slice hown5
    have hB5 := hB4.trans (hb5.mono hB4.size)
    replace ha := ha.below hb5
    replace hb := hb.below hb5
    clear hown5 hv4 hb5 hB4
    go_wp2_with (fail)
    refine (check_any A5 c5 l _ hy (by omega)).mono ?_
    rintro e w6 ⟨rfl, hb6⟩
    have hB6 := hB5.trans (hb6.mono hB5.size)
    replace ha := ha.below hb6
    replace hb := hb.below hb6
    clear hb6 hB5 hy
    have hEs : (ordE l = 3 ∧ okR l = false) ∨ (ordE l = 0 ∧ okR l = true) := by
      unfold ordE okR
      cases (S l 0 St.zero).isSome
      · exact .inl ⟨rfl, rfl⟩
      · exact .inr ⟨rfl, rfl⟩
    have hql : (ordR l).length ≤ 24 := Nat.le_trans (ordR_le l) (by omega)
    generalize ordR l = q at *
    replace ha := Lib.hid ha
    replace hb := Lib.hid hb
    replace hB6 := Lib.hid hB6
    rcases hEs with ⟨hE, hok⟩ | ⟨hE, hok⟩
    all_goals
      rw [hE, hok]
      clear hE hok
      go_wp2_with (go_at_call 14; refine (num_any _ _).mono ?_; rintro e w1 ⟨rfl, rfl⟩)
      go_loopw [9] (fun i wk => ∃ k : Nat, k ≤ q.length ∧ i = .int .i64 k ∧ Below w6.heap.size w6 wk)
        (fun i _ => q.length - (intOf i).toNat)
      case atStart => exact ⟨0, Nat.zero_le _, rfl, Below.refl _ _⟩
      case round =>
        obtain ⟨k, hk, rfl, hBk⟩ := hrel
        by_cases hlt : k < q.length
        · rcases ha.out with ⟨h0, _⟩ | ⟨ga, oa, ca, hea, hga, hca⟩
          · omega
          rcases hb.out with ⟨h0, _⟩ | ⟨gb, ob, cb, heb, hgb, hcb⟩
          · omega
          cases hea
          cases heb
          have hi0 : (k : Int) < (q.length : Int) := by omega
          have a0 := (hBk.cell (p := ⟨ga, oa + k, none⟩) hga).trans (hca _ _ (natV_at hlt))
          have b0 := (hBk.cell (p := ⟨gb, ob + k, none⟩) hgb).trans (hcb _ _ (natV_at hlt))
          clear hca hcb
          go_wp2_with (fail)
          go_quiet (fail)
          go_wp2_with (fail)
          go_roundw
          case rel => exact ⟨k + 1, by omega, rfl, below_drewN hBk _⟩
          case measure => simp [intOf]; omega
        · go_wp2_with (go_at_call 9; refine (knows_any _).mono ?_; rintro e w7 ⟨rfl, hbk⟩)
          go_ret
          have hend := hB6.out.trans (hBk.mono hB6.out.size)
          exact ⟨rfl, hend.trans (hbk.mono hend.size)⟩

/-- The whole law. -/
theorem orders_walk (w : World) (v : Value) (l : List It) (hv : RdK D_gleberef24_Item.k w v l) :
    Calls Try.prog 3 #[v] w fun e w' => e = .returned (.bool true) ∧ Below w.heap.size w w' := by
  have h := hv.flat D_gleberef24_Item.enc (fun _ _ h => D_gleberef24_Item.flat h) (fun _ => rfl) (by decide)
  obtain ⟨A, c, rfl⟩ := hv.slice
  exact orders_any A c l w h
end Go.Proofs.Ytbengfmoimlnbaa
