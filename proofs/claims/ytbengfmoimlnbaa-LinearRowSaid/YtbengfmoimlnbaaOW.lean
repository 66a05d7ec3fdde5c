/- The walks through light and Own. -/
import Derived.Deep.DeepCutAuto
import Derived.Deep.CutBlock
import Derived.Deep.RegionHeld3
import Derived.Deep.RegionLaw
import Derived.Test.YtbengfmoimlnbaaBG
namespace Go.Proofs.Ytbengfmoimlnbaa
open Go.RowKit

theorem step_append_own {P : Program} {ops : Array Oper} {o : Oper} {a : Act} {w : World} {K : Act → World → Prop} {Q : Exit → Act → World → Prop} {E : Prop}
    (hg : o.guard = none) (s x : Operand) (t : TypeId) (hop : o.op = Op.call { callee := Callee.builtin Builtin.append, args := #[s, x], argTypes := #[t, t] })
    (base : Nat) (e : TypeId) (i : TypeInfo) (z : Value) (size bytes : Nat) (h1 : P.underlying t = some (.slice e)) (h2 : P.info? e = some i) (h3 : i.zero = some z) (h4 : i.size = size) (h5 : i.bytes = bytes) (h6 : z.cells.size = size) (h7 : 0 < size)
    (v : Value) (n : Nat) (xs : List Value) (hs : a.eval s = v) (hown : w.ownsRow base e size v n xs)
    (ad : Addr) (m c : Nat) (news : List Value) (hx : a.eval x = .slice (some ad) m c) (hn : news.length = m * size) (hc : ∀ j u, news[j]? = some u → w.cell? (ad.add j) = some u) (h1c : ∀ u ∈ news, u.oneCell' = true)
    (b1 : n + m ≤ maxLen) (b2 : (n + m) * bytes ≤ 140737488355328) (hbase : base ≤ w.heap.size)
    (hK : ∀ v' w', w'.ownsRow base e size v' (n + m) (xs ++ news) → w.grownBy w' v.ownBlock → K (a.put o.dst v') w') :
    if Region.wanted o (yielded ops a.tmps) = true then Oper.wp P o a w K Q else E := by
  have hw : Region.wanted o (yielded ops a.tmps) = true := by simp [Region.wanted, hg]
  rw [if_pos hw]
  obtain ⟨v', w', hrun, r1, r2, _⟩ := run_append_own (P := P) w base t o.type e i z size bytes h1 h2 h3 h4 h5 h6 h7 v n xs hown ad m c news hn hc h1c b1 b2 hbase
  unfold Oper.wp
  simp [execOp, hop, resolve, invoke, builtin, hs, hx, hrun, Result.andThen]
  exact hK v' w' r1 r2

theorem info_item : (Try.prog.info? 53).map (fun i => (i.zero, i.size, i.bytes)) = some (some (.agg #[.int .i64 0, .int .i64 0, .int .i64 0, .bool false, .string ⟨#[]⟩, .int .i64 0, .bool false, .string ⟨#[]⟩, .int .i64 0]), 9, 88) := by kernel_rfl
theorem enc_one (x : It) : ∀ u ∈ x.enc, u.oneCell' = true := by
  intro u hu
  simp [D_gleberef24_Item.enc] at hu
  rcases hu with rfl | rfl | rfl | rfl | rfl | rfl | rfl | rfl | rfl <;> rfl
theorem itsV_take {l : List It} {k : Nat} (h : k < l.length) : itsV (l.take (k + 1)) = itsV (l.take k) ++ l[k].enc := by
  unfold itsV
  rw [List.take_add_one, List.getElem?_eq_getElem h, List.flatMap_append]
  simp
theorem itsV_length (l : List It) : (itsV l).length = l.length * 9 := by
  induction l with
  | nil => rfl
  | cons a l ih =>
    have : itsV (a :: l) = a.enc ++ itsV l := rfl
    rw [this, List.length_append, ih, List.length_cons]
    simp [D_gleberef24_Item.enc]; omega

set_option maxHeartbeats 1000000 in
theorem own_any (A : Option Addr) (c : Nat) (l : List It) (w : World) (hv : Rd w (.slice A l.length c) l.length (itsV l)) (hn : l.length ≤ 1000) :
    Calls Try.prog 11 #[.slice A l.length c] w fun e w' => ∃ v', e = .returned v' ∧ w'.ownsRow w.heap.size 53 9 v' l.length (itsV l) ∧ Below w.heap.size w w' := by
  obtain ⟨i0, hi, hz0, hz1, hz2⟩ := info_parts info_item
  go_enter Try.func11, Try.ntmps11
  go_wp2
  go_loopw [3, 4] (fun v i wr => ∃ k : Nat, k ≤ l.length ∧ i = .int .i64 k ∧ wr.ownsRow w.heap.size 53 9 v k (itsV (l.take k)) ∧ Below w.heap.size w wr)
    (fun _ i _ => l.length - (intOf i).toNat)
  case atStart => exact ⟨0, Nat.zero_le _, rfl, World.ownsRow_nil _ _ _ _, Below.refl _ _⟩
  case round =>
    obtain ⟨k, hk, rfl, hown, hnx⟩ := hrel
    by_cases hlt : k < l.length
    · rcases hv with ⟨h0, _⟩ | ⟨g, o, c', he, hg, hc⟩
      · omega
      · cases he
        have hi0 : (k : Int) < (l.length : Int) := by omega
        have c0 := (hnx.cell (p := ⟨g, o + (k * 9 + 0), none⟩) hg).trans (hc _ _ (itsV_at hlt (i := 0) (by omega)))
        have c1 := (hnx.cell (p := ⟨g, o + (k * 9 + 1), none⟩) hg).trans (hc _ _ (itsV_at hlt (i := 1) (by omega)))
        have c2 := (hnx.cell (p := ⟨g, o + (k * 9 + 2), none⟩) hg).trans (hc _ _ (itsV_at hlt (i := 2) (by omega)))
        have c3 := (hnx.cell (p := ⟨g, o + (k * 9 + 3), none⟩) hg).trans (hc _ _ (itsV_at hlt (i := 3) (by omega)))
        have c4 := (hnx.cell (p := ⟨g, o + (k * 9 + 4), none⟩) hg).trans (hc _ _ (itsV_at hlt (i := 4) (by omega)))
        have c5 := (hnx.cell (p := ⟨g, o + (k * 9 + 5), none⟩) hg).trans (hc _ _ (itsV_at hlt (i := 5) (by omega)))
        have c6 := (hnx.cell (p := ⟨g, o + (k * 9 + 6), none⟩) hg).trans (hc _ _ (itsV_at hlt (i := 6) (by omega)))
        have c7 := (hnx.cell (p := ⟨g, o + (k * 9 + 7), none⟩) hg).trans (hc _ _ (itsV_at hlt (i := 7) (by omega)))
        have c8 := (hnx.cell (p := ⟨g, o + (k * 9 + 8), none⟩) hg).trans (hc _ _ (itsV_at hlt (i := 8) (by omega)))
        simp only [Nat.add_zero] at c0
        rw [← Nat.add_assoc] at c1 c2 c3 c4 c5 c6 c7 c8
        obtain ⟨A2, c2', rfl, _⟩ := own_slice hown
        go_wp2
        have HB := alloc_new wr (.cells (itC l[k]) 40)
        have hbl := lt_of_block HB
        have e0 : (wr.alloc (.cells (itC l[k]) 40)).cell? ⟨wr.heap.size, 0, none⟩ = some (.int .i64 l[k].kind) := cell_of_block HB 0
        have e1 : (wr.alloc (.cells (itC l[k]) 40)).cell? ⟨wr.heap.size, 1, none⟩ = some (.int .i64 l[k].begin_) := cell_of_block HB 1
        have e2 : (wr.alloc (.cells (itC l[k]) 40)).cell? ⟨wr.heap.size, 2, none⟩ = some (.int .i64 l[k].end_) := cell_of_block HB 2
        have e3 : (wr.alloc (.cells (itC l[k]) 40)).cell? ⟨wr.heap.size, 3, none⟩ = some (.bool l[k].open_) := cell_of_block HB 3
        have e4 : (wr.alloc (.cells (itC l[k]) 40)).cell? ⟨wr.heap.size, 4, none⟩ = some (.string l[k].value) := cell_of_block HB 4
        have e5 : (wr.alloc (.cells (itC l[k]) 40)).cell? ⟨wr.heap.size, 5, none⟩ = some (.int .i64 l[k].ans.e) := cell_of_block HB 5
        have e6 : (wr.alloc (.cells (itC l[k]) 40)).cell? ⟨wr.heap.size, 6, none⟩ = some (.bool l[k].ans.found) := cell_of_block HB 6
        have e7 : (wr.alloc (.cells (itC l[k]) 40)).cell? ⟨wr.heap.size, 7, none⟩ = some (.string l[k].ans.value) := cell_of_block HB 7
        have e8 : (wr.alloc (.cells (itC l[k]) 40)).cell? ⟨wr.heap.size, 8, none⟩ = some (.int .i64 l[k].ans.ver) := cell_of_block HB 8
        replace HB := Lib.hid HB
        have hneb : some wr.heap.size ≠ Value.ownBlock (.slice A2 k c2') := fun e => by have := own_lt hown _ e.symm; omega
        go_region_held3 (fun w' => w'.cell? ⟨wr.heap.size, 0, none⟩ = some (.int .i64 l[k].kind) ∧ w'.cell? ⟨wr.heap.size, 1, none⟩ = some (.int .i64 l[k].begin_) ∧ w'.cell? ⟨wr.heap.size, 2, none⟩ = some (.int .i64 l[k].end_) ∧ w'.cell? ⟨wr.heap.size, 3, none⟩ = some (.bool l[k].open_) ∧ w'.cell? ⟨wr.heap.size, 4, none⟩ = some (.string l[k].value) ∧ w'.cell? ⟨wr.heap.size, 5, none⟩ = some (.int .i64 l[k].ans.e) ∧ w'.cell? ⟨wr.heap.size, 6, none⟩ = some (.bool l[k].ans.found) ∧ w'.cell? ⟨wr.heap.size, 7, none⟩ = some (.string l[k].ans.value) ∧ w'.cell? ⟨wr.heap.size, 8, none⟩ = some (.int .i64 l[k].ans.ver)) (first | go_keep)
          (first
            | (go_at_call 24; refine (ans_any l[k].ans _).mono ?_; rintro e w' ⟨rfl, hbw⟩; simp only [anC]; have j0 := (hbw.cell (p := ⟨wr.heap.size, 0, none⟩) hbl).trans e0; have j1 := (hbw.cell (p := ⟨wr.heap.size, 1, none⟩) hbl).trans e1; have j2 := (hbw.cell (p := ⟨wr.heap.size, 2, none⟩) hbl).trans e2; have j3 := (hbw.cell (p := ⟨wr.heap.size, 3, none⟩) hbl).trans e3; have j4 := (hbw.cell (p := ⟨wr.heap.size, 4, none⟩) hbl).trans e4; have j5 := (hbw.cell (p := ⟨wr.heap.size, 5, none⟩) hbl).trans e5; have j6 := (hbw.cell (p := ⟨wr.heap.size, 6, none⟩) hbl).trans e6; have j7 := (hbw.cell (p := ⟨wr.heap.size, 7, none⟩) hbl).trans e7; have j8 := (hbw.cell (p := ⟨wr.heap.size, 8, none⟩) hbl).trans e8; have hbase1 : w.heap.size ≤ w'.heap.size := Nat.le_trans (Nat.le_trans hnx.size (Nat.le_of_lt hbl)) hbw.size; have hown1 := own_fr (show (wr.alloc (.cells (itC l[k]) 40)).drew.ownsRow w.heap.size 53 9 (.slice A2 k c2') k (itsV (l.take k)) from hown.alloc _) (Fr.of_below hbw (S := fun _ => False)) (fun _ _ h => h))
            | (refine step_append_own rfl (.tmp 16) (.tmp 31) 29 rfl w.heap.size 53 i0 _ 9 88 Try.underlying29 hi hz0 hz1 hz2 rfl (by decide) _ _ _ rfl (hown1.alloc (.cells l[k].enc.toArray 53)) ⟨w'.heap.size, 0, none⟩ 1 1 l[k].enc rfl rfl (cells_new w' l[k].enc _) (enc_one l[k]) (by unfold maxLen; omega) (by omega) (by rw [World.size_alloc]; omega) ?_; intro v2 w2 hown2 hgr; have y0 := (World.cell?_of_block (hgr.block wr.heap.size (by rw [World.size_alloc]; exact Nat.lt_succ_of_lt (Nat.lt_of_lt_of_le hbl hbw.size)) hneb)).trans ((World.cell?_of_block (Below.heap_alloc w' (.cells l[k].enc.toArray 53) _ (Nat.lt_of_lt_of_le hbl hbw.size))).trans j0); have y1 := (World.cell?_of_block (hgr.block wr.heap.size (by rw [World.size_alloc]; exact Nat.lt_succ_of_lt (Nat.lt_of_lt_of_le hbl hbw.size)) hneb)).trans ((World.cell?_of_block (Below.heap_alloc w' (.cells l[k].enc.toArray 53) _ (Nat.lt_of_lt_of_le hbl hbw.size))).trans j1); have y2 := (World.cell?_of_block (hgr.block wr.heap.size (by rw [World.size_alloc]; exact Nat.lt_succ_of_lt (Nat.lt_of_lt_of_le hbl hbw.size)) hneb)).trans ((World.cell?_of_block (Below.heap_alloc w' (.cells l[k].enc.toArray 53) _ (Nat.lt_of_lt_of_le hbl hbw.size))).trans j2); have y3 := (World.cell?_of_block (hgr.block wr.heap.size (by rw [World.size_alloc]; exact Nat.lt_succ_of_lt (Nat.lt_of_lt_of_le hbl hbw.size)) hneb)).trans ((World.cell?_of_block (Below.heap_alloc w' (.cells l[k].enc.toArray 53) _ (Nat.lt_of_lt_of_le hbl hbw.size))).trans j3); have y4 := (World.cell?_of_block (hgr.block wr.heap.size (by rw [World.size_alloc]; exact Nat.lt_succ_of_lt (Nat.lt_of_lt_of_le hbl hbw.size)) hneb)).trans ((World.cell?_of_block (Below.heap_alloc w' (.cells l[k].enc.toArray 53) _ (Nat.lt_of_lt_of_le hbl hbw.size))).trans j4); have y5 := (World.cell?_of_block (hgr.block wr.heap.size (by rw [World.size_alloc]; exact Nat.lt_succ_of_lt (Nat.lt_of_lt_of_le hbl hbw.size)) hneb)).trans ((World.cell?_of_block (Below.heap_alloc w' (.cells l[k].enc.toArray 53) _ (Nat.lt_of_lt_of_le hbl hbw.size))).trans j5); have y6 := (World.cell?_of_block (hgr.block wr.heap.size (by rw [World.size_alloc]; exact Nat.lt_succ_of_lt (Nat.lt_of_lt_of_le hbl hbw.size)) hneb)).trans ((World.cell?_of_block (Below.heap_alloc w' (.cells l[k].enc.toArray 53) _ (Nat.lt_of_lt_of_le hbl hbw.size))).trans j6); have y7 := (World.cell?_of_block (hgr.block wr.heap.size (by rw [World.size_alloc]; exact Nat.lt_succ_of_lt (Nat.lt_of_lt_of_le hbl hbw.size)) hneb)).trans ((World.cell?_of_block (Below.heap_alloc w' (.cells l[k].enc.toArray 53) _ (Nat.lt_of_lt_of_le hbl hbw.size))).trans j7); have y8 := (World.cell?_of_block (hgr.block wr.heap.size (by rw [World.size_alloc]; exact Nat.lt_succ_of_lt (Nat.lt_of_lt_of_le hbl hbw.size)) hneb)).trans ((World.cell?_of_block (Below.heap_alloc w' (.cells l[k].enc.toArray 53) _ (Nat.lt_of_lt_of_le hbl hbw.size))).trans j8))
            | fail)
        go_wp2
        go_roundw
        case rel =>
          have hb1 : Below w.heap.size w (wr.alloc (.cells (itC l[k]) 40)).drew := (hnx.alloc hnx.size _).drew
          have hb2 : Below w.heap.size w w' := hb1.trans (hbw.mono hb1.size)
          exact ⟨k + 1, by omega, rfl, by rw [itsV_take hlt]; exact hown2, (hb2.alloc hbase1 _).grown hgr (by rw [World.size_alloc]; omega) (own_base hown)⟩
        case measure => simp [intOf]; omega
    · obtain rfl : k = l.length := by omega
      go_wp2
      go_ret
      exact ⟨_, rfl, by simpa using hown, hnx⟩

def LightAns (n : Nat) (most : Int) (e : Ending) : Prop := ∃ b : Bool, e = .returned (.bool b) ∧ (b = true → (n : Int) ≤ most)
set_option maxHeartbeats 1000000 in
theorem light_any (A : Option Addr) (c : Nat) (l : List It) (most : Int) (w : World) (hv : Rd w (.slice A l.length c) l.length (itsV l)) :
    Calls Try.prog 8 #[.slice A l.length c, .int .i64 most] w fun e w' => LightAns l.length most e ∧ Below w.heap.size w w' := by
  go_enter Try.func8, Try.ntmps8
  go_wp2
  go_loopw [5] (fun i wr => ∃ k : Nat, k ≤ l.length ∧ k ≤ 30 ∧ i = .int .i64 k ∧ Below w.heap.size w wr)
    (fun i _ => 30 - (intOf i).toNat)
  case atStart => exact ⟨0, Nat.zero_le _, by omega, rfl, Below.refl _ _⟩
  case round =>
    obtain ⟨k, hk, hk30, rfl, hnx⟩ := hrel
    by_cases hlt : k < l.length ∧ k < 30
    · obtain ⟨hlt, hl30⟩ := hlt
      rcases hv with ⟨h0, _⟩ | ⟨g, o, c', he, hg, hc⟩
      · omega
      · cases he
        have hi0 : (k : Int) < (l.length : Int) := by omega
        have hi3 : (k : Int) < 30 := by omega
        have c4 := (hnx.cell (p := ⟨g, o + (k * 9 + 4), none⟩) hg).trans (hc _ _ (itsV_at hlt (i := 4) (by omega)))
        have c7 := (hnx.cell (p := ⟨g, o + (k * 9 + 7), none⟩) hg).trans (hc _ _ (itsV_at hlt (i := 7) (by omega)))
        rw [← Nat.add_assoc] at c4 c7
        cases hbig : decide ((200 : Int) < wrap64 ((l[k].value.size : Int) + (l[k].ans.value.size : Int)))
        · go_wp2
          go_region
          go_wp2
          go_roundw
          case rel => exact ⟨k + 1, by omega, by omega, rfl, hnx.drew⟩
          case measure => simp [intOf]; omega
        · go_wp2
          go_region
          go_wp2
          go_ret
          exact ⟨⟨false, rfl, fun h => by cases h⟩, hnx.drew⟩
    · by_cases hlt2 : k < l.length
      · have hi0 : (k : Int) < (l.length : Int) := by omega
        have hi3 : ¬ (k : Int) < 30 := by omega
        go_wp2
        go_ret
        exact ⟨⟨_, rfl, of_decide_eq_true⟩, hnx⟩
      · obtain rfl : k = l.length := by omega
        go_wp2
        go_ret
        exact ⟨⟨_, rfl, of_decide_eq_true⟩, hnx⟩
end Go.Proofs.Ytbengfmoimlnbaa
