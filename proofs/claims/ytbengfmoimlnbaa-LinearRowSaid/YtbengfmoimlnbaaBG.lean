/- The walk through begin: which items must be taken, and which stand ahead of which. -/
import Derived.Deep.DeepCutAuto
import Derived.Deep.CutBlock
import Derived.Laws.BitsAllLaws
import Derived.Deep.OwnRows
import Derived.Test.YtbengfmoimlnbaaDD
namespace Go.Proofs.Ytbengfmoimlnbaa
open Go.RowKit

def itC (x : It) : Array Value := #[.int .i64 x.kind, .int .i64 x.begin_, .int .i64 x.end_, .bool x.open_, .string x.value, .int .i64 x.ans.e, .bool x.ans.found, .string x.ans.value, .int .i64 x.ans.ver]
def itsV (l : List It) : List Value := l.flatMap D_gleberef24_Item.enc
theorem itsV_at {l : List It} {k i : Nat} (h : k < l.length) (hi : i < 9) : (itsV l)[k * 9 + i]? = l[k].enc[i]? := by
  induction l generalizing k with
  | nil => cases h
  | cons p l ih =>
    cases k with
    | zero =>
      simp only [itsV, List.flatMap_cons, Nat.zero_mul, Nat.zero_add, List.getElem_cons_zero]
      rw [List.getElem?_append_left (by simpa [D_gleberef24_Item.enc] using hi)]
    | succ k =>
      have := ih (k := k) (by simpa using h)
      simp only [itsV, List.flatMap_cons, List.getElem_cons_succ] at this ⊢
      rw [List.getElem?_append_right (by simp [D_gleberef24_Item.enc]; omega), ← this]
      congr 1
      simp [D_gleberef24_Item.enc]; omega

def rowM (l : List It) (k q j : Nat) : Nat := if j < k then maskTo (aheadP l j) l.length else if j = k then maskTo (aheadP l k) q else 0
def rowsA (l : List It) (k q : Nat) : Array Value := Array.ofFn (n := l.length) fun j => Value.int .u64 (rowM l k q j : Int)
theorem rowsA_next (l : List It) (k : Nat) : rowsA l (k + 1) 0 = rowsA l k l.length := by
  unfold rowsA rowM
  congr 1
  funext j
  by_cases h1 : (j : Nat) < k
  · rw [if_pos (show (j : Nat) < k + 1 by omega), if_pos h1]
  · by_cases h2 : (j : Nat) = k
    · rw [if_pos (show (j : Nat) < k + 1 by omega), if_neg h1, if_pos h2, h2]
    · rw [if_neg (show ¬ (j : Nat) < k + 1 by omega), if_neg h1, if_neg h2]
      split <;> simp [maskTo]

theorem info_uint : (Try.prog.info? 68).map (fun i => (i.zero, i.size, i.bytes)) = some (some (.int .u64 0), 1, 8) := by kernel_rfl
theorem rowsA_zero (l : List It) : madeCells #[.int .u64 0] l.length = rowsA l 0 0 := by
  unfold madeCells rowsA rowM
  apply Array.ext
  · simp
  · intro i h1 h2
    simp only [Array.getElem_map, Array.getElem_range, Array.getElem_ofFn, Nat.not_lt_zero, if_false]
    have : (#[Value.int .u64 0] : Array Value)[i % (#[Value.int .u64 0] : Array Value).size]! = .int .u64 0 := by
      have : i % (#[Value.int .u64 0] : Array Value).size = 0 := Nat.mod_one i
      rw [this]; rfl
    rw [this]
    split <;> simp [maskTo]
theorem make_rows (l : List It) (hn : l.length ≤ 24) (w : World) :
    (Instr.makeSlice 71 (.int .i64 (l.length : Int)) (.int .i64 (l.length : Int))).run Try.prog w = .ok (.slice (some ⟨w.heap.size, 0, none⟩) l.length l.length) (w.alloc (.cells (rowsA l 0 0) 68)) := by
  rw [← rowsA_zero]
  exact Go.run_make_row' 71 68 (.int .u64 0) 8 Try.underlying71 info_uint rfl .i64 .i64 l.length (by omega) (by omega) w

structure BG (w0 w : World) (A : Option Addr) (c : Nat) (l : List It) (k q u : Nat) : Prop where
  blk : w.heap[w0.heap.size + 1 + 1]? = some (.cells #[.slice A l.length c, .slice (some ⟨w0.heap.size, 0, none⟩) l.length l.length, .int .u64 (maskTo (mustP l) u : Int), .map (some (w0.heap.size + 1))] 74 (0, 0))
  rows : w.heap[w0.heap.size]? = some (.cells (rowsA l k q) 68 (0, 0))
  dead : IsDead w (w0.heap.size + 1) []
  below : Below w0.heap.size w0 w
theorem IsDead.fr {S : Nat → Prop} {w w' : World} {b : Nat} {ks : List Spot} (h : IsDead w b ks) (hf : Fr S w w') (hS : ¬ S b) : IsDead w' b ks := by
  obtain ⟨es, cl, hb, h1, h2⟩ := h
  exact ⟨es, cl, (hf.block b (Array.getElem?_eq_some_iff.1 hb).1 hS).trans hb, h1, h2⟩
theorem BG.lt {w0 w : World} {A : Option Addr} {c : Nat} {l : List It} {k q u : Nat} (h : BG w0 w A c l k q u) : w0.heap.size + 1 + 1 < w.heap.size := (Array.getElem?_eq_some_iff.1 h.blk).1
theorem BG.below_of {w0 w w' : World} {A : Option Addr} {c : Nat} {l : List It} {k q u : Nat} (h : BG w0 w A c l k q u) (hB : Below w.heap.size w w') : BG w0 w' A c l k q u :=
  ⟨(hB.block _ h.lt).trans h.blk, (hB.block _ (by have := h.lt; omega)).trans h.rows, h.dead.fr (Fr.of_below hB (S := fun _ => False)) (fun h => h), h.below.trans (hB.mono h.below.size)⟩

theorem wrap_pow (k : Nat) (hk : k < 64) : IntKind.u64.wrap ((2 : Int) ^ k) = ((2 ^ k : Nat) : Int) := by
  have h : (2 : Nat) ^ k < 2 ^ 64 := Nat.pow_lt_pow_right (by decide) hk
  rw [IntKind.wrap_u64, show ((2 : Int) ^ k) = ((2 ^ k : Nat) : Int) by simp]
  generalize (2 : Nat) ^ k = m at *
  omega
theorem or_pow (m k : Nat) (hm : m < 2 ^ 24) (hk : k < 24) : bits .or .u64 (m : Int) (IntKind.u64.wrap ((2 : Int) ^ k)) = ((m ||| 2 ^ k : Nat) : Int) := by
  have h : (2 : Nat) ^ k < 2 ^ 24 := Nat.pow_lt_pow_right (by decide) hk
  rw [wrap_pow k (by omega), u64_or_nat m (2 ^ k) (by omega) (by omega)]
theorem BG.must {w0 w : World} {A : Option Addr} {c : Nat} {l : List It} {k q u : Nat} (h : BG w0 w A c l k q u) {v : Value} {u' : Nat} (hv : v = .int .u64 (maskTo (mustP l) u' : Int)) :
    BG w0 (w.setCell ⟨w0.heap.size + 1 + 1, 2, none⟩ v) A c l k q u' := by
  subst hv
  have hF : Fr (· = w0.heap.size + 1 + 1) w (w.setCell ⟨w0.heap.size + 1 + 1, 2, none⟩ (.int .u64 (maskTo (mustP l) u' : Int))) := (Fr.refl (· = w0.heap.size + 1 + 1) w).setCell (fun _ => rfl) _
  refine ⟨block_setCell h.blk _, (hF.block _ (by have := h.lt; omega) (by omega)).trans h.rows, h.dead.fr hF (by omega), h.below.trans (hF.below h.below.size (by intro j hj; omega))⟩
theorem BG.row {w0 w : World} {A : Option Addr} {c : Nat} {l : List It} {k q u : Nat} (h : BG w0 w A c l k q u) {v : Value} {q' : Nat} (hv : v = .int .u64 (maskTo (aheadP l k) q' : Int)) :
    BG w0 (w.setCell ⟨w0.heap.size, k, none⟩ v) A c l k q' u := by
  subst hv
  have hF : Fr (· = w0.heap.size) w (w.setCell ⟨w0.heap.size, k, none⟩ (.int .u64 (maskTo (aheadP l k) q' : Int))) := (Fr.refl (· = w0.heap.size) w).setCell (fun _ => rfl) _
  refine ⟨(hF.block _ h.lt (by omega)).trans h.blk, (block_setCell h.rows _).trans ?_, h.dead.fr hF (by omega), h.below.trans (hF.below h.below.size (by intro j hj; omega))⟩
  rw [show (rowsA l k q).setIfInBounds k (.int .u64 (maskTo (aheadP l k) q' : Int)) = rowsA l k q' from
    set_ofFn (fun j => .int .u64 (rowM l k q j : Int)) (fun j => .int .u64 (rowM l k q' j : Int)) k _ (by simp [rowM]) (by intro j _ hj; simp [rowM, hj])]
theorem BG.same {w0 w : World} {A : Option Addr} {c : Nat} {l : List It} {k q u q' u' : Nat} (h : BG w0 w A c l k q u) (hq : maskTo (aheadP l k) q' = maskTo (aheadP l k) q) (hu : maskTo (mustP l) u' = maskTo (mustP l) u) : BG w0 w A c l k q' u' := by
  obtain ⟨a, b, d, e⟩ := h
  have hr : rowsA l k q = rowsA l k q' := by
    unfold rowsA rowM
    rw [hq]
  exact ⟨hu ▸ a, hr ▸ b, d, e⟩
theorem BG.next {w0 w : World} {A : Option Addr} {c : Nat} {l : List It} {k u : Nat} (h : BG w0 w A c l k l.length u) : BG w0 w A c l (k + 1) 0 u := by
  obtain ⟨a, b, d, e⟩ := h
  exact ⟨a, by rw [rowsA_next]; exact b, d, e⟩
theorem BG.at_ {w0 w : World} {A : Option Addr} {c : Nat} {l : List It} {k q u : Nat} (h : BG w0 w A c l k q u) (hk : k < l.length) : w.cell? ⟨w0.heap.size, k, none⟩ = some (.int .u64 (maskTo (aheadP l k) q : Int)) := by
  rw [cell_of_block h.rows k]
  unfold rowsA
  rw [Array.getElem?_ofFn, dif_pos hk]
  simp [rowM]

set_option maxRecDepth 100000 in
set_option maxHeartbeats 1000000 in
theorem begin_any (A : Option Addr) (c : Nat) (l : List It) (w : World) (hv : Rd w (.slice A l.length c) l.length (itsV l)) (hn : l.length ≤ 24) :
    Calls Try.prog 21 #[.slice A l.length c] w fun e w' => e = .returned (.pointer (some ⟨w.heap.size + 1 + 1, 0, none⟩)) ∧
      w'.heap[w.heap.size + 1 + 1]? = some (.cells #[.slice A l.length c, .slice (some ⟨w.heap.size, 0, none⟩) l.length l.length, .int .u64 (maskTo (mustP l) l.length : Int), .map (some (w.heap.size + 1))] 74 (0, 0)) ∧
      w'.heap[w.heap.size]? = some (.cells (rowsA l l.length 0) 68 (0, 0)) ∧ IsDead w' (w.heap.size + 1) [] ∧ Below w.heap.size w w' := by
  have hmm := @run_makeMap Try.prog
  have hmk := make_rows l hn
  go_enter Try.func21, Try.ntmps21
  go_wp2
  have HR : BG w (((w.alloc (.cells (rowsA l 0 0) 68)).alloc (.map #[] 0)).alloc (.cells #[.slice A l.length c, .slice (some ⟨w.heap.size, 0, none⟩) l.length l.length, .int .u64 0, .map (some (w.heap.size + 1))] 74)) A c l 0 0 0 := by
    refine ⟨?_, (Below.heap_alloc _ _ _ (by simp; omega)).trans ((Below.heap_alloc _ _ _ (by simp)).trans (alloc_new w _)), ⟨#[], 0, (Below.heap_alloc _ _ _ (by simp)).trans ?_, rfl, by simp⟩, (((Below.refl _ w).alloc (Nat.le_refl _) _).alloc (by simp) _).alloc (by simp; omega) _⟩
    · have := alloc_new ((w.alloc (.cells (rowsA l 0 0) 68)).alloc (.map #[] 0)) (.cells #[.slice A l.length c, .slice (some ⟨w.heap.size, 0, none⟩) l.length l.length, .int .u64 0, .map (some (w.heap.size + 1))] 74)
      rwa [World.size_alloc, World.size_alloc] at this
    · have := alloc_new (w.alloc (.cells (rowsA l 0 0) 68)) (.map #[] 0)
      rwa [World.size_alloc] at this
  go_loopw [17] (fun i wr => ∃ k : Nat, k ≤ l.length ∧ i = .int .i64 k ∧ BG w wr A c l k 0 k) (fun i _ => l.length - (intOf i).toNat)
  case atStart => exact ⟨0, Nat.zero_le _, rfl, HR⟩
  case round =>
    clear HR
    obtain ⟨k, hk, rfl, hR⟩ := hrel
    by_cases hlt : k < l.length
    · rcases hv with ⟨h0, _⟩ | ⟨g, o, c', he, hg, hc⟩
      · omega
      · cases he
        have hi0 : (k : Int) < (l.length : Int) := by omega
        have c0 := (hR.below.cell (p := ⟨g, o + (k * 9 + 0), none⟩) hg).trans (hc _ _ (itsV_at hlt (i := 0) (by omega)))
        have c1 := (hR.below.cell (p := ⟨g, o + (k * 9 + 1), none⟩) hg).trans (hc _ _ (itsV_at hlt (i := 1) (by omega)))
        have c2 := (hR.below.cell (p := ⟨g, o + (k * 9 + 2), none⟩) hg).trans (hc _ _ (itsV_at hlt (i := 2) (by omega)))
        have c3 := (hR.below.cell (p := ⟨g, o + (k * 9 + 3), none⟩) hg).trans (hc _ _ (itsV_at hlt (i := 3) (by omega)))
        have c4 := (hR.below.cell (p := ⟨g, o + (k * 9 + 4), none⟩) hg).trans (hc _ _ (itsV_at hlt (i := 4) (by omega)))
        have c5 := (hR.below.cell (p := ⟨g, o + (k * 9 + 5), none⟩) hg).trans (hc _ _ (itsV_at hlt (i := 5) (by omega)))
        have c6 := (hR.below.cell (p := ⟨g, o + (k * 9 + 6), none⟩) hg).trans (hc _ _ (itsV_at hlt (i := 6) (by omega)))
        have c7 := (hR.below.cell (p := ⟨g, o + (k * 9 + 7), none⟩) hg).trans (hc _ _ (itsV_at hlt (i := 7) (by omega)))
        have c8 := (hR.below.cell (p := ⟨g, o + (k * 9 + 8), none⟩) hg).trans (hc _ _ (itsV_at hlt (i := 8) (by omega)))
        simp only [Nat.add_zero] at c0
        rw [← Nat.add_assoc] at c1 c2 c3 c4 c5 c6 c7 c8
        go_upto_if 24 with (fail)
        have hlw := hR.lt
        have hop := Lib.hid (itm_eq hlt)
        have HRa := hR.below_of ((Below.refl _ wr).alloc (Nat.le_refl _) (.cells (itC l[k]) 53))
        have hbox := alloc_new wr (.cells (itC l[k]) 53)
        go_cut [] (fun wx => BG w wx (some ⟨g, o, none⟩) c l k 0 (k + 1) ∧ wx.heap[wr.heap.size]? = some (.cells (itC l[k]) 53 (0, 0)))
        case first =>
          have b2 := cell_of_block hR.blk 2
          have f2 := free_of_block hR.blk 2
          simp only [List.getElem?_toArray, List.getElem?_cons_succ, List.getElem?_cons_zero] at b2
          cases hopen : l[k].open_
          · go_wp2
            go_region
            go_wp2
            go_meet
            have hm1 : maskTo (mustP l) (k + 1) = maskTo (mustP l) k ||| 2 ^ k := by
              show (if mustP l k then _ else _) = _
              rw [if_pos (by simp [mustP, itm_eq hlt, hopen])]
            rw [or_pow _ k (Nat.lt_of_lt_of_le (maskTo_lt _ _) (Nat.pow_le_pow_right (by decide) (by omega))) (by omega), ← hm1]
            have h1 := hR.must (v := .int .u64 ((maskTo (mustP l) (k + 1) : Nat) : Int)) rfl
            refine ⟨h1.below_of (((Below.refl _ _).alloc (Nat.le_refl _) _).drew), ?_⟩
            have := alloc_new (wr.setCell ⟨w.heap.size + 1 + 1, 2, none⟩ (.int .u64 ((maskTo (mustP l) (k + 1) : Nat) : Int))) (.cells (itC l[k]) 53)
            rw [World.size_setCell] at this
            simp only [itC, hopen] at this ⊢
            exact this
          · go_wp2
            go_meet
            have hm1 : maskTo (mustP l) (k + 1) = maskTo (mustP l) k := by
              show (if mustP l k then _ else _) = _
              rw [if_neg (by simp [mustP, itm_eq hlt, hopen])]
            refine ⟨(hR.below_of (((Below.refl _ _).alloc (Nat.le_refl _) _))).same rfl hm1, ?_⟩
            have := alloc_new wr (.cells (itC l[k]) 53)
            simp only [itC, hopen] at this ⊢
            exact this
        case rest =>
          obtain ⟨hB, hbx⟩ := hcut
          obtain ⟨bx, hbe⟩ : ∃ bx, bx = wr.heap.size := ⟨_, rfl⟩
          have hbg : w.heap.size + 1 + 1 < bx := by omega
          rw [← hbe] at hbx ⊢
          clear HRa hbox hlw c0 c1 c2 c3 c4 c5 c6 c7 c8 hR hbe hop
          go_wp2
          go_loopw [36] (fun i w2 => ∃ j : Nat, j ≤ l.length ∧ i = .int .i64 j ∧ BG w w2 (some ⟨g, o, none⟩) c l k j (k + 1) ∧ w2.heap[bx]? = some (.cells (itC l[k]) 53 (0, 0))) (fun i _ => l.length - (intOf i).toNat)
          case atStart => exact ⟨0, Nat.zero_le _, rfl, hB, hbx⟩
          case round =>
            obtain ⟨j, hj, rfl, hR, hbx⟩ := hrel
            by_cases hlt2 : j < l.length
            · have hi1 : (j : Int) < (l.length : Int) := by omega
              have c0 := (hR.below.cell (p := ⟨g, o + (j * 9 + 0), none⟩) hg).trans (hc _ _ (itsV_at hlt2 (i := 0) (by omega)))
              have c1 := (hR.below.cell (p := ⟨g, o + (j * 9 + 1), none⟩) hg).trans (hc _ _ (itsV_at hlt2 (i := 1) (by omega)))
              have c2 := (hR.below.cell (p := ⟨g, o + (j * 9 + 2), none⟩) hg).trans (hc _ _ (itsV_at hlt2 (i := 2) (by omega)))
              have c3 := (hR.below.cell (p := ⟨g, o + (j * 9 + 3), none⟩) hg).trans (hc _ _ (itsV_at hlt2 (i := 3) (by omega)))
              have c4 := (hR.below.cell (p := ⟨g, o + (j * 9 + 4), none⟩) hg).trans (hc _ _ (itsV_at hlt2 (i := 4) (by omega)))
              have c5 := (hR.below.cell (p := ⟨g, o + (j * 9 + 5), none⟩) hg).trans (hc _ _ (itsV_at hlt2 (i := 5) (by omega)))
              have c6 := (hR.below.cell (p := ⟨g, o + (j * 9 + 6), none⟩) hg).trans (hc _ _ (itsV_at hlt2 (i := 6) (by omega)))
              have c7 := (hR.below.cell (p := ⟨g, o + (j * 9 + 7), none⟩) hg).trans (hc _ _ (itsV_at hlt2 (i := 7) (by omega)))
              have c8 := (hR.below.cell (p := ⟨g, o + (j * 9 + 8), none⟩) hg).trans (hc _ _ (itsV_at hlt2 (i := 8) (by omega)))
              simp only [Nat.add_zero] at c0
              rw [← Nat.add_assoc] at c1 c2 c3 c4 c5 c6 c7 c8
              have x0 := (cell_of_block hbx 0)
              have x1 := (cell_of_block hbx 1)
              have x2 := (cell_of_block hbx 2)
              have x3 := (cell_of_block hbx 3)
              have x4 := (cell_of_block hbx 4)
              have x5 := (cell_of_block hbx 5)
              have x6 := (cell_of_block hbx 6)
              have x7 := (cell_of_block hbx 7)
              have x8 := (cell_of_block hbx 8)
              simp only [itC, List.getElem?_toArray, List.getElem?_cons_succ, List.getElem?_cons_zero] at x0 x1 x2 x3 x4 x5 x6 x7 x8
              have hbl : bx < wr.heap.size := (Array.getElem?_eq_some_iff.1 hbx).1
              have hlw := hR.lt
              have HB1 := hR.below_of ((Below.refl _ wr).alloc (Nat.le_refl _) (.cells (itC l[j]) 53))
              have hms : maskTo (aheadP l k) (j + 1) = if aheadP l k j then maskTo (aheadP l k) j ||| 2 ^ j else maskTo (aheadP l k) j := rfl
              by_cases hjk : j = k
              · have t1 : ((j : Int) != (k : Int)) = false := by simp [hjk]
                rw [show aheadP l k j = false by simp [aheadP, hjk], if_neg (by simp)] at hms
                replace hjk := Lib.hid hjk
                replace hms := Lib.hid hms
                go_wp2
                go_round
                case rel => exact ⟨j + 1, by omega, rfl, (HB1).same hms.out rfl, (Below.heap_alloc _ _ _ hbl).trans hbx⟩
                case measure => simp [intOf]; omega
              · have t1 : ((j : Int) != (k : Int)) = true := by rw [bne_iff_ne]; omega
                rw [show aheadP l k j = ahead l[j] l[k] by simp [aheadP, hjk, itm_eq hlt2, itm_eq hlt]] at hms
                replace hjk := Lib.hid hjk
                cases ha : ahead l[j] l[k]
                · rw [ha, if_neg (by simp)] at hms
                  replace hms := Lib.hid hms
                  go_wp2_with (first | (go_at_call 18; refine (ahead_any l[j] l[k] _).mono ?_; rintro e w' ⟨rfl, hb⟩; rw [ha]))
                  go_roundw
                  case rel => exact ⟨j + 1, by omega, rfl, (HB1.below_of hb).same hms.out rfl, (hb.block _ (by simp; omega)).trans ((Below.heap_alloc _ _ _ hbl).trans hbx)⟩
                  case measure => simp [intOf]; omega
                · rw [ha, if_pos rfl] at hms
                  have hor := or_pow (maskTo (aheadP l k) j) j (Nat.lt_of_lt_of_le (maskTo_lt _ _) (Nat.pow_le_pow_right (by decide) (by omega))) (by omega)
                  rw [← hms] at hor
                  replace hms := Lib.hid hms
                  replace hor := Lib.hid hor
                  go_wp2_with (first | (go_at_call 18; refine (ahead_any l[j] l[k] _).mono ?_; rintro e w' ⟨rfl, hb⟩; rw [ha]))
                  have HB2 := HB1.below_of hb
                  have hbx2 := (hb.block bx (by simp; omega)).trans ((Below.heap_alloc _ _ _ hbl).trans hbx)
                  have b1 := cell_of_block HB2.blk 1
                  have f1 := free_of_block HB2.rows k
                  have a1 := HB2.at_ hlt
                  simp only [List.getElem?_toArray, List.getElem?_cons_succ, List.getElem?_cons_zero] at b1
                  go_region
                  go_wp2
                  go_roundw
                  case rel =>
                    rw [hor.out]
                    exact ⟨j + 1, by omega, rfl, ((HB2.row (v := .int .u64 ((maskTo (aheadP l k) (j + 1) : Nat) : Int)) rfl).below_of ((Below.refl _ _).drew)), (Below.heap_setCell _ _ _ _ (by simp; omega)).trans hbx2⟩
                  case measure => simp [intOf]; omega
            · have he : j = l.length := by omega
              subst he
              go_wp2
              go_roundw
              case rel => exact ⟨k + 1, by omega, rfl, hR.next⟩
              case measure => simp [intOf]; omega
    · have he : k = l.length := by omega
      subst he
      go_wp2
      go_ret
      exact ⟨rfl, hR.blk, hR.rows, hR.dead, hR.below⟩
end Go.Proofs.Ytbengfmoimlnbaa
