/- The walk through LinearSizes, and what is told of n Gets in a row. -/
import Derived.Deep.DeepCutAuto
import Derived.Deep.CutBlock
import Derived.Deep.RegionHeld3
import Derived.Deep.RegionLaw
import Derived.Test.YtbengfmoimlnbaaKW
namespace Go.Proofs.Ytbengfmoimlnbaa
open Go.RowKit

def getI (o : Bool) (i : Nat) : It := ⟨1, i, i, o, ⟨#[]⟩, An.none⟩
def getL (o : Bool) (n : Nat) : List It := (List.range n).map (getI o)
theorem getL_length (o : Bool) (n : Nat) : (getL o n).length = n := by simp [getL]
theorem getL_itm {o : Bool} {n i : Nat} (h : i < n) : itm (getL o n) i = getI o i := by
  rw [itm_eq (by rw [getL_length]; exact h)]
  simp [getL]
theorem getL_succ (o : Bool) (n : Nat) : itsV (getL o (n + 1)) = itsV (getL o n) ++ (getI o n).enc := by
  simp [getL, List.range_succ, itsV]
theorem getL_chain (o : Bool) (n : Nat) : ∀ q : List Nat, (∀ i ∈ q, i < n) → Chain (getL o n) St.zero q
  | [], _ => trivial
  | i :: q, h => by
    have hi := h i List.mem_cons_self
    refine ⟨?_, ?_⟩
    · unfold fits
      rw [getL_itm hi]
      simp [getI, doesA, readA, St.zero, anEq_self]
    · have : play (getL o n) St.zero i = St.zero := by
        unfold play
        rw [getL_itm hi]
        rfl
      rw [this]
      exact getL_chain o n q fun j hj => h j (List.mem_cons_of_mem _ hj)
theorem getL_fits (o : Bool) (n : Nat) : (S (getL o n) 0 St.zero).isSome = true := by
  refine S_complete _ (List.range n) 0 _ List.nodup_range ?_ ?_ ?_ (getL_chain o n _ fun i hi => List.mem_range.1 hi)
  · intro i hi
    rw [getL_length]
    exact ⟨List.mem_range.1 hi, by simp⟩
  · intro i hi _
    rw [getL_length] at hi
    exact .inr (List.mem_range.2 hi)
  · refine List.Pairwise.imp_of_mem ?_ List.pairwise_lt_range
    intro i k hi hk hlt
    rw [getL_itm (List.mem_range.1 hi), getL_itm (List.mem_range.1 hk)]
    have : ¬ (k : Int) < (i : Int) := by omega
    simp [ahead, getI, this]
/-- A way of items none of which is open tells all that are left. -/
theorem way_full {l : List It} (ho : ∀ i, i < l.length → mustP l i = true) {m : Nat} {s : St} {q : List Nat} (h : Way l m s q) : cnt l.length m + q.length = l.length := by
  induction h with
  | done m s hl =>
    have : ∀ n, n ≤ l.length → cnt n m = n := by
      intro n
      induction n with
      | zero => intro _; rfl
      | succ n ih =>
        intro hn
        have hb : m.testBit n = true := by
          unfold left at hl
          rw [List.any_eq_false] at hl
          have := hl n (List.mem_range.2 (by omega))
          rw [ho n (by omega)] at this
          simpa using this
        have := ih (by omega)
        unfold cnt at this ⊢
        rw [List.range_succ, List.countP_append, this, List.countP_singleton, hb, if_pos rfl]
    rw [this _ (Nat.le_refl _)]; rfl
  | step m s i q hi hc hw ih =>
    rw [cnt_set hi (can_bit hc)] at ih
    rw [List.length_cons]; omega
theorem getL_ok (o : Bool) (n : Nat) : okR (getL o n) = true := getL_fits o n
theorem getL_ordE (o : Bool) (n : Nat) : ordE (getL o n) = 0 := by
  unfold ordE
  rw [getL_fits]; rfl
theorem getL_full (n : Nat) : (ordR (getL false n)).length = n := by
  unfold ordR
  have h := getL_fits false n
  cases hS : S (getL false n) 0 St.zero with
  | none => rw [hS] at h; cases h
  | some q =>
    have := way_full (l := getL false n) (fun i hi => by rw [getL_length] at hi; simp [mustP, getL_itm hi, getI]) (S_sound _ _ _ _ _ rfl hS)
    rw [getL_length] at this
    have h0 : cnt n 0 = 0 := by simp [cnt]
    rw [h0] at this
    simpa using this
theorem sizes_fact (n : Int) : ∃ N : Nat, N < 40 ∧ (wrap64 (n.tmod 40 + 40)).tmod 40 = (N : Int) := by
  have h1 : n.tmod 40 < 40 := Int.tmod_lt_of_pos n (by decide)
  have h2 : -40 < n.tmod 40 := Int.lt_tmod_of_pos n (b := 40) (by decide)
  have h3 : wrap64 (n.tmod 40 + 40) = n.tmod 40 + 40 := by unfold wrap64; omega
  rw [h3]
  have h4 : (n.tmod 40 + 40).tmod 40 = (n.tmod 40 + 40) % 40 := Int.tmod_eq_emod_of_nonneg (by omega)
  rw [h4]
  exact ⟨((n.tmod 40 + 40) % 40).toNat, by omega, by omega⟩

set_option maxHeartbeats 1000000 in
theorem sizes_walk (w : World) (n : Int) (_ : (Lit.int .i64 n).wf = true) (o : Bool) :
    Calls Try.prog 5 #[.int .i64 n, .bool o] w fun e w' => e = .returned (.bool true) ∧ Below w.heap.size w w' := by
  obtain ⟨i0, hi, hz0, hz1, hz2⟩ := info_parts info_item
  obtain ⟨N, hN, hNe⟩ := sizes_fact n
  go_enter Try.func5, Try.ntmps5
  go_wp2
  try rw [hNe]
  go_loopw [5, 6] (fun v i wr => ∃ k : Nat, k ≤ N ∧ i = .int .i64 k ∧ wr.ownsRow w.heap.size 53 9 v k (itsV (getL o k)) ∧ Below w.heap.size w wr)
    (fun _ i _ => N - (intOf i).toNat)
  case atStart => exact ⟨0, Nat.zero_le _, rfl, World.ownsRow_nil _ _ _ _, Below.refl _ _⟩
  case round =>
    obtain ⟨k, hk, rfl, hown, hnx⟩ := hrel
    by_cases hlt : k < N
    · obtain ⟨A2, c2, rfl, _⟩ := own_slice hown
      have hi0 : (k : Int) < (N : Int) := by omega
      go_wp2_with (at_builtin; refine wpList_append_own _ rfl _ _ 29 rfl w.heap.size 53 i0 _ 9 88 Try.underlying29 hi hz0 hz1 hz2 rfl (by decide) _ _ _ rfl (hown.alloc (.cells (getI o k).enc.toArray 53)) ⟨wr.heap.size, 0, none⟩ 1 1 (getI o k).enc rfl rfl (cells_new wr (getI o k).enc _) (enc_one (getI o k)) ?c3 ?c4 ?c5 ?_)
      case c3 => unfold maxLen; omega
      case c4 => omega
      case c5 => have := hnx.size; simp; omega
      intro v' w1 hown' hgrow _
      have hb1 : Below w.heap.size w w1 := (hnx.alloc hnx.size _).grown hgrow (by have := hnx.size; simp; omega) (own_base hown)
      go_wp2
      go_roundw
      case rel => exact ⟨k + 1, by omega, rfl, by rw [getL_succ]; exact hown', hb1⟩
      case measure => simp [intOf]; omega
    · obtain rfl : k = N := by omega
      have hrd := Rd.of_own hown
      obtain ⟨A2, c2, rfl, _⟩ := own_slice hown
      have hnx := Lib.hid hnx
      by_cases hbig : 24 < k
      · have hd : decide ((24 : Int) < (k : Int)) = true := decide_eq_true (by omega)
        go_wp2_with (first
          | (go_at_call 13; refine (check_big A2 k c2 _ hbig).mono ?_; rintro e w1 ⟨rfl, rfl⟩)
          | (go_at_call 10; refine (order_big A2 k c2 _ hbig).mono ?_; rintro e w1 ⟨rfl, rfl⟩)
          | (go_at_call 14; refine (num_any _ _).mono ?_; rintro e w1 ⟨rfl, rfl⟩)
          | (go_at_call 9; refine (knows_any _).mono ?_; rintro e w1 ⟨rfl, hbk⟩))
        go_ret
        exact ⟨rfl, hnx.out.trans (hbk.mono hnx.out.size)⟩
      · have hd : decide ((24 : Int) < (k : Int)) = false := decide_eq_false (by omega)
        have C := fun w (h : Rd w (.slice A2 k c2) k (itsV (getL o k))) => check_any A2 c2 (getL o k) w (by rw [getL_length]; exact h) (by rw [getL_length]; omega)
        have D := fun w (h : Rd w (.slice A2 k c2) k (itsV (getL o k))) => order_any A2 c2 (getL o k) w (by rw [getL_length]; exact h) (by rw [getL_length]; omega)
        simp only [getL_length, getL_ok, getL_ordE] at C D
        cases o
        · simp only [getL_full] at D
          go_wp2_with (first
            | (go_at_call 13; refine (C _ hrd).mono ?_; rintro e w1 ⟨rfl, hb1⟩)
            | (go_at_call 10; refine (D _ (hrd.below hb1)).mono ?_; rintro e w2 ⟨v2, rfl, hown2, hb2⟩; obtain ⟨A3, c3, rfl, _⟩ := own_slice hown2; replace hown2 := Lib.hid hown2)
            | (go_at_call 14; refine (num_any _ _).mono ?_; rintro e w1 ⟨rfl, rfl⟩)
            | (go_at_call 9; refine (knows_any _).mono ?_; rintro e w3 ⟨rfl, hbk⟩))
          go_ret
          have h1 := hnx.out.trans (hb1.mono hnx.out.size)
          have h2 := h1.trans (hb2.mono h1.size)
          exact ⟨rfl, h2.trans (hbk.mono h2.size)⟩
        · go_wp2_with (first
            | (go_at_call 13; refine (C _ hrd).mono ?_; rintro e w1 ⟨rfl, hb1⟩)
            | (go_at_call 10; refine (D _ (hrd.below hb1)).mono ?_; rintro e w2 ⟨v2, rfl, hown2, hb2⟩; obtain ⟨A3, c3, rfl, _⟩ := own_slice hown2; replace hown2 := Lib.hid hown2)
            | (go_at_call 14; refine (num_any _ _).mono ?_; rintro e w1 ⟨rfl, rfl⟩)
            | (go_at_call 9; refine (knows_any _).mono ?_; rintro e w3 ⟨rfl, hbk⟩))
          go_ret
          have h1 := hnx.out.trans (hb1.mono hnx.out.size)
          have h2 := h1.trans (hb2.mono h1.size)
          exact ⟨rfl, h2.trans (hbk.mono h2.size)⟩
end Go.Proofs.Ytbengfmoimlnbaa
