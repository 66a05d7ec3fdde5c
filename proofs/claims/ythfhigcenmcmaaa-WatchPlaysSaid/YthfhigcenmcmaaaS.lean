/- The walk through the law's pairs: two lists of pairs, the same or not. -/
import Derived.RegionTactic
import Derived.Deep.QuietTactic
import Derived.BigQuiet
import Derived.Test.YthfhigcenmcmaaaD
namespace Go.Proofs.Ythfhigcenmcmaaa
open Go.RowKit

theorem pairV_at {l : List (Nat × Nat)} {k : Nat} (h : k < l.length) : (pairV l)[k * 2]? = some (.int .i64 (l[k].1 : Int)) ∧ (pairV l)[k * 2 + 1]? = some (.int .i64 (l[k].2 : Int)) := by
  induction l generalizing k with
  | nil => cases h
  | cons p l ih =>
    cases k with
    | zero => exact ⟨rfl, rfl⟩
    | succ k =>
      have := ih (k := k) (by simpa using h)
      simp only [pairV, List.flatMap_cons, List.cons_append, List.nil_append, List.getElem_cons_succ] at this ⊢
      rw [show (k + 1) * 2 = k * 2 + 1 + 1 by omega, List.getElem?_cons_succ, List.getElem?_cons_succ, List.getElem?_cons_succ, List.getElem?_cons_succ]
      exact this

theorem equal_pair (d : Nat) (a1 a2 b1 b2 : Int) (w : World) : (Op.equalIn (d + 2) 37 (.agg #[.int .i64 a1, .int .i64 a2]) (.agg #[.int .i64 b1, .int .i64 b2])).run Try.prog w = .ok (a1 == b1 && a2 == b2) w := by
  have hn : ∀ w, (sizeOf 3).run Try.prog w = .ok 1 w := fun _ => by kernel_rfl
  rw [run_equalIn_array w (d + 1) 37 3 2 1 _ _ Try.underlying37 hn]
  by_cases h1 : a1 = b1 <;> by_cases h2 : a2 = b2 <;> simp [eqElems, go_sem, h1, h2, List.range']

set_option maxHeartbeats 400000 in
theorem same_len (A A' : Option Addr) (n n' c c' : Nat) (w : World) (hlen : ((n : Int) != (n' : Int)) = true) :
    Calls Try.prog 26 #[.slice A n c, .slice A' n' c'] w fun e w' => e = .returned (.bool false) ∧ Below w.heap.size w w' := by
  go_enter Try.func26, Try.ntmps26
  go_wp2
  go_ret
  exact ⟨rfl, Below.refl _ _⟩

set_option maxHeartbeats 400000 in
theorem same_none (A A' : Option Addr) (c c' : Nat) (w : World) :
    Calls Try.prog 26 #[.slice A 0 c, .slice A' 0 c'] w fun e w' => e = .returned (.bool true) ∧ Below w.heap.size w w' := by
  go_enter Try.func26, Try.ntmps26
  go_wp2
  refine wp_loop_rounds 1 ?_
  rw [rounds_succ]
  go_wp2
  go_ret
  exact ⟨rfl, Below.refl _ _⟩

set_option maxHeartbeats 1000000 in
theorem same_full (g o c g' o' c' : Nat) (l l' : List (Nat × Nat)) (w : World) (hg : g < w.heap.size) (hg' : g' < w.heap.size)
    (hc : ∀ j u, (pairV l)[j]? = some u → w.cell? ⟨g, o + j, none⟩ = some u) (hc' : ∀ j u, (pairV l')[j]? = some u → w.cell? ⟨g', o' + j, none⟩ = some u)
    (HL : Hid (l.length = l'.length)) (hl64 : l.length ≤ 9223372036854775807) :
    Calls Try.prog 26 #[.slice (some ⟨g, o, none⟩) l.length c, .slice (some ⟨g', o', none⟩) l.length c'] w fun e w' => e = .returned (.bool (decide (l = l'))) ∧ Below w.heap.size w w' := by
  have hq := equal_pair
  go_enter Try.func26, Try.ntmps26
  go_wp2
  go_loopw [5] (fun i wr => ∃ k : Nat, k ≤ l.length ∧ i = .int .i64 k ∧ Hid (l.take k = l'.take k) ∧ Below w.heap.size w wr) (fun i _ => l.length - (intOf i).toNat)
  case atStart => exact ⟨0, Nat.zero_le _, rfl, rfl, Below.refl _ _⟩
  case round =>
    obtain ⟨k, hk, rfl, ht, hB⟩ := hrel
    by_cases hlt : k < l.length
    · have hlt' : k < l'.length := by rw [← HL.out]; exact hlt
      have h1 := (hB.cell (p := ⟨g, o + k * 2, none⟩) hg).trans (hc _ _ (pairV_at hlt).1)
      have h2 := (hB.cell (p := ⟨g, o + (k * 2 + 1), none⟩) hg).trans (hc _ _ (pairV_at hlt).2)
      have h3 := (hB.cell (p := ⟨g', o' + k * 2, none⟩) hg').trans (hc' _ _ (pairV_at hlt').1)
      have h4 := (hB.cell (p := ⟨g', o' + (k * 2 + 1), none⟩) hg').trans (hc' _ _ (pairV_at hlt').2)
      rw [← Nat.add_assoc] at h2 h4
      clear hc hc'
      have ha : Hid (l[k].1 = l'[k].1 → l[k].2 = l'[k].2 → l.take (k + 1) = l'.take (k + 1)) := fun e1 e2 => take_succ_eq hlt hlt' ht (Prod.ext e1 e2)
      have hb : Hid (l = l' → l[k].1 = l'[k].1 ∧ l[k].2 = l'[k].2) := fun e => by subst e; exact ⟨rfl, rfl⟩
      generalize l[k].1 = a1 at *
      generalize l[k].2 = a2 at *
      generalize l'[k].1 = b1 at *
      generalize l'[k].2 = b2 at *
      have hi0 : (k : Int) < (l.length : Int) := by omega
      by_cases e1 : a1 = b1
      · have e1' : ((a1 : Int) == (b1 : Int)) = true := by rw [e1]; simp
        have E1 := Lib.hid e1
        clear e1
        by_cases e2 : a2 = b2
        · have e2' : ((a2 : Int) == (b2 : Int)) = true := by rw [e2]; simp
          have E2 := Lib.hid e2
          clear e2
          go_wp2
          go_quiet (fail)
          go_wp2
          go_roundw
          case rel => exact ⟨k + 1, by omega, by go_num, ha.out E1.out E2.out, below_drewN hB _⟩
          case measure => simp [intOf]; omega
        · have e2' : ((a2 : Int) == (b2 : Int)) = false := by rw [beq_eq_false_iff_ne]; omega
          have E2 := Lib.hid e2
          clear e2
          go_wp2
          go_quiet (fail)
          go_wp2
          go_ret
          exact ⟨ret_bool (by rw [eq_comm, decide_eq_false_iff_not]; exact fun e => E2.out (hb.out e).2), below_drewN hB _⟩
      · have e1' : ((a1 : Int) == (b1 : Int)) = false := by rw [beq_eq_false_iff_ne]; omega
        have E1 := Lib.hid e1
        clear e1
        go_wp2
        go_quiet (fail)
        go_wp2
        go_ret
        exact ⟨ret_bool (by rw [eq_comm, decide_eq_false_iff_not]; exact fun e => E1.out (hb.out e).1), below_drewN hB _⟩
    · have he : Hid (l = l') := by
        have h1 : k = l.length := by omega
        have h2 := ht.out
        rw [h1, List.take_length, HL.out, List.take_length] at h2
        exact h2
      go_wp2
      go_ret
      exact ⟨ret_bool (by rw [eq_comm, decide_eq_true_eq]; exact he.out), hB⟩

/-- Two lists of pairs: the same or not. -/
theorem same_any (v v' : Value) (l l' : List (Nat × Nat)) (w : World) (h : Rd w v l.length (pairV l)) (h' : Rd w v' l'.length (pairV l')) (hl : l.length ≤ 9223372036854775807) :
    Calls Try.prog 26 #[v, v'] w fun e w' => e = .returned (.bool (decide (l = l'))) ∧ Below w.heap.size w w' := by
  by_cases hlen : l.length = l'.length
  · rcases h with ⟨h0, _, A, c, rfl⟩ | ⟨g, o, c, rfl, hg, hc⟩
    · have e : l = [] := List.eq_nil_of_length_eq_zero h0
      have e' : l' = [] := List.eq_nil_of_length_eq_zero (by rw [← hlen]; exact h0)
      subst e e'
      obtain ⟨A', c', rfl⟩ := h'.slice
      exact same_none A A' c c' w
    · rcases h' with ⟨h0, _, A, c', rfl⟩ | ⟨g', o', c', rfl, hg', hc'⟩
      · have e' : l' = [] := List.eq_nil_of_length_eq_zero h0
        have e : l = [] := List.eq_nil_of_length_eq_zero (by rw [hlen]; exact h0)
        subst e e'
        exact same_none _ A c c' w
      · rw [← hlen]
        exact same_full g o c g' o' c' l l' w hg hg' hc hc' hlen hl
  · obtain ⟨A, c, rfl⟩ := h.slice
    obtain ⟨A', c', rfl⟩ := h'.slice
    rw [show decide (l = l') = false from decide_eq_false (fun h => hlen (by rw [h]))]
    exact same_len A A' _ _ c c' w (by rw [bne_iff_ne]; omega)
end Go.Proofs.Ythfhigcenmcmaaa
