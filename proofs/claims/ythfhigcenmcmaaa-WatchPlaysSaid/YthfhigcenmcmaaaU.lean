/- The law WatchSure, walked: acts, then all that is due. -/
import Derived.Deep.RegionHeld3
import Derived.Test.YthfhigcenmcmaaaK
import Derived.Test.YthfhigcenmcmaaaTY
namespace Go.Proofs.Ythfhigcenmcmaaa
open Go.RowKit

def actV (l : List D_glebelaw21_Act) : List Value := l.flatMap D_glebelaw21_Act.enc
theorem actV_at {l : List D_glebelaw21_Act} {k i : Nat} (h : k < l.length) (hi : i < 5) : (actV l)[k * 5 + i]? = l[k].enc[i]? := by
  induction l generalizing k with
  | nil => cases h
  | cons p l ih =>
    cases k with
    | zero =>
      simp only [actV, List.flatMap_cons, Nat.zero_mul, Nat.zero_add, List.getElem_cons_zero]
      rw [List.getElem?_append_left (by simpa [D_glebelaw21_Act.enc] using hi)]
    | succ k =>
      have := ih (k := k) (by simpa using h)
      simp only [actV, List.flatMap_cons, List.getElem_cons_succ] at this ⊢
      rw [List.getElem?_append_right (by simp [D_glebelaw21_Act.enc]; omega), ← this]
      congr 1
      simp [D_glebelaw21_Act.enc]; omega

/-- Nobody knows of one that runs. -/
def WS.sure (s : WS) : Prop := ∀ i j, s.td i j = true → s.st j = true
theorem WS.sure_init (n : Int) : (WS.init n).sure := fun i j h => by simp [WS.init] at h
theorem WS.sure_stop {s : WS} (h : s.sure) (n : Int) : (s.stopS n).sure := by
  unfold WS.stopS
  split
  · intro i j hij
    have := h i j hij
    simp [WS.stop, this]
  · exact h
theorem WS.sure_tell {s : WS} (h : s.sure) (a b : Int) : (s.tellS a b).sure := by
  unfold WS.tellS
  split
  · rename_i hr
    intro i j hij
    simp only [WS.tell] at hij ⊢
    split at hij
    · rename_i e
      rw [e.2]
      unfold WS.tellR at hr
      split at hr
      · split at hr
        · assumption
        · exact absurd hr (by decide)
      · exact absurd hr (by decide)
    · exact h i j hij
  · exact h
theorem WS.sure_says {s : WS} (h : s.sure) (a b : Int) (hk : s.knows a b = true) : s.runs b = false := by
  unfold WS.knows at hk
  split at hk
  · rename_i e
    have := h _ _ hk
    simp [WS.runs, this]
  · cases hk
def WS.play (s : WS) (x : D_glebelaw21_Act) : WS := if x.kind = 0 then s.stopS x.a else s.tellS x.a x.b
theorem WS.sure_play {s : WS} (h : s.sure) (x : D_glebelaw21_Act) : (s.play x).sure := by
  unfold WS.play; split
  · exact sure_stop h _
  · exact sure_tell h _ _
theorem WS.play_N (s : WS) (x : D_glebelaw21_Act) : (s.play x).N = s.N := by
  unfold WS.play WS.stopS WS.tellS; split <;> split <;> rfl

/-! ### telling all that is due -/
def pnum (p : Nat × Nat) : Nat := p.1 * 8 + p.2
def Sorted (m : Nat) (l : List (Nat × Nat)) : Prop := l.Pairwise (fun p q => pnum p < pnum q) ∧ ∀ p ∈ l, pnum p < m
theorem sorted_row {N i : Nat} (h : Sorted (i * 8) (pairsTo N i 0)) : ∀ k, Sorted (i * 8 + k) (pairsTo N i k) := by
  intro k
  induction k with
  | zero => exact h
  | succ k ih =>
    by_cases e : k = i
    · subst e
      rw [pairsTo_eq]
      exact ⟨ih.1, fun p hp => by have := ih.2 p hp; omega⟩
    · rw [pairsTo_ne e]
      refine ⟨List.pairwise_append.2 ⟨ih.1, List.pairwise_singleton _ _, fun p hp q hq => ?_⟩, fun p hp => ?_⟩
      · rw [List.mem_singleton] at hq; subst hq
        exact ih.2 p hp
      · rcases List.mem_append.1 hp with hp | hp
        · have := ih.2 p hp; omega
        · rw [List.mem_singleton] at hp; subst hp
          show i * 8 + k < _; omega
theorem sorted_all {N : Nat} (hN : N ≤ 8) : ∀ i, Sorted (i * 8) (pairsTo N i 0) := by
  intro i
  induction i with
  | zero => rw [pairsTo_zero]; exact ⟨List.Pairwise.nil, fun p hp => by cases hp⟩
  | succ i ih =>
    rw [pairsTo_next]
    have := sorted_row ih N
    exact ⟨this.1, fun p hp => by have := this.2 p hp; omega⟩
theorem mem_pairs {N : Nat} (p : Nat × Nat) : p ∈ pairsTo N N 0 ↔ p.1 < N ∧ p.2 < N ∧ p.2 ≠ p.1 := by
  obtain ⟨a, b⟩ := p
  simp only [pairsTo, List.mem_append, List.mem_flatMap, List.mem_range, List.mem_map, List.mem_filter, decide_eq_true_eq, Prod.mk.injEq, Nat.not_lt_zero, false_and, exists_false, or_false]
  constructor
  · rintro ⟨i, hi, c, ⟨hc, hne⟩, rfl, rfl⟩
    exact ⟨hi, hc, hne⟩
  · rintro ⟨h1, h2, h3⟩
    exact ⟨a, h1, b, ⟨h2, h3⟩, rfl, rfl⟩

def WS.tellL (s : WS) (l : List (Nat × Nat)) : WS := l.foldl (fun s p => s.tell p.1 p.2) s
theorem WS.tellL_snoc (s : WS) (l : List (Nat × Nat)) (p : Nat × Nat) : s.tellL (l ++ [p]) = (s.tellL l).tell p.1 p.2 := by simp [WS.tellL]
theorem WS.tellL_N (s : WS) (l : List (Nat × Nat)) : (s.tellL l).N = s.N := by
  induction l generalizing s with
  | nil => rfl
  | cons p l ih => exact ih _
theorem WS.tellL_st (s : WS) (l : List (Nat × Nat)) : (s.tellL l).st = s.st := by
  induction l generalizing s with
  | nil => rfl
  | cons p l ih => exact ih _
theorem WS.tellL_td (s : WS) (l : List (Nat × Nat)) (i j : Nat) : (s.tellL l).td i j = (s.td i j || decide ((i, j) ∈ l)) := by
  induction l generalizing s with
  | nil => simp [WS.tellL]
  | cons p l ih =>
    show ((s.tell p.1 p.2).tellL l).td i j = _
    rw [ih]
    by_cases h : i = p.1 ∧ j = p.2
    · simp [WS.tell, h]
    · have : (i, j) ≠ p := fun e => h (by subst e; exact ⟨rfl, rfl⟩)
      have e1 : (s.tell p.1 p.2).td i j = s.td i j := by simp only [WS.tell]; rw [if_neg h]
      rw [e1]
      simp [this]
theorem WS.ok_nat (s : WS) (i : Nat) : s.ok (i : Int) ↔ i < s.N.toNat := by unfold WS.ok; omega
theorem WS.mem_due (s : WS) (p : Nat × Nat) : p ∈ s.due ↔ (p.1 < s.N.toNat ∧ p.2 < s.N.toNat ∧ p.2 ≠ p.1) ∧ s.dueB p = true := by
  unfold WS.due WS.dueF
  rw [List.mem_filter, mem_pairs]
theorem WS.due_sorted (s : WS) (hw : s.wf) : s.due.Pairwise (fun p q => pnum p < pnum q) := by
  have hN : s.N.toNat ≤ 8 := by have := hw.2; omega
  exact (sorted_all hN s.N.toNat).1.sublist (List.filter_sublist)
theorem WS.due_step (s : WS) (hw : s.wf) {k : Nat} (hk : k < s.due.length) :
    (s.tellL (s.due.take k)).tellR (s.due[k].1 : Int) (s.due[k].2 : Int) = 0 ∧
      (s.tellL (s.due.take k)).tellS (s.due[k].1 : Int) (s.due[k].2 : Int) = s.tellL (s.due.take (k + 1)) ∧
      (s.tellL (s.due.take (k + 1))).tellR (s.due[k].1 : Int) (s.due[k].2 : Int) = 4 := by
  obtain ⟨⟨h1, h2, h3⟩, hd⟩ := (s.mem_due _).1 (List.getElem_mem hk)
  have hp := List.pairwise_iff_getElem.1 (s.due_sorted hw)
  have hnot : s.due[k] ∉ s.due.take k := by
    intro hm
    obtain ⟨i, hi, e⟩ := List.getElem_of_mem hm
    rw [List.length_take] at hi
    rw [List.getElem_take] at e
    have := hp i k (by omega) hk (by omega)
    rw [e] at this; omega
  rw [List.take_succ_eq_append_getElem hk, WS.tellL_snoc]
  generalize s.due[k] = p at *
  obtain ⟨a, b⟩ := p
  simp only at h1 h2 h3
  have o1 := (s.ok_nat a).2 h1
  have o2 := (s.ok_nat b).2 h2
  simp only [WS.dueB, WS.runs, WS.knows, o1, o2, and_self, if_true, Int.toNat_natCast, Bool.and_eq_true, Bool.not_eq_true', Bool.not_eq_false'] at hd
  obtain ⟨⟨g1, g2⟩, g3⟩ := hd
  generalize hq : s.tellL (s.due.take k) = q
  have q1 : q.ok (a : Int) := by unfold WS.ok; rw [← hq, WS.tellL_N]; exact o1
  have q2 : q.ok (b : Int) := by unfold WS.ok; rw [← hq, WS.tellL_N]; exact o2
  have q3 : q.st a = false := by rw [← hq, WS.tellL_st]; exact g1
  have q4 : q.st b = true := by rw [← hq, WS.tellL_st]; exact g2
  have q5 : q.td a b = false := by rw [← hq, WS.tellL_td]; simp [g3, hnot]
  have hne : (a : Int) ≠ (b : Int) := by omega
  have r0 : q.tellR (a : Int) (b : Int) = 0 := by simp [WS.tellR, q1, q2, hne, q3, q4, q5]
  refine ⟨r0, by simp [WS.tellS, r0], ?_⟩
  have t1 : (q.tell a b).ok (a : Int) := q1
  have t2 : (q.tell a b).ok (b : Int) := q2
  simp only [WS.tellR, t1, t2, Int.toNat_natCast]
  simp [WS.tell, q3, q4, hne]

/-- Who tells all that is due has told each that runs of each that has stopped. -/
theorem WS.told_all (s : WS) (a b : Nat) (ha : a < s.N.toNat) (hb : b < s.N.toNat) (h1 : (s.tellL s.due).runs (a : Int) = true) (h2 : (s.tellL s.due).runs (b : Int) = false) :
    (s.tellL s.due).knows (a : Int) (b : Int) = true := by
  have o1 : (s.tellL s.due).ok (a : Int) := by unfold WS.ok; rw [WS.tellL_N]; exact (s.ok_nat a).2 ha
  have o2 : (s.tellL s.due).ok (b : Int) := by unfold WS.ok; rw [WS.tellL_N]; exact (s.ok_nat b).2 hb
  simp only [WS.runs, WS.knows, o1, o2, and_self, if_true, Int.toNat_natCast, WS.tellL_st, WS.tellL_td] at h1 h2 ⊢
  by_cases hk : s.td a b = true
  · simp [hk]
  · have hm : (a, b) ∈ s.due := by
      refine (s.mem_due _).2 ⟨⟨ha, hb, fun e => ?_⟩, ?_⟩
      · simp only at e; subst e; rw [h1] at h2; cases h2
      · simp only [WS.dueB, WS.runs, WS.knows, (s.ok_nat a).2 ha, (s.ok_nat b).2 hb, and_self, if_true, Int.toNat_natCast]
        rw [h1, h2]; simpa using hk
    simp [hm]
theorem WS.due_none (s : WS) : (s.tellL s.due).due = [] := by
  refine List.eq_nil_iff_forall_not_mem.2 fun p hp => ?_
  obtain ⟨⟨h1, h2, h3⟩, hd⟩ := ((s.tellL s.due).mem_due p).1 hp
  rw [WS.tellL_N] at h1 h2
  unfold WS.dueB at hd
  simp only [Bool.and_eq_true, Bool.not_eq_true'] at hd
  have := s.told_all p.1 p.2 h1 h2 hd.1.1 hd.1.2
  rw [this] at hd; exact absurd hd.2 (by decide)
/-! ### the walk -/
set_option maxHeartbeats 400000 in
theorem sure_long (n : Int) (A : Option Addr) (len c : Nat) (w : World) (h : 100 < len) :
    Calls Try.prog 3 #[.int .i64 n, .slice A len c] w fun e w' => e = .returned (.bool true) ∧ Below w.heap.size w w' := by
  have h1 : (100 : Int) < (len : Int) := by omega
  go_enter Try.func3, Try.ntmps3
  go_wp2_with (go_at_call 6; refine (knows_true _).mono ?_; rintro e w' ⟨rfl, hB⟩)
  go_ret
  exact ⟨rfl, hB⟩

theorem nodes_fact (n : Int) : 1 ≤ wrap64 (1 + (wrap64 (n.tmod 8 + 8)).tmod 8) ∧ wrap64 (1 + (wrap64 (n.tmod 8 + 8)).tmod 8) ≤ 8 := by
  have h1 : n.tmod 8 < 8 := Int.tmod_lt_of_pos n (by decide)
  have h2 : -8 < n.tmod 8 := Int.lt_tmod_of_pos n (b := 8) (by decide)
  have h3 : wrap64 (n.tmod 8 + 8) = n.tmod 8 + 8 := by unfold wrap64; omega
  rw [h3]
  have h4 : (n.tmod 8 + 8).tmod 8 = (n.tmod 8 + 8) % 8 := Int.tmod_eq_emod_of_nonneg (by omega)
  rw [h4]
  unfold wrap64
  omega

set_option maxRecDepth 100000 in
set_option maxHeartbeats 1000000 in
theorem sure_short (n : Int) (v : Value) (l : List D_glebelaw21_Act) (w : World) (hn : -9223372036854775808 ≤ n ∧ n ≤ 9223372036854775807) (hv : Rd w v l.length (actV l)) (h : l.length ≤ 100) :
    Calls Try.prog 3 #[.int .i64 n, v] w fun e w' => e = .returned (.bool true) ∧ Below w.heap.size w w' := by
  obtain ⟨A, c, rfl⟩ := hv.slice
  obtain ⟨hn0, hn1⟩ := hn
  go_enter Try.func3, Try.ntmps3
  go_wp2_with fail
  obtain ⟨hN0, hN1⟩ := nodes_fact n
  generalize wrap64 (1 + (wrap64 (n.tmod 8 + 8)).tmod 8) = N at *
  refine (new_ok N _ hN0 hN1).mono ?_
  rintro e w1 ⟨rfl, hW, hB⟩
  go_wp2_with (first
    | (go_at_call 8; refine (num_any _ _).mono ?_; rintro e w' ⟨rfl, rfl⟩)
    | (go_at_call 6; refine (knows_true _).mono ?_; rintro e w2 ⟨rfl, hB2⟩))
  have hW2 : IsW w2 w.heap.size (WS.init N) := hW.fr (Fr.of_below hB2 (S := fun _ => False)) (fun h => h)
  have hB3 : Below w.heap.size w w2 := hB.trans (hB2.mono hB.size)
  clear hB hB2 hW
  go_loopw [7] (fun i wr => ∃ (k : Nat) (s : WS), k ≤ l.length ∧ i = .int .i64 k ∧ IsW wr w.heap.size s ∧ s.sure ∧ Hid (s.N = N) ∧ Below w.heap.size w wr) (fun i _ => l.length - (intOf i).toNat)
  case atStart => exact ⟨0, _, Nat.zero_le _, rfl, hW2, WS.sure_init N, rfl, hB3⟩
  case round =>
    clear hW2 hB3
    obtain ⟨k, s, hk, rfl, hW, hS, hSN, hB⟩ := hrel
    by_cases hlt : k < l.length
    · rcases hv with ⟨h0, _⟩ | ⟨g, o, c', he, hg, hc⟩
      · omega
      · cases he
        have c0 := (hB.cell (p := ⟨g, o + (k * 5 + 0), none⟩) hg).trans (hc _ _ (actV_at hlt (i := 0) (by omega)))
        have c1 := (hB.cell (p := ⟨g, o + (k * 5 + 1), none⟩) hg).trans (hc _ _ (actV_at hlt (i := 1) (by omega)))
        have c2 := (hB.cell (p := ⟨g, o + (k * 5 + 2), none⟩) hg).trans (hc _ _ (actV_at hlt (i := 2) (by omega)))
        simp only [Nat.add_zero] at c0 c1 c2
        rw [← Nat.add_assoc] at c1 c2
        have hi0 : (k : Int) < (l.length : Int) := by omega
        have hgl : g < wr.heap.size := Nat.lt_of_lt_of_le hg hB.size
        have hgn : ¬ g = w.heap.size := by omega
        generalize l[k] = x at *
        by_cases hx : x.kind = 0
        · have hx' : (x.kind == 0) = true := by rw [hx]; rfl
          have HX := Lib.hid hx
          clear hx hc
          go_wp2_with (go_at_call 9; refine (stop_any _ s _ _ hW).mono ?_; rintro e w3 ⟨rfl, hW3, hF4⟩)
          have e1 : s.stopS x.a = s.play x := by unfold WS.play; rw [if_pos HX.out]
          rw [e1] at hW3
          clear e1
          have hS3 : (s.play x).sure := WS.sure_play hS x
          have hN3 : Hid ((s.play x).N = N) := (WS.play_N s x).trans hSN.out
          have hB3 : Below w.heap.size w w3 := hB.trans (hF4.below hB.size (fun k hk h => by omega))
          generalize s.play x = s3 at *
          clear hF4 hW hS hSN hB c0 c1 c2 HX hx'
          go_loop [8] (fun y => ∃ i : Nat, i ≤ 8 ∧ y = .int .i64 i) (fun y => 8 - (intOf y).toNat)
          case atStart => exact ⟨0, by omega, rfl⟩
          case round =>
            obtain ⟨i, hi, rfl⟩ := hrel
            by_cases hlt2 : i < 8
            · go_wp2
              go_loop [9] (fun y => ∃ j : Nat, j ≤ 8 ∧ y = .int .i64 j) (fun y => 8 - (intOf y).toNat)
              case atStart => exact ⟨0, by omega, rfl⟩
              case round =>
                obtain ⟨j, hj, rfl⟩ := hrel
                by_cases hlt3 : j < 8
                · cases hkn : s3.knows (i : Int) (j : Int)
                  · go_wp2_with (go_at_call 11; refine (knows_any _ s3 _ _ _ hW3).mono ?_; rintro e w4 ⟨rfl, rfl⟩)
                    go_round
                    case rel => exact ⟨j + 1, by omega, by go_num⟩
                    case measure => simp [intOf]; omega
                  · have hru := WS.sure_says hS3 (i : Int) (j : Int) hkn
                    go_wp2_with (first
                      | (go_at_call 11; refine (knows_any _ s3 _ _ _ hW3).mono ?_; rintro e w4 ⟨rfl, rfl⟩)
                      | (go_at_call 12; refine (runs_any _ s3 _ _ hW3).mono ?_; rintro e w4 ⟨rfl, rfl⟩))
                    go_round
                    case rel => exact ⟨j + 1, by omega, by go_num⟩
                    case measure => simp [intOf]; omega
                · go_wp2
                  go_round
                  case rel => exact ⟨i + 1, by omega, by go_num⟩
                  case measure => simp [intOf]; omega
            · go_wp2
              go_roundw
              case rel => exact ⟨k + 1, s3, by omega, by go_num, hW3, hS3, hN3, hB3⟩
              case measure => simp [intOf]; omega
        · have hx' : (x.kind == 0) = false := beq_eq_false_iff_ne.2 hx
          have HX := Lib.hid hx
          clear hx hc
          go_wp2_with fail
          go_region_held3 (fun w' => w'.cell? ⟨g, o + k * 5 + 1, none⟩ = some (.int .i64 x.a) ∧ w'.cell? ⟨g, o + k * 5 + 2, none⟩ = some (.int .i64 x.b))
            (first | go_keep) (first | (go_at_call 10; refine (tell_any _ s _ _ _ (by exact ⟨hW.wf, hW.at_⟩)).mono ?_; rintro e w3 ⟨rfl, hW3, hF3⟩; have j1 := (hF3.cell (p := ⟨g, o + k * 5 + 1, none⟩) hgl hgn).trans c1; have j2 := (hF3.cell (p := ⟨g, o + k * 5 + 2, none⟩) hgl hgn).trans c2))
          have hF4 : Fr (· = w.heap.size) wr w3 := ⟨hF3.os, hF3.tape, hF3.output, hF3.size, hF3.block⟩
          have e1 : s.tellS x.a x.b = s.play x := by unfold WS.play; rw [if_neg HX.out]
          rw [e1] at hW3
          clear hF3 e1 j1 j2
          go_wp2_with fail
          have hS3 : (s.play x).sure := WS.sure_play hS x
          have hN3 : Hid ((s.play x).N = N) := (WS.play_N s x).trans hSN.out
          have hB3 : Below w.heap.size w w3 := hB.trans (hF4.below hB.size (fun k hk h => by omega))
          generalize s.play x = s3 at *
          clear hF4 hW hS hSN hB c0 c1 c2 HX hx'
          go_loop [8] (fun y => ∃ i : Nat, i ≤ 8 ∧ y = .int .i64 i) (fun y => 8 - (intOf y).toNat)
          case atStart => exact ⟨0, by omega, rfl⟩
          case round =>
            obtain ⟨i, hi, rfl⟩ := hrel
            by_cases hlt2 : i < 8
            · go_wp2
              go_loop [9] (fun y => ∃ j : Nat, j ≤ 8 ∧ y = .int .i64 j) (fun y => 8 - (intOf y).toNat)
              case atStart => exact ⟨0, by omega, rfl⟩
              case round =>
                obtain ⟨j, hj, rfl⟩ := hrel
                by_cases hlt3 : j < 8
                · cases hkn : s3.knows (i : Int) (j : Int)
                  · go_wp2_with (go_at_call 11; refine (knows_any _ s3 _ _ _ hW3).mono ?_; rintro e w4 ⟨rfl, rfl⟩)
                    go_round
                    case rel => exact ⟨j + 1, by omega, by go_num⟩
                    case measure => simp [intOf]; omega
                  · have hru := WS.sure_says hS3 (i : Int) (j : Int) hkn
                    go_wp2_with (first
                      | (go_at_call 11; refine (knows_any _ s3 _ _ _ hW3).mono ?_; rintro e w4 ⟨rfl, rfl⟩)
                      | (go_at_call 12; refine (runs_any _ s3 _ _ hW3).mono ?_; rintro e w4 ⟨rfl, rfl⟩))
                    go_round
                    case rel => exact ⟨j + 1, by omega, by go_num⟩
                    case measure => simp [intOf]; omega
                · go_wp2
                  go_round
                  case rel => exact ⟨i + 1, by omega, by go_num⟩
                  case measure => simp [intOf]; omega
            · go_wp2
              go_roundw
              case rel => exact ⟨k + 1, s3, by omega, by go_num, hW3, hS3, hN3, hB3⟩
              case measure => simp [intOf]; omega
    · clear hv
      have hwf := hW.wf
      have hbl := hW.lt
      obtain ⟨WR, hWR⟩ : ∃ n, n = wr.heap.size := ⟨_, rfl⟩
      go_wp2_with fail
      refine (due_any _ s _ hW).mono ?_
      rintro e w3 ⟨vd, rfl, hown, hB2⟩
      have hW3 : IsW w3 w.heap.size (s.tellL (s.due.take 0)) := hW.fr (Fr.of_below hB2 (S := fun _ => False)) (fun h => h)
      have hB3 : Below w.heap.size w w3 := hB.trans (hB2.mono hB.size)
      have hdl : s.due.length ≤ 64 := by
        have h1 := WS.dueF_le s (pairsTo s.N.toNat s.N.toNat 0)
        have h2 := pairsTo_len s.N.toNat s.N.toNat 0
        have h3 : s.N.toNat * s.N.toNat ≤ 8 * 8 := Nat.mul_le_mul (by have := hwf.2; omega) (by have := hwf.2; omega)
        unfold WS.due; omega
      rw [← hWR] at hown hbl
      clear hB hB2 hW hWR
      obtain ⟨A2, c2, rfl, _⟩ := own_slice hown
      go_wp2
      go_loopw [11] (fun i wr2 => ∃ m : Nat, m ≤ s.due.length ∧ i = .int .i64 m ∧ IsW wr2 w.heap.size (s.tellL (s.due.take m)) ∧ wr2.ownsRow WR 37 2 (.slice A2 s.due.length c2) s.due.length (pairV s.due) ∧ Below w.heap.size w wr2) (fun i _ => s.due.length - (intOf i).toNat)
      case atStart => exact ⟨0, Nat.zero_le _, rfl, hW3, hown, hB3⟩
      case round =>
        obtain ⟨m, hm, rfl, hW4, hown4, hB4⟩ := hrel
        clear hown hW3 hB3
        by_cases hlt : m < s.due.length
        · obtain ⟨r1, r2, r3⟩ := WS.due_step s hwf hlt
          have hcells := pairV_at hlt
          have hgl := own_lt hown4
          obtain ⟨g, c', he, _, hgb, hc⟩ := own_succ hown4 (by omega)
          cases he
          have k1 := hc _ _ hcells.1
          have k2 := hc _ _ hcells.2
          have hg1 := hgl g rfl
          have hgne : ¬ g = w.heap.size := by omega
          have hi0 : (m : Int) < (s.due.length : Int) := by omega
          generalize s.due[m].1 = a at *
          generalize s.due[m].2 = b at *
          generalize hq1 : s.tellL (s.due.take (m + 1)) = q1 at *
          generalize s.tellL (s.due.take m) = q at *
          have T1 : Hid (∀ W, IsW W w.heap.size q → Calls Try.prog 10 #[.pointer (some ⟨w.heap.size, 0, none⟩), .int .i64 (a : Int), .int .i64 (b : Int)] W fun e w' => e = .returned (.int .i64 0) ∧ IsW w' w.heap.size q1 ∧ Fr (· = w.heap.size) W w') := fun W h => by
            have := tell_any _ q a b W h
            rw [r1, r2] at this
            exact this
          have T2 : Hid (∀ W, IsW W w.heap.size q1 → Calls Try.prog 10 #[.pointer (some ⟨w.heap.size, 0, none⟩), .int .i64 (a : Int), .int .i64 (b : Int)] W fun e w' => e = .returned (.int .i64 4) ∧ IsW w' w.heap.size q1 ∧ Fr (· = w.heap.size) W w') := fun W h => by
            have := tell_any _ q1 a b W h
            rw [show q1.tellS a b = q1 by simp [WS.tellS, r3], r3] at this
            exact this
          have HQ := Lib.hid hq1
          clear r1 r2 r3 hcells hc hq1
          go_wp2_with fail
          go_region_held3 (fun w' => w'.cell? ⟨g, m * 2, none⟩ = some (.int .i64 (a : Int)) ∧ w'.cell? ⟨g, m * 2 + 1, none⟩ = some (.int .i64 (b : Int)))
            (first | go_keep)
            (first
              | (go_at_call 8; refine (num_any _ _).mono ?_; rintro e w' ⟨rfl, rfl⟩)
              | (go_at_call 10; refine (T2.out _ (by exact ⟨hW5.wf, hW5.at_⟩)).mono ?_; rintro e w6 ⟨rfl, hW6, hF6⟩; have hg3 := Nat.lt_of_lt_of_le hg2 hF6.size; have k5 := (hF6.cell (p := ⟨g, m * 2, none⟩) hg2 hgne).trans k3; have k6 := (hF6.cell (p := ⟨g, m * 2 + 1, none⟩) hg2 hgne).trans k4)
              | (go_at_call 10; refine (T1.out _ (by exact ⟨hW4.wf, hW4.at_⟩)).mono ?_; rintro e w5 ⟨rfl, hW5, hF5⟩; have hg2 := Nat.lt_of_lt_of_le hg1 hF5.size; have k3 := (hF5.cell (p := ⟨g, m * 2, none⟩) hg1 hgne).trans k1; have k4 := (hF5.cell (p := ⟨g, m * 2 + 1, none⟩) hg1 hgne).trans k2))
          have hFa : Fr (· = w.heap.size) wr w6 := Fr.trans ⟨hF5.os, hF5.tape, hF5.output, hF5.size, hF5.block⟩ hF6 (fun _ _ h => h)
          have hB6 : Below w.heap.size w w6 := hB4.trans (hFa.below hB4.size (fun k hk h => by omega))
          have hW7 : Hid (IsW w6 w.heap.size (s.tellL (s.due.take (m + 1)))) := by show IsW _ _ _; rw [HQ.out]; exact hW6
          have hown6 : w6.ownsRow WR 37 2 (.slice (some ⟨g, 0, none⟩) s.due.length c2) s.due.length (pairV s.due) := own_fr hown4 hFa (fun k hk h => by cases hk; exact hgne h)
          clear hF5 hF6 hFa hown4 hW4 hW5 hW6 k1 k2 k3 k4 k5 k6 hB4
          go_wp2
          go_roundw
          case rel => exact ⟨m + 1, by omega, by go_num, hW7, hown6, hB6⟩
          case measure => simp [intOf]; omega
        · obtain rfl : m = s.due.length := by omega
          rw [List.take_length] at hW4
          have hall : Hid (∀ i j : Nat, (i : Int) < N → (j : Int) < N → (s.tellL s.due).runs (i : Int) = true → (s.tellL s.due).runs (j : Int) = false → (s.tellL s.due).knows (i : Int) (j : Int) = true) := fun i j hi hj h1 h2 =>
            s.told_all i j (by have := hSN.out; omega) (by have := hSN.out; omega) h1 h2
          have hnone := Lib.hid (s.due_none)
          clear hown4 hwf hS
          generalize s.tellL s.due = q at *
          go_wp2
          go_loop [12] (fun x => ∃ i : Nat, (i : Int) ≤ N ∧ x = .int .i64 i) (fun x => N.toNat - (intOf x).toNat)
          case atStart => exact ⟨0, by omega, rfl⟩
          case round =>
            obtain ⟨i, hi, rfl⟩ := hrel
            by_cases hlt2 : (i : Int) < N
            · go_wp2
              go_loop [13] (fun x => ∃ j : Nat, (j : Int) ≤ N ∧ x = .int .i64 j) (fun x => N.toNat - (intOf x).toNat)
              case atStart => exact ⟨0, by omega, rfl⟩
              case round =>
                obtain ⟨j, hj, rfl⟩ := hrel
                by_cases hlt3 : (j : Int) < N
                · cases h1 : q.runs (i : Int)
                  · go_wp2_with (first
                      | (go_at_call 12; refine (runs_any _ q _ _ hW4).mono ?_; rintro e w4 ⟨rfl, rfl⟩)
                      | (go_at_call 11; refine (knows_any _ q _ _ _ hW4).mono ?_; rintro e w4 ⟨rfl, rfl⟩))
                    go_round
                    case rel => exact ⟨j + 1, by omega, by go_num⟩
                    case measure => simp [intOf]; omega
                  · cases h2 : q.runs (j : Int)
                    · have h3 := hall.out i j hlt2 hlt3 h1 h2
                      go_wp2_with (first
                        | (go_at_call 12; refine (runs_any _ q _ _ hW4).mono ?_; rintro e w4 ⟨rfl, rfl⟩)
                        | (go_at_call 11; refine (knows_any _ q _ _ _ hW4).mono ?_; rintro e w4 ⟨rfl, rfl⟩))
                      go_round
                      case rel => exact ⟨j + 1, by omega, by go_num⟩
                      case measure => simp [intOf]; omega
                    · go_wp2_with (first
                        | (go_at_call 12; refine (runs_any _ q _ _ hW4).mono ?_; rintro e w4 ⟨rfl, rfl⟩)
                        | (go_at_call 11; refine (knows_any _ q _ _ _ hW4).mono ?_; rintro e w4 ⟨rfl, rfl⟩))
                      go_round
                      case rel => exact ⟨j + 1, by omega, by go_num⟩
                      case measure => simp [intOf]; omega
                · have hge : N ≤ (j : Int) := by omega
                  clear hlt3
                  go_wp2
                  go_round
                  case rel => exact ⟨i + 1, by omega, by go_num⟩
                  case measure => simp [intOf]; omega
            · have hge : N ≤ (i : Int) := by omega
              clear hlt2
              go_wp2_with (go_at_call 13; refine (due_any _ q _ hW4).mono ?_; rintro e w5 ⟨v5, rfl, hown5, hB5⟩; rw [hnone.out] at hown5; obtain ⟨A5, c5, rfl, _⟩ := own_slice hown5)
              go_ret
              exact ⟨rfl, hB4.trans (hB5.mono hB4.size)⟩
/-- The whole law: whatever the numbers. -/
theorem sure_walk (w : World) (n : Int) (hn : (Lit.int .i64 n).wf = true) (v : Value) (l : List D_glebelaw21_Act) (hv : RdK D_glebelaw21_Act.k w v l) :
    Calls Try.prog 3 #[.int .i64 n, v] w fun e w' => e = .returned (.bool true) ∧ Below w.heap.size w w' := by
  by_cases h : l.length ≤ 100
  · exact sure_short n v l w (wf_i64 hn) (hv.flat D_glebelaw21_Act.enc (fun _ _ h => D_glebelaw21_Act.flat h) (fun _ => rfl) (by decide)) h
  · obtain ⟨A, c, rfl⟩ := hv.slice
    exact sure_long n A _ c w (by omega)
end Go.Proofs.Ythfhigcenmcmaaa
