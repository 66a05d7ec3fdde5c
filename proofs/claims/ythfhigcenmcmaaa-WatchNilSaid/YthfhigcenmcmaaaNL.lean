/- The law WatchNil, walked: no watch, and one that nobody made. -/
import Derived.Deep.RegionHeld3
import Derived.Test.YthfhigcenmcmaaaU
import Derived.Test.YthfhigcenmcmaaaC
namespace Go.Proofs.Ythfhigcenmcmaaa
open Go.RowKit Go.Shelf
attribute [local go_sem] Oper.semAt_some

/-- No watch, or one of no nodes. -/
def NoW (w : World) (p : Option Addr) : Prop := p = none ∨ ∃ b, p = some ⟨b, 0, none⟩ ∧ w.heap[b]? = some (.cells zeroW 53 (0, 0))
theorem NoW.below {w w' : World} {p : Option Addr} (h : NoW w p) (hb : Below w.heap.size w w') : NoW w' p := by
  rcases h with h | ⟨b, h, hb'⟩
  · exact .inl h
  · exact .inr ⟨b, h, (hb.block b (Array.getElem?_eq_some_iff.1 hb').1).trans hb'⟩
theorem zeroW_at {w : World} {b : Nat} (h : w.heap[b]? = some (.cells zeroW 53 (0, 0))) : w.cell? ⟨b, 0, none⟩ = some (.int .i64 0) := by
  rw [cell_of_block h]; rfl

set_option maxHeartbeats 400000 in
theorem n_node (p : Option Addr) (n : Int) (w : World) (h : NoW w p) :
    Calls Try.prog 28 #[.pointer p, .int .i64 n] w fun e w' => e = .returned (.pointer none) ∧ w = w' := by
  rcases h with rfl | ⟨b, rfl, hb⟩
  · exact node_nil n w
  · have hc := zeroW_at hb
    clear hb
    by_cases h0 : n < 0
    · go_enter Try.func28, Try.ntmps28
      go_wp2
      go_ret
      exact ⟨rfl, rfl⟩
    · have h1 : 0 ≤ n := by omega
      clear h0
      go_enter Try.func28, Try.ntmps28
      go_wp2
      go_ret
      exact ⟨rfl, rfl⟩

set_option maxHeartbeats 400000 in
theorem n_stop (p : Option Addr) (n : Int) (w : World) (h : NoW w p) :
    Calls Try.prog 9 #[.pointer p, .int .i64 n] w fun e w' => e = .returned (.int .i64 1) ∧ w = w' := by
  go_enter Try.func9, Try.ntmps9
  go_wp2_with (go_at_call 28; refine (n_node _ _ _ h).mono ?_; rintro e w' ⟨rfl, rfl⟩)
  go_ret
  exact ⟨rfl, rfl⟩

set_option maxHeartbeats 400000 in
theorem n_tell (p : Option Addr) (a b : Int) (w : World) (h : NoW w p) :
    Calls Try.prog 10 #[.pointer p, .int .i64 a, .int .i64 b] w fun e w' => e = .returned (.int .i64 1) ∧ w = w' := by
  go_enter Try.func10, Try.ntmps10
  go_wp2_with (go_at_call 28; refine (n_node _ _ _ h).mono ?_; rintro e w' ⟨rfl, rfl⟩)
  go_ret
  exact ⟨rfl, rfl⟩

set_option maxHeartbeats 400000 in
theorem n_heard (p : Option Addr) (n t : Int) (w : World) (h : NoW w p) :
    Calls Try.prog 17 #[.pointer p, .int .i64 n, .int .i64 t] w fun e w' => e = .returned (.int .i64 1) ∧ w = w' := by
  go_enter Try.func17, Try.ntmps17
  go_wp2_with (go_at_call 28; refine (n_node _ _ _ h).mono ?_; rintro e w' ⟨rfl, rfl⟩)
  go_ret
  exact ⟨rfl, rfl⟩

set_option maxHeartbeats 400000 in
theorem n_runs (p : Option Addr) (n : Int) (w : World) (h : NoW w p) :
    Calls Try.prog 12 #[.pointer p, .int .i64 n] w fun e w' => e = .returned (.bool false) ∧ w = w' := by
  go_enter Try.func12, Try.ntmps12
  go_wp2_with (go_at_call 28; refine (n_node _ _ _ h).mono ?_; rintro e w' ⟨rfl, rfl⟩)
  go_ret
  exact ⟨rfl, rfl⟩

set_option maxHeartbeats 400000 in
theorem n_knows (p : Option Addr) (a b : Int) (w : World) (h : NoW w p) :
    Calls Try.prog 11 #[.pointer p, .int .i64 a, .int .i64 b] w fun e w' => e = .returned (.bool false) ∧ w = w' := by
  go_enter Try.func11, Try.ntmps11
  go_wp2_with (go_at_call 28; refine (n_node _ _ _ h).mono ?_; rintro e w' ⟨rfl, rfl⟩)
  go_ret
  exact ⟨rfl, rfl⟩

set_option maxHeartbeats 400000 in
theorem n_quiet (p : Option Addr) (n t m : Int) (w : World) (h : NoW w p) :
    Calls Try.prog 24 #[.pointer p, .int .i64 n, .int .i64 t, .int .i64 m] w fun e w' => e = .returned (.bool false) ∧ w = w' := by
  go_enter Try.func24, Try.ntmps24
  go_wp2_with (go_at_call 28; refine (n_node _ _ _ h).mono ?_; rintro e w' ⟨rfl, rfl⟩)
  go_ret
  exact ⟨rfl, rfl⟩

set_option maxHeartbeats 400000 in
theorem n_clone (p : Option Addr) (w : World) (h : NoW w p) :
    Calls Try.prog 19 #[.pointer p] w fun e w' => e = .returned (.pointer none) ∧ w = w' := by
  rcases h with rfl | ⟨b, rfl, hb⟩
  · go_enter Try.func19, Try.ntmps19
    go_wp2
    go_ret
    exact ⟨rfl, rfl⟩
  · have hc := zeroW_at hb
    clear hb
    go_enter Try.func19, Try.ntmps19
    go_wp2
    go_ret
    exact ⟨rfl, rfl⟩

set_option maxHeartbeats 400000 in
theorem n_running (p : Option Addr) (w : World) (h : NoW w p) :
    Calls Try.prog 20 #[.pointer p] w fun e w' => e = .returned (.slice none 0 0) ∧ w = w' := by
  go_enter Try.func20, Try.ntmps20
  go_wp2
  go_loop [3, 5] (fun v i => v = .slice none 0 0 ∧ ∃ k : Nat, k ≤ 8 ∧ i = .int .i64 k) (fun _ i => 8 - (intOf i).toNat)
  case atStart => exact ⟨rfl, 0, Nat.zero_le _, rfl⟩
  case round =>
    obtain ⟨rfl, k, hk, rfl⟩ := hrel
    by_cases hlt : k < 8
    · go_wp2_with (go_at_call 12; refine (n_runs _ _ _ h).mono ?_; rintro e w' ⟨rfl, rfl⟩)
      go_round
      case rel => exact ⟨rfl, k + 1, by omega, by go_num⟩
      case measure => simp [intOf]; omega
    · go_wp2
      go_ret
      exact ⟨rfl, rfl⟩

set_option maxRecDepth 100000 in
set_option maxHeartbeats 1000000 in
theorem n_pairs1 (n : Nat) (l Bp : Nat) (p : Option Addr) (J Jx : List (Nat × Nat) → World → Prop) (W : World) (hB : W.heap[Bp]? = some (.cells #[.pointer p] 24 (0, 0))) (h : NoW W p) (h0 : J [] W) :
    CallsIn Fence.wide n Try.prog 31 #[.func (.yield l) #[] #[], .pointer (some ⟨Bp, 0, none⟩)] W fun e W' => (∃ v, e = .returned v) ∧
      ((∃ ys, ys = ([] : List (Nat × Nat)) ∧ J ys W') ∨ (∃ pre, True ∧ Jx pre W')) := by
  have hb1 := cell_of_block hB 0
  simp only [List.getElem?_toArray, List.getElem?_cons_zero] at hb1
  clear hB
  refine callsIn_of_wp Try.func31 rfl trivial ?_ rfl
  simp only [Try.ntmps31, List.size_toArray, List.length_cons, List.length_nil, Nat.reduceAdd, Nat.reduceSub, Array.replicate_succ, Array.replicate_zero, List.push_toArray, List.append_toArray, List.nil_append, List.cons_append]
  gi_wp2
  refine wpIn_scope_wide ?_
  rcases h with rfl | ⟨b, rfl, hb⟩
  · gi_wp2
    rw [Exit.noGoto_ret]
    refine bodyPost_ret (results_none rfl _ _ _) rfl ?_
    exact ⟨⟨_, rfl⟩, .inl ⟨_, rfl, h0⟩⟩
  · have hc := zeroW_at hb
    clear hb
    gi_wp2
    refine wpIn_label ?_
    gi_wp2
    gi_loopw [11] (fun i wr => i = .int .i64 0 ∧ J [] wr) (fun _ _ => 0)
    case atStart => exact ⟨rfl, h0⟩
    case round =>
      obtain ⟨rfl, hJ⟩ := hrel
      gi_wp2
      rw [Exit.noGoto_normal]
      go_end0
      exact ⟨⟨_, rfl⟩, .inl ⟨_, rfl, hJ⟩⟩

set_option maxRecDepth 100000 in
set_option maxHeartbeats 1000000 in
theorem n_due (p : Option Addr) (w : World) (h : NoW w p) :
    Calls Try.prog 13 #[.pointer p] w fun e w' => e = .returned (.slice none 0 0) ∧ Below w.heap.size w w' := by
  have H := Lib.hid h
  clear h
  refine (callsIn_wide (n := 5)).1 ?_
  refine callsIn_of_wp_marks Try.func13 rfl trivial ?_ rfl
  simp only [Try.ntmps13, List.size_toArray, List.length_cons, List.length_nil, Nat.reduceAdd, Nat.reduceSub, Array.replicate_succ, Array.replicate_zero, List.push_toArray, List.append_toArray, List.nil_append, List.cons_append]
  gi_wp2_with (refine ⟨trivial, ?_⟩; gi_at_call 29; refine (callsIn_wide.2 (pairs_any _ _)).mono ?_; rintro e w' ⟨rfl, rfl⟩)
  have hB1 : Below w.heap.size w (((w.alloc (.cells #[.pointer p] 24)).alloc (.cells #[.slice none 0 0] 35)).alloc (.cells #[.pointer p] 24)) :=
    (((Below.refl _ w).alloc (Nat.le_refl _) _).alloc (by simp) _).alloc (by simp; omega) _
  have hw1 : Boxed (((w.alloc (.cells #[.pointer p] 24)).alloc (.cells #[.slice none 0 0] 35)).alloc (.cells #[.pointer p] 24)) (w.heap.size + 1) 35 (.slice none 0 0) := by
    have := Boxed.new (w.alloc (.cells #[.pointer p] 24)) 35 (.slice none 0 0)
    rw [World.size_alloc] at this
    exact this.alloc _
  have hw2 : (((w.alloc (.cells #[.pointer p] 24)).alloc (.cells #[.slice none 0 0] 35)).alloc (.cells #[.pointer p] 24)).heap[w.heap.size + 2]? = some (.cells #[.pointer p] 24 (0, 0)) := by
    have := alloc_new ((w.alloc (.cells #[.pointer p] 24)).alloc (.cells #[.slice none 0 0] 35)) (.cells #[.pointer p] 24)
    rwa [World.size_alloc, World.size_alloc] at this
  have hseq : SeqStopsK Fence.wide 4 Try.prog 31 #[.pointer (some ⟨w.heap.size + 2, 0, none⟩)] encP (fun _ _ => True) (fun xs => xs = []) (fun _ => True) 0 (((w.alloc (.cells #[.pointer p] 24)).alloc (.cells #[.slice none 0 0] 35)).alloc (.cells #[.pointer p] 24)) := fun l J Jx W hb _ _ _ h0 =>
    n_pairs1 4 l (w.heap.size + 2) p J Jx W ((hb.block _ (Array.getElem?_eq_some_iff.1 hw2).1).trans hw2) ((H.out.below hB1).below hb) h0
  refine wpIn_rangeFunc_ownF rfl (by decide) (gf := 31) (lb := #[.pointer (some ⟨w.heap.size + 2, 0, none⟩)]) rfl trivial (enters_of Try.func31 (by kernel_rfl) rfl)
    hseq (fun _ _ => trivial) (fun _ _ _ _ _ _ _ _ => trivial)
    (Below.refl _ _) (fun _ => rfl)
    (fun _ W => Boxed W (w.heap.size + 1) 35 (.slice none 0 0) ∧ Below w.heap.size w W)
    (fun _ _ _ => False)
    (OwnFrom.and ((cells_own _ _ _).from _) (ownFrom_below (Nat.le_refl _) (by simp; omega)))
    (fun _ _ _ _ _ hs _ _ => hs)
    ⟨hw1, hB1⟩
    (fun x => { tmps := #[.pointer p, .pointer (some ⟨w.heap.size, 0, none⟩), .slice none 0 0, .pointer (some ⟨w.heap.size + 1, 0, none⟩), .int .i64 (x.1 : Int), .int .i64 (x.2 : Int), .pointer p, .func (.func 31) #[] #[.pointer (some ⟨w.heap.size + 2, 0, none⟩)], .int .i64 (x.1 : Int), .int .i64 (x.2 : Int), undef, undef, undef, undef, undef, undef, undef, undef, undef, undef, undef, undef, undef, undef, undef, undef, undef, undef, undef, undef, undef, undef, undef], defers := [] }) ?assign ?body ?done ?stop
  case assign =>
    intro l x W K hK
    gi_wp2
    exact hK
  case body =>
    rintro l pre x W _ hlen
    exact absurd hlen (Nat.not_lt_zero _)
  case done =>
    rintro D xs W hD _ ⟨hv, hB⟩ hK
    have hvc := hv.cell
    gi_wp2
    refine ⟨by simp, .inl ⟨_, _, rfl, run_takeDeferred hK, ?_⟩⟩
    exact ⟨_, results_tmp rfl _ _ _, rfl, hB.trans (belowK_b (w := w) (Nat.le_refl _) W D _ _ (by simp at hD; omega) hK rfl rfl)⟩
  case stop =>
    rintro D c pre W _ _ h _
    exact h.elim

set_option maxRecDepth 100000 in
set_option maxHeartbeats 2000000 in
theorem nil_walk (w : World) (cs : Array Value) (x : D_glebelaw21_Act) (hx : D_glebelaw21_Act.k.K w x cs.toList) :
    Calls Try.prog 5 #[.agg cs] w fun e w' => e = .returned (.bool true) ∧ Below w.heap.size w w' := by
  have he := D_glebelaw21_Act.flat hx
  obtain rfl : cs = #[.int .i64 x.kind, .int .i64 x.a, .int .i64 x.b, .int .i64 x.n, .int .i64 x.most] := by
    apply Array.ext'; rw [he]; rfl
  clear he hx
  have hz := zeroW_run
  go_enter Try.func5, Try.ntmps5
  go_wp2
  go_loopw [3, 4] (fun p i wr => ∃ (q : Option Addr) (k : Nat), k ≤ 2 ∧ p = .pointer q ∧ i = .int .i64 k ∧ NoW wr q ∧ wr.heap[w.heap.size]? = some (.cells #[.int .i64 x.kind, .int .i64 x.a, .int .i64 x.b, .int .i64 x.n, .int .i64 x.most] 30 (0, 0)) ∧ Below w.heap.size w wr) (fun _ i _ => 2 - (intOf i).toNat)
  case atStart => exact ⟨none, 0, by omega, rfl, rfl, .inl rfl, alloc_new w _, (Below.refl _ _).alloc (Nat.le_refl _) _⟩
  case round =>
    obtain ⟨q, k, hk, rfl, rfl, hN, hBox, hB⟩ := hrel
    by_cases hlt : k < 2
    · have hBl := (Array.getElem?_eq_some_iff.1 hBox).1
      have q1 := (cell_of_block hBox 1).trans (show _ = some (Value.int .i64 x.a) from rfl)
      have q2 := (cell_of_block hBox 2).trans (show _ = some (Value.int .i64 x.b) from rfl)
      have q3 := (cell_of_block hBox 3).trans (show _ = some (Value.int .i64 x.n) from rfl)
      have q4 := (cell_of_block hBox 4).trans (show _ = some (Value.int .i64 x.most) from rfl)
      go_wp2_with (first
      | (go_at_call 8; refine (num_any _ _).mono ?_; rintro e w' ⟨rfl, rfl⟩)
      | (go_at_call 9; refine (n_stop q _ _ (by exact hN)).mono ?_; rintro e w8 ⟨rfl, rfl⟩)
      | (go_at_call 10; refine (n_tell q _ _ _ (by exact hN)).mono ?_; rintro e w8 ⟨rfl, rfl⟩)
      | (go_at_call 17; refine (n_heard q _ _ _ (by exact hN)).mono ?_; rintro e w8 ⟨rfl, rfl⟩)
      | (go_at_call 12; refine (n_runs q _ _ (by exact hN)).mono ?_; rintro e w8 ⟨rfl, rfl⟩)
      | (go_at_call 11; refine (n_knows q _ _ _ (by exact hN)).mono ?_; rintro e w8 ⟨rfl, rfl⟩)
      | (go_at_call 24; refine (n_quiet q _ _ _ _ (by exact hN)).mono ?_; rintro e w8 ⟨rfl, rfl⟩)
      | (go_at_call 13; refine (n_due q _ (by exact hN)).mono ?_; rintro e w8 ⟨rfl, hB8⟩; have j1 := (hB8.cell (p := ⟨w.heap.size, 1, none⟩) (hBl)).trans q1; have j2 := (hB8.cell (p := ⟨w.heap.size, 2, none⟩) (hBl)).trans q2; have j3 := (hB8.cell (p := ⟨w.heap.size, 3, none⟩) (hBl)).trans q3; have j4 := (hB8.cell (p := ⟨w.heap.size, 4, none⟩) (hBl)).trans q4)
      | (go_at_call 20; refine (n_running q _ (by exact hN.below hB8)).mono ?_; rintro e w9 ⟨rfl, rfl⟩)
      | (go_at_call 19; refine (n_clone q _ (by exact hN.below hB8)).mono ?_; rintro e w9 ⟨rfl, rfl⟩))
      have hB9 : Below wr.heap.size wr w8 := ⟨hB8.os, hB8.tape, hB8.output, hB8.size, hB8.block⟩
      have hBox8 := (hB9.block _ hBl).trans hBox
      have hB10 := hB.trans (hB9.mono hB.size)
      clear hB8 hB9 hB hN hBox q1 q2 q3 q4 j1 j2 j3 j4 hBl
      go_wp2
      go_roundw
      case rel => exact ⟨_, k + 1, by omega, rfl, by go_num, .inr ⟨_, rfl, alloc_new _ _⟩, (Below.heap_alloc _ _ _ (Array.getElem?_eq_some_iff.1 hBox8).1).trans hBox8, hB10.alloc hB10.size _⟩
      case measure => simp [intOf]; omega
    · go_wp2_with (go_at_call 6; refine (knows_true _).mono ?_; rintro e w' ⟨rfl, hB2⟩)
      go_ret
      exact ⟨rfl, hB.trans (hB2.mono hB.size)⟩
end Go.Proofs.Ythfhigcenmcmaaa
