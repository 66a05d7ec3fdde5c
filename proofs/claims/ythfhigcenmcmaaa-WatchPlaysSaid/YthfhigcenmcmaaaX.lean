/- The document's watch (gleberef21): its block of cells, and the walks through its calls: each comes to what WS says. -/
import Derived.Deep.QuietTactic
import Derived.BigQuiet
import Derived.Test.YthfhigcenmcmaaaK
namespace Go.Proofs.Ythfhigcenmcmaaa
open Go.RowKit

/-! ### the block: number, stopped, told, last -/
def cellR (s : WS) (i : Nat) : Value :=
  if i = 0 then .int .i64 s.N else if i < 9 then .bool (s.st (i - 1)) else if i < 73 then .bool (s.td ((i - 9) / 8) ((i - 9) % 8)) else .int .i64 (s.la (i - 73))
structure IsR (w : World) (b : Nat) (s : WS) : Prop where
  wf : s.wf
  at_ : w.heap[b]? = some (.cells (Array.ofFn (n := 81) fun i => cellR s i) 63 (0, 0))
namespace IsR
variable {w : World} {b : Nat} {s : WS}
theorem cell (h : IsR w b s) (i : Nat) (hi : i < 81) : w.cell? ⟨b, i, none⟩ = some (cellR s i) := by
  rw [cell_of_block h.at_]; simp [hi]
theorem n (h : IsR w b s) : w.cell? ⟨b, 0, none⟩ = some (.int .i64 s.N) := h.cell 0 (by omega)
theorem st (h : IsR w b s) (n : Nat) (hn : n < 8) : w.cell? ⟨b, 1 + n, none⟩ = some (.bool (s.st n)) := by
  rw [h.cell _ (by omega)]; unfold cellR
  rw [if_neg (by omega), if_pos (by omega), show 1 + n - 1 = n by omega]
theorem td (h : IsR w b s) (n k : Nat) (hn : n < 8) (hk : k < 8) : w.cell? ⟨b, 9 + n * 8 + k, none⟩ = some (.bool (s.td n k)) := by
  rw [h.cell _ (by omega)]; unfold cellR
  rw [if_neg (by omega), if_neg (by omega), if_pos (by omega), show (9 + n * 8 + k - 9) / 8 = n by omega, show (9 + n * 8 + k - 9) % 8 = k by omega]
theorem la (h : IsR w b s) (n : Nat) (hn : n < 8) : w.cell? ⟨b, 73 + n, none⟩ = some (.int .i64 (s.la n)) := by
  rw [h.cell _ (by omega)]; unfold cellR
  rw [if_neg (by omega), if_neg (by omega), if_neg (by omega), show 73 + n - 73 = n by omega]
theorem free (h : IsR w b s) (i : Nat) : w.frozen? ⟨b, i, none⟩ = false := free_of_block h.at_ i
theorem lt (h : IsR w b s) : b < w.heap.size := (Array.getElem?_eq_some_iff.1 h.at_).1
theorem ok_lt (h : IsR w b s) {n : Int} (hn : s.ok n) : n.toNat < 8 := WS.ok_lt h.wf hn
theorem fr {S : Nat → Prop} {w' : World} (h : IsR w b s) (hf : Fr S w w') (hS : ¬ S b) : IsR w' b s := ⟨h.wf, (hf.block b h.lt hS).trans h.at_⟩
theorem set {s' : WS} (h : IsR w b s) (i : Nat) (v : Value) (hwf : s'.wf) (h1 : cellR s' i = v) (h2 : ∀ j, j < 81 → j ≠ i → cellR s' j = cellR s j) : IsR (w.setCell ⟨b, i, none⟩ v) b s' :=
  ⟨hwf, by rw [block_setCell h.at_, set_ofFn _ (cellR s') i v h1 h2]⟩
theorem stop (h : IsR w b s) (n : Nat) (hn : n < 8) : IsR (w.setCell ⟨b, 1 + n, none⟩ (.bool true)) b (s.stop n) := by
  refine h.set _ _ h.wf ?_ ?_
  · unfold cellR WS.stop
    rw [if_neg (by omega), if_pos (by omega), show 1 + n - 1 = n by omega]; simp
  · intro j hj hne
    unfold cellR WS.stop
    by_cases e0 : j = 0
    · simp [e0]
    · by_cases e1 : j < 9
      · rw [if_neg e0, if_neg e0, if_pos e1, if_pos e1]
        simp only
        rw [if_neg (by omega)]
      · rw [if_neg e0, if_neg e0, if_neg e1, if_neg e1]
theorem tell (h : IsR w b s) (n k : Nat) (hn : n < 8) (hk : k < 8) : IsR (w.setCell ⟨b, 9 + n * 8 + k, none⟩ (.bool true)) b (s.tell n k) := by
  refine h.set _ _ h.wf ?_ ?_
  · unfold cellR WS.tell
    rw [if_neg (by omega), if_neg (by omega), if_pos (by omega), show (9 + n * 8 + k - 9) / 8 = n by omega, show (9 + n * 8 + k - 9) % 8 = k by omega]; simp
  · intro j hj hne
    unfold cellR WS.tell
    by_cases e0 : j = 0
    · simp [e0]
    · by_cases e1 : j < 9
      · rw [if_neg e0, if_neg e0, if_pos e1, if_pos e1]
      · by_cases e2 : j < 73
        · rw [if_neg e0, if_neg e0, if_neg e1, if_neg e1, if_pos e2, if_pos e2]
          simp only
          rw [if_neg (by omega)]
        · rw [if_neg e0, if_neg e0, if_neg e1, if_neg e1, if_neg e2, if_neg e2]
theorem hear (h : IsR w b s) (n : Nat) (t : Int) (hn : n < 8) : IsR (w.setCell ⟨b, 73 + n, none⟩ (.int .i64 t)) b (s.hear n t) := by
  refine h.set _ _ h.wf ?_ ?_
  · unfold cellR WS.hear
    rw [if_neg (by omega), if_neg (by omega), if_neg (by omega), show 73 + n - 73 = n by omega]; simp
  · intro j hj hne
    unfold cellR WS.hear
    by_cases e0 : j = 0
    · simp [e0]
    · by_cases e1 : j < 9
      · rw [if_neg e0, if_neg e0, if_pos e1, if_pos e1]
      · by_cases e2 : j < 73
        · rw [if_neg e0, if_neg e0, if_neg e1, if_neg e1, if_pos e2, if_pos e2]
        · rw [if_neg e0, if_neg e0, if_neg e1, if_neg e1, if_neg e2, if_neg e2]
          simp only
          rw [if_neg (by omega)]
end IsR

/-! ### the calls -/
def okB (s : WS) (n : Int) : Bool := decide (s.ok n)
theorem okB_in {s : WS} {n : Int} (h : s.ok n) : okB s n = true := decide_eq_true h
theorem okB_out {s : WS} {n : Int} (h : ¬ s.ok n) : okB s n = false := decide_eq_false h

set_option maxHeartbeats 400000 in
theorem rnode_any (b : Nat) (s : WS) (n : Int) (w : World) (h : IsR w b s) :
    Calls Try.prog 30 #[.pointer (some ⟨b, 0, none⟩), .int .i64 n] w fun e w' => e = .returned (.bool (okB s n)) ∧ w = w' := by
  have hc := h.n
  by_cases hn : s.ok n
  · rw [okB_in hn]
    obtain ⟨h0, h1⟩ := hn
    go_enter Try.func30, Try.ntmps30
    go_wp2
    go_ret
    exact ⟨rfl, rfl⟩
  · rw [okB_out hn]
    unfold WS.ok at hn
    by_cases h0 : 0 ≤ n
    · have h1 : decide (n < s.N) = false := decide_eq_false (by omega)
      clear hn
      go_enter Try.func30, Try.ntmps30
      go_wp2
      go_ret
      exact ⟨rfl, rfl⟩
    · have h1 : n < 0 := by omega
      clear hn h0
      go_enter Try.func30, Try.ntmps30
      go_wp2
      go_ret
      exact ⟨rfl, rfl⟩

set_option maxHeartbeats 400000 in
theorem rnew_bad (n : Int) (w : World) (h : n < 1 ∨ 8 < n) :
    Calls Try.prog 14 #[.int .i64 n] w fun e w' => e = .returned (.pointer none) ∧ w = w' := by
  rcases h with h | h
  · go_enter Try.func14, Try.ntmps14
    go_wp2
    go_ret
    exact ⟨rfl, rfl⟩
  · have h1 : 1 ≤ n := by omega
    go_enter Try.func14, Try.ntmps14
    go_wp2
    go_ret
    exact ⟨rfl, rfl⟩

def zeroR : Array Value := Array.ofFn (n := 81) fun i => cellR (WS.init 0) i
theorem zeroR_run (w : World) : (zeroValue 63).run Try.prog w = .ok (.agg zeroR) w := by kernel_rfl
theorem zeroR_ne : (zeroR = #[]) = False := by
  refine eq_false (fun h => ?_)
  have : zeroR.size = 0 := by rw [h]; rfl
  simp [zeroR] at this
theorem zeroR_set (n : Int) : zeroR.setIfInBounds 0 (.int .i64 n) = Array.ofFn (n := 81) fun i => cellR (WS.init n) i := by
  unfold zeroR
  refine set_ofFn _ (cellR (WS.init n)) 0 _ rfl (fun j _ hj => ?_)
  simp [cellR, hj, WS.init]
set_option maxHeartbeats 400000 in
theorem rnew_ok (n : Int) (w : World) (h0 : 1 ≤ n) (h1 : n ≤ 8) :
    Calls Try.prog 14 #[.int .i64 n] w fun e w' => e = .returned (.pointer (some ⟨w.heap.size, 0, none⟩)) ∧ IsR w' w.heap.size (WS.init n) ∧ Below w.heap.size w w' := by
  have hz := zeroR_run
  have hne := zeroR_ne
  go_enter Try.func14, Try.ntmps14
  go_wp2
  go_ret
  exact ⟨rfl, ⟨⟨h0, h1⟩, by rw [alloc_new, zeroR_set]⟩, (Below.refl _ _).alloc (Nat.le_refl _) _⟩

set_option maxHeartbeats 400000 in
theorem rstop_any (b : Nat) (s : WS) (n : Int) (w : World) (h : IsR w b s) :
    Calls Try.prog 15 #[.pointer (some ⟨b, 0, none⟩), .int .i64 n] w fun e w' => e = .returned (.int .i64 (s.stopR n)) ∧ IsR w' b (s.stopS n) ∧ Fr (· = b) w w' := by
  have H := Lib.hid h
  by_cases hn : s.ok n
  · have hok := okB_in hn
    have hc := h.st n.toNat (h.ok_lt hn)
    have hf := h.free (1 + n.toNat)
    have Hs := h.stop n.toNat (h.ok_lt hn)
    have hl := h.ok_lt hn
    have hb0 := hn.1
    have hb1 : n < 8 := by omega
    cases hs : s.st n.toNat
    · rw [show s.stopR n = 0 by simp [WS.stopR, hn, hs], show s.stopS n = s.stop n.toNat by simp [WS.stopS, hn, hs]]
      rw [hs] at hc
      clear h hn hs hl
      go_enter Try.func15, Try.ntmps15
      go_wp2_with (go_at_call 30; refine (rnode_any b s _ _ H.out).mono ?_; rintro e w' ⟨rfl, rfl⟩)
      go_ret
      exact ⟨rfl, Hs, (Fr.refl (· = b) w).setCell (fun _ => rfl) _⟩
    · rw [show s.stopR n = 4 by simp [WS.stopR, hn, hs], show s.stopS n = s by simp [WS.stopS, hs]]
      rw [hs] at hc
      clear h hn hs hl
      go_enter Try.func15, Try.ntmps15
      go_wp2_with (go_at_call 30; refine (rnode_any b s _ _ H.out).mono ?_; rintro e w' ⟨rfl, rfl⟩)
      go_ret
      exact ⟨rfl, H.out, Fr.refl _ _⟩
  · have hok := okB_out hn
    rw [show s.stopR n = 1 by simp [WS.stopR, hn], show s.stopS n = s by simp [WS.stopS, hn]]
    clear h hn
    go_enter Try.func15, Try.ntmps15
    go_wp2_with (go_at_call 30; refine (rnode_any b s _ _ H.out).mono ?_; rintro e w' ⟨rfl, rfl⟩)
    go_ret
    exact ⟨rfl, H.out, Fr.refl _ _⟩

set_option maxHeartbeats 400000 in
theorem rruns_any (b : Nat) (s : WS) (n : Int) (w : World) (h : IsR w b s) :
    Calls Try.prog 22 #[.pointer (some ⟨b, 0, none⟩), .int .i64 n] w fun e w' => e = .returned (.bool (s.runs n)) ∧ w = w' := by
  have H := Lib.hid h
  by_cases hn : s.ok n
  · have hok := okB_in hn
    have hc := h.st n.toNat (h.ok_lt hn)
    have hl := h.ok_lt hn
    have hb0 := hn.1
    have hb1 : n < 8 := by omega
    rw [show s.runs n = !s.st n.toNat by simp [WS.runs, hn]]
    clear h hn hl
    go_enter Try.func22, Try.ntmps22
    go_wp2_with (go_at_call 30; refine (rnode_any b s _ _ H.out).mono ?_; rintro e w' ⟨rfl, rfl⟩)
    go_ret
    exact ⟨rfl, rfl⟩
  · have hok := okB_out hn
    rw [show s.runs n = false by simp [WS.runs, hn]]
    clear h hn
    go_enter Try.func22, Try.ntmps22
    go_wp2_with (go_at_call 30; refine (rnode_any b s _ _ H.out).mono ?_; rintro e w' ⟨rfl, rfl⟩)
    go_ret
    exact ⟨rfl, rfl⟩

set_option maxHeartbeats 400000 in
theorem rknows_any (b : Nat) (s : WS) (a c : Int) (w : World) (h : IsR w b s) :
    Calls Try.prog 23 #[.pointer (some ⟨b, 0, none⟩), .int .i64 a, .int .i64 c] w fun e w' => e = .returned (.bool (s.knows a c)) ∧ w = w' := by
  have H := Lib.hid h
  by_cases ha : s.ok a
  · have hok := okB_in ha
    by_cases hc : s.ok c
    · have hok2 := okB_in hc
      have hcell := h.td a.toNat c.toNat (h.ok_lt ha) (h.ok_lt hc)
      have hl := h.ok_lt ha
      have hl2 := h.ok_lt hc
      have hb0 := ha.1
      have hb1 : a < 8 := by omega
      have hb2 := hc.1
      have hb3 : c < 8 := by omega
      rw [show s.knows a c = s.td a.toNat c.toNat by simp [WS.knows, ha, hc]]
      clear h ha hc hl hl2
      go_enter Try.func23, Try.ntmps23
      go_wp2_with (go_at_call 30; refine (rnode_any b s _ _ H.out).mono ?_; rintro e w' ⟨rfl, rfl⟩)
      go_ret
      exact ⟨rfl, rfl⟩
    · have hok2 := okB_out hc
      rw [show s.knows a c = false by simp [WS.knows, hc]]
      clear h ha hc
      go_enter Try.func23, Try.ntmps23
      go_wp2_with (go_at_call 30; refine (rnode_any b s _ _ H.out).mono ?_; rintro e w' ⟨rfl, rfl⟩)
      go_ret
      exact ⟨rfl, rfl⟩
  · have hok := okB_out ha
    rw [show s.knows a c = false by simp [WS.knows, ha]]
    clear h ha
    go_enter Try.func23, Try.ntmps23
    go_wp2_with (go_at_call 30; refine (rnode_any b s _ _ H.out).mono ?_; rintro e w' ⟨rfl, rfl⟩)
    go_ret
    exact ⟨rfl, rfl⟩

set_option maxHeartbeats 400000 in
theorem rtell_bad (b : Nat) (s : WS) (a c : Int) (w : World) (h : IsR w b s) (hx : ¬ (s.ok a ∧ s.ok c ∧ a ≠ c)) :
    Calls Try.prog 16 #[.pointer (some ⟨b, 0, none⟩), .int .i64 a, .int .i64 c] w fun e w' => e = .returned (.int .i64 1) ∧ w = w' := by
  have H := Lib.hid h
  by_cases ha : s.ok a
  · have hok := okB_in ha
    by_cases hc : s.ok c
    · have hok2 := okB_in hc
      have he : a = c := by
        by_cases e : a = c
        · exact e
        · exact absurd ⟨ha, hc, e⟩ hx
      subst he
      clear h ha hc hx
      go_enter Try.func16, Try.ntmps16
      go_wp2_with (go_at_call 30; refine (rnode_any b s _ _ H.out).mono ?_; rintro e w' ⟨rfl, rfl⟩)
      go_ret
      exact ⟨rfl, rfl⟩
    · have hok2 := okB_out hc
      clear h ha hc hx
      go_enter Try.func16, Try.ntmps16
      go_wp2_with (go_at_call 30; refine (rnode_any b s _ _ H.out).mono ?_; rintro e w' ⟨rfl, rfl⟩)
      go_ret
      exact ⟨rfl, rfl⟩
  · have hok := okB_out ha
    clear h ha hx
    go_enter Try.func16, Try.ntmps16
    go_wp2_with (go_at_call 30; refine (rnode_any b s _ _ H.out).mono ?_; rintro e w' ⟨rfl, rfl⟩)
    go_ret
    exact ⟨rfl, rfl⟩

set_option maxHeartbeats 400000 in
theorem rtell_runs (b : Nat) (s : WS) (a c : Int) (w : World) (h : IsR w b s) (ha : s.ok a) (hc : s.ok c) (hne : (a == c) = false) (hs : s.st c.toNat = false) :
    Calls Try.prog 16 #[.pointer (some ⟨b, 0, none⟩), .int .i64 a, .int .i64 c] w fun e w' => e = .returned (.int .i64 40) ∧ w = w' := by
  have H := Lib.hid h
  have hok := okB_in ha
  have hok2 := okB_in hc
  have h1 := h.st c.toNat (h.ok_lt hc)
  have h2 := h.st a.toNat (h.ok_lt ha)
  have h3 := h.td a.toNat c.toNat (h.ok_lt ha) (h.ok_lt hc)
  have hf := h.free (9 + a.toNat * 8 + c.toNat)
  have Hs := h.tell a.toNat c.toNat (h.ok_lt ha) (h.ok_lt hc)
  have hl := h.ok_lt ha
  have hl2 := h.ok_lt hc
  have hb0 := ha.1
  have hb1 : a < 8 := by omega
  have hb2 := hc.1
  have hb3 : c < 8 := by omega
  rw [hs] at h1
  clear h ha hc hl hl2 hs
  go_enter Try.func16, Try.ntmps16
  go_wp2_with (go_at_call 30; refine (rnode_any b s _ _ H.out).mono ?_; rintro e w' ⟨rfl, rfl⟩)
  go_ret
  exact ⟨rfl, rfl⟩

set_option maxHeartbeats 400000 in
theorem rtell_down (b : Nat) (s : WS) (a c : Int) (w : World) (h : IsR w b s) (ha : s.ok a) (hc : s.ok c) (hne : (a == c) = false) (hs : s.st c.toNat = true) (hd : s.st a.toNat = true) :
    Calls Try.prog 16 #[.pointer (some ⟨b, 0, none⟩), .int .i64 a, .int .i64 c] w fun e w' => e = .returned (.int .i64 43) ∧ w = w' := by
  have H := Lib.hid h
  have hok := okB_in ha
  have hok2 := okB_in hc
  have h1 := h.st c.toNat (h.ok_lt hc)
  have h2 := h.st a.toNat (h.ok_lt ha)
  have h3 := h.td a.toNat c.toNat (h.ok_lt ha) (h.ok_lt hc)
  have hf := h.free (9 + a.toNat * 8 + c.toNat)
  have Hs := h.tell a.toNat c.toNat (h.ok_lt ha) (h.ok_lt hc)
  have hl := h.ok_lt ha
  have hl2 := h.ok_lt hc
  have hb0 := ha.1
  have hb1 : a < 8 := by omega
  have hb2 := hc.1
  have hb3 : c < 8 := by omega
  rw [hs] at h1
  rw [hd] at h2
  clear h ha hc hl hl2 hs hd
  go_enter Try.func16, Try.ntmps16
  go_wp2_with (go_at_call 30; refine (rnode_any b s _ _ H.out).mono ?_; rintro e w' ⟨rfl, rfl⟩)
  go_ret
  exact ⟨rfl, rfl⟩

set_option maxHeartbeats 400000 in
theorem rtell_there (b : Nat) (s : WS) (a c : Int) (w : World) (h : IsR w b s) (ha : s.ok a) (hc : s.ok c) (hne : (a == c) = false) (hs : s.st c.toNat = true) (hd : s.st a.toNat = false) (ht : s.td a.toNat c.toNat = true) :
    Calls Try.prog 16 #[.pointer (some ⟨b, 0, none⟩), .int .i64 a, .int .i64 c] w fun e w' => e = .returned (.int .i64 4) ∧ w = w' := by
  have H := Lib.hid h
  have hok := okB_in ha
  have hok2 := okB_in hc
  have h1 := h.st c.toNat (h.ok_lt hc)
  have h2 := h.st a.toNat (h.ok_lt ha)
  have h3 := h.td a.toNat c.toNat (h.ok_lt ha) (h.ok_lt hc)
  have hf := h.free (9 + a.toNat * 8 + c.toNat)
  have Hs := h.tell a.toNat c.toNat (h.ok_lt ha) (h.ok_lt hc)
  have hl := h.ok_lt ha
  have hl2 := h.ok_lt hc
  have hb0 := ha.1
  have hb1 : a < 8 := by omega
  have hb2 := hc.1
  have hb3 : c < 8 := by omega
  rw [hs] at h1
  rw [hd] at h2
  rw [ht] at h3
  clear h ha hc hl hl2 hs hd ht
  go_enter Try.func16, Try.ntmps16
  go_wp2_with (go_at_call 30; refine (rnode_any b s _ _ H.out).mono ?_; rintro e w' ⟨rfl, rfl⟩)
  go_ret
  exact ⟨rfl, rfl⟩

set_option maxHeartbeats 400000 in
theorem rtell_new (b : Nat) (s : WS) (a c : Int) (w : World) (h : IsR w b s) (ha : s.ok a) (hc : s.ok c) (hne : (a == c) = false) (hs : s.st c.toNat = true) (hd : s.st a.toNat = false) (ht : s.td a.toNat c.toNat = false) :
    Calls Try.prog 16 #[.pointer (some ⟨b, 0, none⟩), .int .i64 a, .int .i64 c] w fun e w' => e = .returned (.int .i64 0) ∧ IsR w' b (s.tell a.toNat c.toNat) ∧ Fr (· = b) w w' := by
  have H := Lib.hid h
  have hok := okB_in ha
  have hok2 := okB_in hc
  have h1 := h.st c.toNat (h.ok_lt hc)
  have h2 := h.st a.toNat (h.ok_lt ha)
  have h3 := h.td a.toNat c.toNat (h.ok_lt ha) (h.ok_lt hc)
  have hf := h.free (9 + a.toNat * 8 + c.toNat)
  have Hs := h.tell a.toNat c.toNat (h.ok_lt ha) (h.ok_lt hc)
  have hl := h.ok_lt ha
  have hl2 := h.ok_lt hc
  have hb0 := ha.1
  have hb1 : a < 8 := by omega
  have hb2 := hc.1
  have hb3 : c < 8 := by omega
  rw [hs] at h1
  rw [hd] at h2
  rw [ht] at h3
  clear h ha hc hl hl2 hs hd ht
  go_enter Try.func16, Try.ntmps16
  go_wp2_with (go_at_call 30; refine (rnode_any b s _ _ H.out).mono ?_; rintro e w' ⟨rfl, rfl⟩)
  go_ret
  exact ⟨rfl, Hs, (Fr.refl (· = b) w).setCell (fun _ => rfl) _⟩

set_option maxHeartbeats 400000 in
theorem rtell_any (b : Nat) (s : WS) (a c : Int) (w : World) (h : IsR w b s) :
    Calls Try.prog 16 #[.pointer (some ⟨b, 0, none⟩), .int .i64 a, .int .i64 c] w fun e w' => e = .returned (.int .i64 (s.tellR a c)) ∧ IsR w' b (s.tellS a c) ∧ Fr (· = b) w w' := by
  have same : ∀ {r : Int}, s.tellR a c = r → r ≠ 0 → (Calls Try.prog 16 #[.pointer (some ⟨b, 0, none⟩), .int .i64 a, .int .i64 c] w fun e w' => e = .returned (.int .i64 r) ∧ w = w') →
      Calls Try.prog 16 #[.pointer (some ⟨b, 0, none⟩), .int .i64 a, .int .i64 c] w fun e w' => e = .returned (.int .i64 (s.tellR a c)) ∧ IsR w' b (s.tellS a c) ∧ Fr (· = b) w w' := fun {r} hr h0 hC => by
    rw [show s.tellS a c = s by simp [WS.tellS, hr, h0], hr]
    exact hC.mono fun e w' ⟨he, hw⟩ => ⟨he, hw ▸ h, hw ▸ Fr.refl _ _⟩
  by_cases hx : s.ok a ∧ s.ok c ∧ a ≠ c
  · obtain ⟨ha, hc, hne⟩ := hx
    have hne' : (a == c) = false := beq_eq_false_iff_ne.2 hne
    cases hs : s.st c.toNat
    · exact same (by simp [WS.tellR, ha, hc, hne, hs]) (by decide) (rtell_runs b s a c w h ha hc hne' hs)
    · cases hd : s.st a.toNat
      · cases ht : s.td a.toNat c.toNat
        · have hr : s.tellR a c = 0 := by simp [WS.tellR, ha, hc, hne, hs, hd, ht]
          rw [show s.tellS a c = s.tell a.toNat c.toNat by simp [WS.tellS, hr], hr]
          exact rtell_new b s a c w h ha hc hne' hs hd ht
        · exact same (by simp [WS.tellR, ha, hc, hne, hs, hd, ht]) (by decide) (rtell_there b s a c w h ha hc hne' hs hd ht)
      · exact same (by simp [WS.tellR, ha, hc, hne, hs, hd]) (by decide) (rtell_down b s a c w h ha hc hne' hs hd)
  · exact same (by simp only [WS.tellR, if_neg hx]) (by decide) (rtell_bad b s a c w h hx)

set_option maxHeartbeats 400000 in
theorem rheard_any (b : Nat) (s : WS) (n t : Int) (w : World) (h : IsR w b s) :
    Calls Try.prog 18 #[.pointer (some ⟨b, 0, none⟩), .int .i64 n, .int .i64 t] w fun e w' => e = .returned (.int .i64 (s.hearR n t)) ∧ IsR w' b (s.hearS n t) ∧ Fr (· = b) w w' := by
  have H := Lib.hid h
  by_cases hn : s.ok n
  · have hok := okB_in hn
    have hc := h.la n.toNat (h.ok_lt hn)
    have hf := h.free (73 + n.toNat)
    have Hs := h.hear n.toNat t (h.ok_lt hn)
    have hl := h.ok_lt hn
    have hb0 := hn.1
    have hb1 : n < 8 := by omega
    by_cases ht : t < s.la n.toNat
    · rw [show s.hearR n t = 1 by simp [WS.hearR, ht], show s.hearS n t = s by simp [WS.hearS, ht]]
      clear h hn hl
      go_enter Try.func18, Try.ntmps18
      go_wp2_with (go_at_call 30; refine (rnode_any b s _ _ H.out).mono ?_; rintro e w' ⟨rfl, rfl⟩)
      go_ret
      exact ⟨rfl, H.out, Fr.refl _ _⟩
    · rw [show s.hearR n t = 0 by simp [WS.hearR, ht, hn], show s.hearS n t = s.hear n.toNat t by simp [WS.hearS, ht, hn]]
      clear h hn hl
      have ht' : s.la n.toNat ≤ t := by omega
      clear ht
      go_enter Try.func18, Try.ntmps18
      go_wp2_with (go_at_call 30; refine (rnode_any b s _ _ H.out).mono ?_; rintro e w' ⟨rfl, rfl⟩)
      go_ret
      exact ⟨rfl, Hs, (Fr.refl (· = b) w).setCell (fun _ => rfl) _⟩
  · have hok := okB_out hn
    rw [show s.hearR n t = 1 by simp [WS.hearR, hn], show s.hearS n t = s by simp [WS.hearS, hn]]
    clear h hn
    go_enter Try.func18, Try.ntmps18
    go_wp2_with (go_at_call 30; refine (rnode_any b s _ _ H.out).mono ?_; rintro e w' ⟨rfl, rfl⟩)
    go_ret
    exact ⟨rfl, H.out, Fr.refl _ _⟩

set_option maxHeartbeats 400000 in
theorem rquiet_any (b : Nat) (s : WS) (n t m : Int) (w : World) (h : IsR w b s) :
    Calls Try.prog 25 #[.pointer (some ⟨b, 0, none⟩), .int .i64 n, .int .i64 t, .int .i64 m] w fun e w' => e = .returned (.bool (s.quiet n t m)) ∧ w = w' := by
  have H := Lib.hid h
  by_cases hn : s.ok n
  · have hok := okB_in hn
    have hc := h.la n.toNat (h.ok_lt hn)
    have hl := h.ok_lt hn
    have hb0 := hn.1
    have hb1 : n < 8 := by omega
    by_cases ht : s.la n.toNat < t
    · rw [show s.quiet n t m = decide (m < wrap64 (t - s.la n.toNat)) by simp [WS.quiet, hn, ht]]
      clear h hn hl
      go_enter Try.func25, Try.ntmps25
      go_wp2_with (go_at_call 30; refine (rnode_any b s _ _ H.out).mono ?_; rintro e w' ⟨rfl, rfl⟩)
      go_ret
      exact ⟨rfl, rfl⟩
    · rw [show s.quiet n t m = false by simp [WS.quiet, ht]]
      clear h hn hl
      have ht' : t ≤ s.la n.toNat := by omega
      clear ht
      go_enter Try.func25, Try.ntmps25
      go_wp2_with (go_at_call 30; refine (rnode_any b s _ _ H.out).mono ?_; rintro e w' ⟨rfl, rfl⟩)
      go_ret
      exact ⟨rfl, rfl⟩
  · have hok := okB_out hn
    rw [show s.quiet n t m = false by simp [WS.quiet, hn]]
    clear h hn
    go_enter Try.func25, Try.ntmps25
    go_wp2_with (go_at_call 30; refine (rnode_any b s _ _ H.out).mono ?_; rintro e w' ⟨rfl, rfl⟩)
    go_ret
    exact ⟨rfl, rfl⟩

end Go.Proofs.Ythfhigcenmcmaaa
