/- The walks through package watch, but for Due: each call comes to what WS says. -/
import Derived.Test.YthfhigcenmcmaaaB
namespace Go.Proofs.Ythfhigcenmcmaaa
open Go.RowKit

set_option maxHeartbeats 400000 in
theorem num_any (a : Int) (w : World) :
    Calls Try.prog 8 #[.int .i64 a] w fun e w' => e = .returned (.int .i64 a) ∧ w = w' := by
  go_enter Try.func8, Try.ntmps8
  go_wp2
  go_ret
  exact ⟨rfl, rfl⟩

def nodeP (b : Nat) (s : WS) (n : Int) : Option Addr := if s.ok n then some ⟨b, 1 + n.toNat * 10, none⟩ else none
theorem nodeP_in {b : Nat} {s : WS} {n : Int} (h : s.ok n) : nodeP b s n = some ⟨b, 1 + n.toNat * 10, none⟩ := if_pos h
theorem nodeP_out {b : Nat} {s : WS} {n : Int} (h : ¬ s.ok n) : nodeP b s n = none := if_neg h

set_option maxHeartbeats 400000 in
theorem node_any (b : Nat) (s : WS) (n : Int) (w : World) (h : IsW w b s) :
    Calls Try.prog 28 #[.pointer (some ⟨b, 0, none⟩), .int .i64 n] w fun e w' => e = .returned (.pointer (nodeP b s n)) ∧ w = w' := by
  have hc := h.n
  have hw := h.wf.2
  by_cases hn : s.ok n
  · rw [nodeP_in hn]
    unfold WS.ok at hn
    obtain ⟨h0, h1⟩ := hn
    go_enter Try.func28, Try.ntmps28
    go_wp2
    go_ret
    exact ⟨rfl, rfl⟩
  · rw [nodeP_out hn]
    unfold WS.ok at hn
    by_cases h0 : n < 0
    · go_enter Try.func28, Try.ntmps28
      go_wp2
      go_ret
      exact ⟨rfl, rfl⟩
    · have h1 : s.N ≤ n := by omega
      clear hn
      go_enter Try.func28, Try.ntmps28
      go_wp2
      go_ret
      exact ⟨rfl, rfl⟩

set_option maxHeartbeats 400000 in
theorem node_nil (n : Int) (w : World) :
    Calls Try.prog 28 #[.pointer none, .int .i64 n] w fun e w' => e = .returned (.pointer none) ∧ w = w' := by
  go_enter Try.func28, Try.ntmps28
  go_wp2
  go_ret
  exact ⟨rfl, rfl⟩

set_option maxHeartbeats 400000 in
theorem new_bad (n : Int) (w : World) (h : n < 1 ∨ 8 < n) :
    Calls Try.prog 7 #[.int .i64 n] w fun e w' => e = .returned (.tuple #[.pointer none, .int .i64 1]) ∧ w = w' := by
  rcases h with h | h
  · go_enter Try.func7, Try.ntmps7
    go_wp2
    go_ret2
    exact ⟨rfl, rfl⟩
  · have h1 : 1 ≤ n := by omega
    go_enter Try.func7, Try.ntmps7
    go_wp2
    go_ret2
    exact ⟨rfl, rfl⟩

def zeroW : Array Value := Array.ofFn (n := 81) fun i => cellW (WS.init 0) i
theorem zeroW_run (w : World) : (zeroValue 53).run Try.prog w = .ok (.agg zeroW) w := by kernel_rfl
theorem zeroW_ne : (zeroW = #[]) = False := by
  refine eq_false (fun h => ?_)
  have : zeroW.size = 0 := by rw [h]; rfl
  simp [zeroW] at this
theorem zeroW_set (n : Int) : zeroW.setIfInBounds 0 (.int .i64 n) = Array.ofFn (n := 81) fun i => cellW (WS.init n) i := by
  unfold zeroW
  refine set_ofFn _ (cellW (WS.init n)) 0 _ rfl (fun j _ hj => ?_)
  simp [cellW, hj, WS.init]

set_option maxHeartbeats 400000 in
theorem new_ok (n : Int) (w : World) (h0 : 1 ≤ n) (h1 : n ≤ 8) :
    Calls Try.prog 7 #[.int .i64 n] w fun e w' => e = .returned (.tuple #[.pointer (some ⟨w.heap.size, 0, none⟩), .int .i64 0]) ∧ IsW w' w.heap.size (WS.init n) ∧ Below w.heap.size w w' := by
  have hz := zeroW_run
  have hne := zeroW_ne
  go_enter Try.func7, Try.ntmps7
  go_wp2
  go_ret2
  exact ⟨rfl, ⟨⟨h0, h1⟩, by rw [alloc_new, zeroW_set]⟩, (Below.refl _ _).alloc (Nat.le_refl _) _⟩

set_option maxHeartbeats 400000 in
theorem stop_out (b : Nat) (s : WS) (n : Int) (w : World) (h : IsW w b s) (hn : ¬ s.ok n) :
    Calls Try.prog 9 #[.pointer (some ⟨b, 0, none⟩), .int .i64 n] w fun e w' => e = .returned (.int .i64 1) ∧ w = w' := by
  have H := Lib.hid h
  have HP := nodeP_out (b := b) hn
  clear h hn
  go_enter Try.func9, Try.ntmps9
  go_wp2_with (go_at_call 28; refine (node_any b s _ _ H.out).mono ?_; rintro e w' ⟨rfl, rfl⟩)
  go_ret
  exact ⟨rfl, rfl⟩

set_option maxHeartbeats 400000 in
theorem stop_was (b : Nat) (s : WS) (n : Int) (w : World) (h : IsW w b s) (hn : s.ok n) (hs : s.st n.toNat = true) :
    Calls Try.prog 9 #[.pointer (some ⟨b, 0, none⟩), .int .i64 n] w fun e w' => e = .returned (.int .i64 4) ∧ w = w' := by
  have H := Lib.hid h
  have HP := nodeP_in (b := b) hn
  have hc := h.st n.toNat (h.ok_lt' hn)
  rw [hs] at hc
  clear h hn hs
  go_enter Try.func9, Try.ntmps9
  go_wp2_with (go_at_call 28; refine (node_any b s _ _ H.out).mono ?_; rintro e w' ⟨rfl, rfl⟩)
  go_ret
  exact ⟨rfl, rfl⟩

set_option maxHeartbeats 400000 in
theorem stop_new (b : Nat) (s : WS) (n : Int) (w : World) (h : IsW w b s) (hn : s.ok n) (hs : s.st n.toNat = false) :
    Calls Try.prog 9 #[.pointer (some ⟨b, 0, none⟩), .int .i64 n] w fun e w' => e = .returned (.int .i64 0) ∧ IsW w' b (s.stop n.toNat) ∧ Fr (· = b) w w' := by
  have H := Lib.hid h
  have HP := nodeP_in (b := b) hn
  have hc := h.st n.toNat (h.ok_lt' hn)
  have hf := h.free (1 + n.toNat * 10)
  have Hs := h.stop n.toNat (h.ok_lt' hn)
  rw [hs] at hc
  clear h hn hs
  go_enter Try.func9, Try.ntmps9
  go_wp2_with (go_at_call 28; refine (node_any b s _ _ H.out).mono ?_; rintro e w' ⟨rfl, rfl⟩)
  go_ret
  exact ⟨rfl, Hs, (Fr.refl (· = b) w).setCell (fun _ => rfl) _⟩

set_option maxHeartbeats 400000 in
theorem stop_any (b : Nat) (s : WS) (n : Int) (w : World) (h : IsW w b s) :
    Calls Try.prog 9 #[.pointer (some ⟨b, 0, none⟩), .int .i64 n] w fun e w' => e = .returned (.int .i64 (s.stopR n)) ∧ IsW w' b (s.stopS n) ∧ Fr (· = b) w w' := by
  by_cases hn : s.ok n
  · cases hs : s.st n.toNat
    · rw [show s.stopR n = 0 by simp [WS.stopR, hn, hs], show s.stopS n = s.stop n.toNat by simp [WS.stopS, hn, hs]]
      exact stop_new b s n w h hn hs
    · rw [show s.stopR n = 4 by simp [WS.stopR, hn, hs], show s.stopS n = s by simp [WS.stopS, hn, hs]]
      exact (stop_was b s n w h hn hs).mono fun e w' ⟨he, hw⟩ => ⟨he, hw ▸ h, hw ▸ Fr.refl _ _⟩
  · rw [show s.stopR n = 1 by simp [WS.stopR, hn], show s.stopS n = s by simp [WS.stopS, hn]]
    exact (stop_out b s n w h hn).mono fun e w' ⟨he, hw⟩ => ⟨he, hw ▸ h, hw ▸ Fr.refl _ _⟩

set_option maxHeartbeats 400000 in
theorem runs_any (b : Nat) (s : WS) (n : Int) (w : World) (h : IsW w b s) :
    Calls Try.prog 12 #[.pointer (some ⟨b, 0, none⟩), .int .i64 n] w fun e w' => e = .returned (.bool (s.runs n)) ∧ w = w' := by
  have H := Lib.hid h
  by_cases hn : s.ok n
  · have HP := nodeP_in (b := b) hn
    have hc := h.st n.toNat (h.ok_lt' hn)
    rw [show s.runs n = !s.st n.toNat by simp [WS.runs, hn]]
    clear h hn
    go_enter Try.func12, Try.ntmps12
    go_wp2_with (go_at_call 28; refine (node_any b s _ _ H.out).mono ?_; rintro e w' ⟨rfl, rfl⟩)
    go_ret
    exact ⟨rfl, rfl⟩
  · have HP := nodeP_out (b := b) hn
    rw [show s.runs n = false by simp [WS.runs, hn]]
    clear h hn
    go_enter Try.func12, Try.ntmps12
    go_wp2_with (go_at_call 28; refine (node_any b s _ _ H.out).mono ?_; rintro e w' ⟨rfl, rfl⟩)
    go_ret
    exact ⟨rfl, rfl⟩

set_option maxHeartbeats 400000 in
theorem knows_any (b : Nat) (s : WS) (a c : Int) (w : World) (h : IsW w b s) :
    Calls Try.prog 11 #[.pointer (some ⟨b, 0, none⟩), .int .i64 a, .int .i64 c] w fun e w' => e = .returned (.bool (s.knows a c)) ∧ w = w' := by
  have H := Lib.hid h
  by_cases ha : s.ok a
  · by_cases hb : s.ok c
    · have HP := nodeP_in (b := b) ha
      have HP2 := nodeP_in (b := b) hb
      have hc := h.td a.toNat c.toNat (h.ok_lt' ha) (h.ok_lt' hb)
      rw [show s.knows a c = s.td a.toNat c.toNat by simp [WS.knows, ha, hb]]
      have hl := h.wf.2
      obtain ⟨hb0, hb1⟩ := hb
      have hb2 : c < 8 := by omega
      clear h ha
      go_enter Try.func11, Try.ntmps11
      go_wp2_with (go_at_call 28; refine (node_any b s _ _ H.out).mono ?_; rintro e w' ⟨rfl, rfl⟩)
      go_ret
      exact ⟨rfl, rfl⟩
    · have HP := nodeP_in (b := b) ha
      have HP2 := nodeP_out (b := b) hb
      rw [show s.knows a c = false by simp [WS.knows, hb]]
      clear h ha hb
      go_enter Try.func11, Try.ntmps11
      go_wp2_with (go_at_call 28; refine (node_any b s _ _ H.out).mono ?_; rintro e w' ⟨rfl, rfl⟩)
      go_ret
      exact ⟨rfl, rfl⟩
  · have HP := nodeP_out (b := b) ha
    rw [show s.knows a c = false by simp [WS.knows, ha]]
    clear h ha
    go_enter Try.func11, Try.ntmps11
    go_wp2_with (go_at_call 28; refine (node_any b s _ _ H.out).mono ?_; rintro e w' ⟨rfl, rfl⟩)
    go_ret
    exact ⟨rfl, rfl⟩

set_option maxHeartbeats 400000 in
theorem tell_bad (b : Nat) (s : WS) (a c : Int) (w : World) (h : IsW w b s) (hx : ¬ (s.ok a ∧ s.ok c ∧ a ≠ c)) :
    Calls Try.prog 10 #[.pointer (some ⟨b, 0, none⟩), .int .i64 a, .int .i64 c] w fun e w' => e = .returned (.int .i64 1) ∧ w = w' := by
  have H := Lib.hid h
  by_cases ha : s.ok a
  · have HP := nodeP_in (b := b) ha
    by_cases hc : s.ok c
    · have HP2 := nodeP_in (b := b) hc
      have he : a = c := by
        by_cases e : a = c
        · exact e
        · exact absurd ⟨ha, hc, e⟩ hx
      subst he
      clear h ha hc hx
      go_enter Try.func10, Try.ntmps10
      go_wp2_with (go_at_call 28; refine (node_any b s _ _ H.out).mono ?_; rintro e w' ⟨rfl, rfl⟩)
      go_ret
      exact ⟨rfl, rfl⟩
    · have HP2 := nodeP_out (b := b) hc
      clear h ha hc hx
      go_enter Try.func10, Try.ntmps10
      go_wp2_with (go_at_call 28; refine (node_any b s _ _ H.out).mono ?_; rintro e w' ⟨rfl, rfl⟩)
      go_ret
      exact ⟨rfl, rfl⟩
  · have HP := nodeP_out (b := b) ha
    clear h ha hx
    go_enter Try.func10, Try.ntmps10
    go_wp2_with (go_at_call 28; refine (node_any b s _ _ H.out).mono ?_; rintro e w' ⟨rfl, rfl⟩)
    go_ret
    exact ⟨rfl, rfl⟩

set_option maxHeartbeats 400000 in
theorem tell_runs (b : Nat) (s : WS) (a c : Int) (w : World) (h : IsW w b s) (ha : s.ok a) (hc : s.ok c) (hne : (a == c) = false) (hs : s.st c.toNat = false) :
    Calls Try.prog 10 #[.pointer (some ⟨b, 0, none⟩), .int .i64 a, .int .i64 c] w fun e w' => e = .returned (.int .i64 40) ∧ w = w' := by
  have H := Lib.hid h
  have HP := nodeP_in (b := b) ha
  have HP2 := nodeP_in (b := b) hc
  have h1 := h.st c.toNat (h.ok_lt' hc)
  rw [hs] at h1
  clear h ha hc hs
  go_enter Try.func10, Try.ntmps10
  go_wp2_with (go_at_call 28; refine (node_any b s _ _ H.out).mono ?_; rintro e w' ⟨rfl, rfl⟩)
  go_ret
  exact ⟨rfl, rfl⟩

set_option maxHeartbeats 400000 in
theorem tell_down (b : Nat) (s : WS) (a c : Int) (w : World) (h : IsW w b s) (ha : s.ok a) (hc : s.ok c) (hne : (a == c) = false) (hs : s.st c.toNat = true) (hd : s.st a.toNat = true) :
    Calls Try.prog 10 #[.pointer (some ⟨b, 0, none⟩), .int .i64 a, .int .i64 c] w fun e w' => e = .returned (.int .i64 43) ∧ w = w' := by
  have H := Lib.hid h
  have HP := nodeP_in (b := b) ha
  have HP2 := nodeP_in (b := b) hc
  have h1 := h.st c.toNat (h.ok_lt' hc)
  have h2 := h.st a.toNat (h.ok_lt' ha)
  rw [hs] at h1
  rw [hd] at h2
  clear h ha hc hs hd
  go_enter Try.func10, Try.ntmps10
  go_wp2_with (go_at_call 28; refine (node_any b s _ _ H.out).mono ?_; rintro e w' ⟨rfl, rfl⟩)
  go_ret
  exact ⟨rfl, rfl⟩

set_option maxHeartbeats 400000 in
theorem tell_there (b : Nat) (s : WS) (a c : Int) (w : World) (h : IsW w b s) (ha : s.ok a) (hc : s.ok c) (hne : (a == c) = false) (hs : s.st c.toNat = true) (hd : s.st a.toNat = false) (ht : s.td a.toNat c.toNat = true) :
    Calls Try.prog 10 #[.pointer (some ⟨b, 0, none⟩), .int .i64 a, .int .i64 c] w fun e w' => e = .returned (.int .i64 4) ∧ w = w' := by
  have H := Lib.hid h
  have HP := nodeP_in (b := b) ha
  have HP2 := nodeP_in (b := b) hc
  have h1 := h.st c.toNat (h.ok_lt' hc)
  have h2 := h.st a.toNat (h.ok_lt' ha)
  have h3 := h.td a.toNat c.toNat (h.ok_lt' ha) (h.ok_lt' hc)
  rw [hs] at h1
  rw [hd] at h2
  rw [ht] at h3
  have hl := h.wf.2
  have hc' := hc
  obtain ⟨hb0, hb1⟩ := hc'
  have hb2 : c < 8 := by omega
  clear h ha hc hs hd ht
  go_enter Try.func10, Try.ntmps10
  go_wp2_with (go_at_call 28; refine (node_any b s _ _ H.out).mono ?_; rintro e w' ⟨rfl, rfl⟩)
  go_ret
  exact ⟨rfl, rfl⟩

set_option maxHeartbeats 400000 in
theorem tell_new (b : Nat) (s : WS) (a c : Int) (w : World) (h : IsW w b s) (ha : s.ok a) (hc : s.ok c) (hne : (a == c) = false) (hs : s.st c.toNat = true) (hd : s.st a.toNat = false) (ht : s.td a.toNat c.toNat = false) :
    Calls Try.prog 10 #[.pointer (some ⟨b, 0, none⟩), .int .i64 a, .int .i64 c] w fun e w' => e = .returned (.int .i64 0) ∧ IsW w' b (s.tell a.toNat c.toNat) ∧ Fr (· = b) w w' := by
  have H := Lib.hid h
  have HP := nodeP_in (b := b) ha
  have HP2 := nodeP_in (b := b) hc
  have h1 := h.st c.toNat (h.ok_lt' hc)
  have h2 := h.st a.toNat (h.ok_lt' ha)
  have h3 := h.td a.toNat c.toNat (h.ok_lt' ha) (h.ok_lt' hc)
  rw [hs] at h1
  rw [hd] at h2
  rw [ht] at h3
  have hl := h.wf.2
  have hc' := hc
  obtain ⟨hb0, hb1⟩ := hc'
  have hb2 : c < 8 := by omega
  have hf := h.free (1 + a.toNat * 10 + 1 + c.toNat)
  have Hs := h.tell a.toNat c.toNat (h.ok_lt' ha) (h.ok_lt' hc)
  clear h ha hc hs hd ht
  go_enter Try.func10, Try.ntmps10
  go_wp2_with (go_at_call 28; refine (node_any b s _ _ H.out).mono ?_; rintro e w' ⟨rfl, rfl⟩)
  go_ret
  exact ⟨rfl, Hs, (Fr.refl (· = b) w).setCell (fun _ => rfl) _⟩

set_option maxHeartbeats 400000 in
theorem tell_any (b : Nat) (s : WS) (a c : Int) (w : World) (h : IsW w b s) :
    Calls Try.prog 10 #[.pointer (some ⟨b, 0, none⟩), .int .i64 a, .int .i64 c] w fun e w' => e = .returned (.int .i64 (s.tellR a c)) ∧ IsW w' b (s.tellS a c) ∧ Fr (· = b) w w' := by
  have same : ∀ {r : Int}, s.tellR a c = r → r ≠ 0 → (Calls Try.prog 10 #[.pointer (some ⟨b, 0, none⟩), .int .i64 a, .int .i64 c] w fun e w' => e = .returned (.int .i64 r) ∧ w = w') →
      Calls Try.prog 10 #[.pointer (some ⟨b, 0, none⟩), .int .i64 a, .int .i64 c] w fun e w' => e = .returned (.int .i64 (s.tellR a c)) ∧ IsW w' b (s.tellS a c) ∧ Fr (· = b) w w' := fun {r} hr h0 hC => by
    rw [show s.tellS a c = s by simp [WS.tellS, hr, h0], hr]
    exact hC.mono fun e w' ⟨he, hw⟩ => ⟨he, hw ▸ h, hw ▸ Fr.refl _ _⟩
  by_cases hx : s.ok a ∧ s.ok c ∧ a ≠ c
  · obtain ⟨ha, hc, hne⟩ := hx
    have hne' : (a == c) = false := beq_eq_false_iff_ne.2 hne
    cases hs : s.st c.toNat
    · exact same (by simp [WS.tellR, ha, hc, hne, hs]) (by decide) (tell_runs b s a c w h ha hc hne' hs)
    · cases hd : s.st a.toNat
      · cases ht : s.td a.toNat c.toNat
        · have hr : s.tellR a c = 0 := by simp [WS.tellR, ha, hc, hne, hs, hd, ht]
          rw [show s.tellS a c = s.tell a.toNat c.toNat by simp [WS.tellS, hr], hr]
          exact tell_new b s a c w h ha hc hne' hs hd ht
        · exact same (by simp [WS.tellR, ha, hc, hne, hs, hd, ht]) (by decide) (tell_there b s a c w h ha hc hne' hs hd ht)
      · exact same (by simp [WS.tellR, ha, hc, hne, hs, hd]) (by decide) (tell_down b s a c w h ha hc hne' hs hd)
  · exact same (by simp only [WS.tellR, if_neg hx]) (by decide) (tell_bad b s a c w h hx)

set_option maxHeartbeats 400000 in
theorem heard_any (b : Nat) (s : WS) (n t : Int) (w : World) (h : IsW w b s) :
    Calls Try.prog 17 #[.pointer (some ⟨b, 0, none⟩), .int .i64 n, .int .i64 t] w fun e w' => e = .returned (.int .i64 (s.hearR n t)) ∧ IsW w' b (s.hearS n t) ∧ Fr (· = b) w w' := by
  have H := Lib.hid h
  by_cases hn : s.ok n
  · have HP := nodeP_in (b := b) hn
    have hc := h.la n.toNat (h.ok_lt' hn)
    have hf := h.free (1 + n.toNat * 10 + 9)
    have Hs := h.hear n.toNat t (h.ok_lt' hn)
    by_cases ht : t < s.la n.toNat
    · rw [show s.hearR n t = 1 by simp [WS.hearR, ht], show s.hearS n t = s by simp [WS.hearS, ht]]
      clear h hn
      go_enter Try.func17, Try.ntmps17
      go_wp2_with (go_at_call 28; refine (node_any b s _ _ H.out).mono ?_; rintro e w' ⟨rfl, rfl⟩)
      go_ret
      exact ⟨rfl, H.out, Fr.refl _ _⟩
    · rw [show s.hearR n t = 0 by simp [WS.hearR, ht, hn], show s.hearS n t = s.hear n.toNat t by simp [WS.hearS, ht, hn]]
      clear h hn
      have ht' : s.la n.toNat ≤ t := by omega
      clear ht
      go_enter Try.func17, Try.ntmps17
      go_wp2_with (go_at_call 28; refine (node_any b s _ _ H.out).mono ?_; rintro e w' ⟨rfl, rfl⟩)
      go_ret
      exact ⟨rfl, Hs, (Fr.refl (· = b) w).setCell (fun _ => rfl) _⟩
  · have HP := nodeP_out (b := b) hn
    rw [show s.hearR n t = 1 by simp [WS.hearR, hn], show s.hearS n t = s by simp [WS.hearS, hn]]
    clear h hn
    go_enter Try.func17, Try.ntmps17
    go_wp2_with (go_at_call 28; refine (node_any b s _ _ H.out).mono ?_; rintro e w' ⟨rfl, rfl⟩)
    go_ret
    exact ⟨rfl, H.out, Fr.refl _ _⟩

set_option maxHeartbeats 400000 in
theorem quiet_any (b : Nat) (s : WS) (n t m : Int) (w : World) (h : IsW w b s) :
    Calls Try.prog 24 #[.pointer (some ⟨b, 0, none⟩), .int .i64 n, .int .i64 t, .int .i64 m] w fun e w' => e = .returned (.bool (s.quiet n t m)) ∧ w = w' := by
  have H := Lib.hid h
  by_cases hn : s.ok n
  · have HP := nodeP_in (b := b) hn
    have hc := h.la n.toNat (h.ok_lt' hn)
    by_cases ht : s.la n.toNat < t
    · rw [show s.quiet n t m = decide (m < wrap64 (t - s.la n.toNat)) by simp [WS.quiet, hn, ht]]
      clear h hn
      go_enter Try.func24, Try.ntmps24
      go_wp2_with (go_at_call 28; refine (node_any b s _ _ H.out).mono ?_; rintro e w' ⟨rfl, rfl⟩)
      go_ret
      exact ⟨rfl, rfl⟩
    · rw [show s.quiet n t m = false by simp [WS.quiet, ht]]
      clear h hn
      have ht' : t ≤ s.la n.toNat := by omega
      clear ht
      go_enter Try.func24, Try.ntmps24
      go_wp2_with (go_at_call 28; refine (node_any b s _ _ H.out).mono ?_; rintro e w' ⟨rfl, rfl⟩)
      go_ret
      exact ⟨rfl, rfl⟩
  · have HP := nodeP_out (b := b) hn
    rw [show s.quiet n t m = false by simp [WS.quiet, hn]]
    clear h hn
    go_enter Try.func24, Try.ntmps24
    go_wp2_with (go_at_call 28; refine (node_any b s _ _ H.out).mono ?_; rintro e w' ⟨rfl, rfl⟩)
    go_ret
    exact ⟨rfl, rfl⟩

end Go.Proofs.Ythfhigcenmcmaaa
