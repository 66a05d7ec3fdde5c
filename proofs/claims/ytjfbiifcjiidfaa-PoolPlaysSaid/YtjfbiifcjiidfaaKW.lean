/- The walks through the law's light and knows. -/
import Derived.Lib.SlBytesConst
import Derived.Test.YtjfbiifcjiidfaaSP
namespace Go.Proofs.Ytjfbiifcjiidfaa
open Go.RowKit

abbrev Ac := D_glebelaw20_Act
structure ActAt (w : World) (A : Option Addr) (k : Nat) (a : Ac) (g o : Nat) (bv : Value) : Prop where
  A : A = some ⟨g, o, none⟩
  lt : g < w.heap.size
  c0 : w.cell? ⟨g, o + k * 5, none⟩ = some (.int .i64 a.kind)
  c1 : w.cell? ⟨g, o + k * 5 + 1, none⟩ = some (.int .i64 a.i)
  c2 : w.cell? ⟨g, o + k * 5 + 2, none⟩ = some (.int .i64 a.x.from_)
  c3 : w.cell? ⟨g, o + k * 5 + 3, none⟩ = some (.int .i64 a.x.to_)
  c4 : w.cell? ⟨g, o + k * 5 + 4, none⟩ = some bv
  bytes : RdK (RK.int .u8) w bv a.x.b
  wf : (Lit.int .i64 a.kind).wf = true ∧ (Lit.int .i64 a.i).wf = true ∧ (Lit.int .i64 a.x.from_).wf = true ∧ (Lit.int .i64 a.x.to_).wf = true
theorem act_at {w : World} {A : Option Addr} {c : Nat} {l : List Ac} (h : RdK D_glebelaw20_Act.k w (.slice A l.length c) l) (k : Nat) (hk : k < l.length) : ∃ g o bv, ActAt w A k l[k] g o bv := by
  rcases h with ⟨rfl, _⟩ | ⟨g, o, c', he, _, _, hg, hc⟩
  · cases hk
  · cases he
    obtain ⟨cs, _, ⟨a0, a1, a2, a3, a4, rfl, ⟨h0, w0⟩, ⟨h1, w1⟩, ⟨b0, b1, b2, e, ⟨h2, w2⟩, ⟨h3, w3⟩, bv, h4, hb⟩⟩, hat⟩ := hc k l[k] (List.getElem?_eq_getElem hk)
    simp at e h0 h1 h2 h3 h4
    obtain ⟨rfl, rfl, rfl⟩ := e
    subst h0 h1 h2 h3 h4
    have q := fun i u => hat i u
    refine ⟨g, o, a4, rfl, hg, ?_, ?_, ?_, ?_, ?_, hb, w0, w1, w2, w3⟩
    · have := hat 0 _ rfl; rw [← Nat.add_assoc] at this; exact this
    · have := hat 1 _ rfl; rw [← Nat.add_assoc] at this; exact this
    · have := hat 2 _ rfl; rw [← Nat.add_assoc] at this; exact this
    · have := hat 3 _ rfl; rw [← Nat.add_assoc] at this; exact this
    · have := hat 4 _ rfl; rw [← Nat.add_assoc] at this; exact this
theorem ActAt.below {w w' : World} {A : Option Addr} {k : Nat} {a : Ac} {g o : Nat} {bv : Value} (h : ActAt w A k a g o bv) (hb : Below w.heap.size w w') : ActAt w' A k a g o bv :=
  ⟨h.A, Nat.lt_of_lt_of_le h.lt hb.size, cell_kept hb h.c0, cell_kept hb h.c1, cell_kept hb h.c2, cell_kept hb h.c3, cell_kept hb h.c4, h.bytes.below hb, h.wf⟩

/-- Lights: 'true' says that acts are few and their bytes short. -/
def LightAns (l : List Ac) (e : Ending) : Prop := ∃ r : Bool, e = .returned (.bool r) ∧ (r = true → l.length ≤ 120 ∧ ∀ a ∈ l, a.x.b.length ≤ 500)
theorem light_end {l : List Ac} {k : Nat} (hk : k = l.length ∨ 130 ≤ k) (hkl : k ≤ l.length) (h : ∀ a ∈ l.take k, a.x.b.length ≤ 500) : decide ((l.length : Int) ≤ 120) = true → l.length ≤ 120 ∧ ∀ a ∈ l, a.x.b.length ≤ 500 := by
  intro h1
  have h1 : l.length ≤ 120 := by have := of_decide_eq_true h1; omega
  have : k = l.length := by omega
  rw [this, List.take_length] at h
  exact ⟨h1, h⟩
set_option maxHeartbeats 1000000 in
theorem light_any (A : Option Addr) (c : Nat) (l : List Ac) (w : World) (hv : RdK D_glebelaw20_Act.k w (.slice A l.length c) l) :
    Calls Try.prog 6 #[.slice A l.length c] w fun e w' => LightAns l e ∧ w' = w := by
  have hat := fun k hk => act_at hv k hk
  replace hat := Lib.hid hat
  have hle : l.length ≤ 9223372036854775807 := by have := hv.le; unfold maxLen at this; omega
  go_enter Try.func6, Try.ntmps6
  go_wp2
  go_loop [3] (fun i => ∃ k : Nat, k ≤ l.length ∧ k ≤ 130 ∧ i = .int .i64 k ∧ Hid (∀ a ∈ l.take k, a.x.b.length ≤ 500)) (fun i => 130 - (intOf i).toNat)
  case atStart => exact ⟨0, Nat.zero_le _, by omega, rfl, Lib.hid (fun a h => by simp at h)⟩
  case round =>
    obtain ⟨k, hk, hk2, rfl, HA⟩ := hrel
    by_cases hlt : k < l.length ∧ k < 130
    · obtain ⟨hlt, hl2⟩ := hlt
      obtain ⟨g, o, bv, H⟩ := hat.out k hlt
      obtain rfl := H.A
      have c4 := H.c4
      obtain ⟨Ab, cb, hbv⟩ := H.bytes.slice
      rw [hbv] at c4
      have hi0 : (k : Int) < (l.length : Int) := by omega
      have hi1 : decide (k < l.length) = true := decide_eq_true hlt
      have hi2 : decide ((k : Int) < 130) = true := decide_eq_true (by omega)
      replace H := Lib.hid H
      replace hbv := Lib.hid hbv
      have hsn : List.take (k + 1) l = List.take k l ++ [l[k]] := List.take_succ_eq_append_getElem hlt
      generalize l[k] = a at *
      replace hsn := Lib.hid hsn
      cases hbig : decide ((500 : Int) < (a.x.b.length : Int))
      · go_wp2
        go_round
        case rel =>
          refine ⟨k + 1, by omega, by omega, by go_num, Lib.hid ?_⟩
          rw [hsn.out]
          intro x hx
          rcases List.mem_append.1 hx with hx | hx
          · exact HA.out x hx
          · simp at hx; subst hx
            have := of_decide_eq_false hbig
            omega
        case measure => simp [intOf]; omega
      · go_wp2
        go_ret
        exact ⟨⟨false, rfl, fun h => by cases h⟩, rfl⟩
    · by_cases hlt2 : k < l.length
      · have hi0 : (k : Int) < (l.length : Int) := by omega
        have hi3 : ¬ (k : Int) < 130 := by omega
        have hend := light_end (l := l) (k := k) (.inr (by omega)) hk HA.out
        replace hend := Lib.hid hend
        go_wp2
        go_ret
        exact ⟨⟨_, rfl, hend.out⟩, rfl⟩
      · have hend := light_end (l := l) (k := k) (.inl (by omega)) hk HA.out
        replace hend := Lib.hid hend
        go_wp2
        go_ret
        exact ⟨⟨_, rfl, hend.out⟩, rfl⟩

theorem conv_rd {w : World} {v : Value} {l : List Int} (h : Rd w v l.length (byV l)) : (convert 30 9 v).run Try.prog w = .ok (.string (strOfNums l)) w := by
  rcases h with ⟨h0, _, A, c, rfl⟩ | ⟨g, o, c, rfl, _, hc⟩
  · have hl : l = [] := List.eq_nil_of_length_eq_zero h0
    subst hl
    cases A with
    | none => exact run_convert_bytes_nil w _ _ Try.underlying30 Try.underlying5 _ _ _ Try.underlying9
    | some a => exact run_convert_bytes_back w 30 9 5 a c [] Try.underlying30 Try.underlying5 Try.underlying9 (fun j hj => by cases hj)
  · exact run_convert_bytes_arg w 30 5 Try.underlying30 Try.underlying5 g o l.length c l rfl (fun i hi => hc i _ (by rw [byV_at hi]; simp [hi])) _ Try.underlying9

def x1 : Pc := ⟨1, 2, [97]⟩
theorem k_sendR : sendR ⟨3, 0, []⟩ x1 = 0 := by decide
theorem k_sendS : sendS ⟨3, 0, []⟩ x1 = ⟨3, 0, [x1]⟩ := by rfl
theorem k_twiceR : twiceR ⟨3, 0, [x1]⟩ 0 = 0 := by decide
theorem k_twiceS : twiceS ⟨3, 0, [x1]⟩ 0 = ⟨3, 0, [x1, x1]⟩ := by rfl
theorem k_takeR : takeR ⟨3, 0, [x1, x1]⟩ 0 = 0 := by decide
theorem k_takeS : takeS ⟨3, 0, [x1, x1]⟩ 0 = ⟨3, 0, [x1]⟩ := by rfl
theorem k_item : itemAt ⟨3, 0, [x1, x1]⟩ 0 = x1 := by rfl
theorem k_ok {n : Nat} : SOk ⟨3, 0, List.replicate n x1⟩ := ⟨⟨Int.le_refl _, by simp⟩, fun x hx => by rw [(List.mem_replicate.1 hx).2]; decide⟩
theorem k_to : toL [x1] 2 = 1 := by decide

set_option maxHeartbeats 2000000 in
theorem knows_true (w : World) :
    Calls Try.prog 7 #[] w fun e w' => e = .returned (.bool true) ∧ Below w.heap.size w w' := by
  have kc := fun (w : World) (C : Array Value) (n c : Nat) => Lib.run_convert_bytes_const (P := Try.prog) w 30 5 C n c Try.underlying30 Try.underlying5
  go_enter Try.func7, Try.ntmps7
  go_wp2_with fail
  refine (new_any w.heap.size 3 _ (Nat.le_refl _) (by omega) (by omega)).mono ?_
  rintro e w1 ⟨rfl, hP, hB1⟩
  have H1 := Lib.hid hP
  have hlt := hP.lt
  clear hP
  go_wp2_with fail
  have hb2 : Below w1.heap.size w1 (w1.alloc (.cells #[.int .u8 97] 5 (1, 2))) := (Below.refl _ w1).alloc (Nat.le_refl _) _
  have hR2 : Rd (w1.alloc (.cells #[.int .u8 97] 5 (1, 2))) (.slice (some ⟨w1.heap.size, 0, none⟩) x1.b.length 1) x1.b.length (byV x1.b) :=
    .inr ⟨_, 0, 1, rfl, by simp, fun j u hj => by rw [Nat.zero_add, cell_of_block (alloc_new w1 _)]; simpa [x1, byV] using hj⟩
  refine (send_any (H1.out.of_below hb2) (k_ok (n := 0)) x1 _ _ hR2 (by decide)).mono ?_
  rintro e w2 ⟨rfl, hP, hF⟩
  have hlow := (H1.out.of_below hb2).wr_low
  rw [k_sendR]
  rw [k_sendS] at hP
  have hB2 : Below w.heap.size w w2 := (hB1.trans (hb2.mono hB1.size)).trans (hF.below (by have := hB1.size; simp; omega) (fun k hk e => by have := hlow k e; omega))
  have H2 := Lib.hid hP
  clear hP hF hlow hb2 hR2 hB1 H1
  go_wp2_with fail
  refine (twice_any H2.out (k_ok (n := 1)) 0).mono ?_
  rintro e w3 ⟨rfl, hP, hF⟩
  have hlow := H2.out.wr_low
  rw [k_twiceR]
  rw [k_twiceS] at hP
  have hB3 : Below w.heap.size w w3 := hB2.trans (hF.below hB2.size (fun k hk e => by have := hlow k e; omega))
  have H3 := Lib.hid hP
  clear hP hF hlow hB2 H2
  go_wp2_with fail
  refine (take_any H3.out (k_ok (n := 2)) 0).mono ?_
  rintro e w4 ⟨vx, rfl, hx, hP, hF⟩
  have hlow := H3.out.wr_low
  rw [k_takeR]
  rw [k_item] at hx ⊢
  rw [k_takeS] at hP
  have hB4 : Below w.heap.size w w4 := hB3.trans (hF.below hB3.size (fun k hk e => by have := hlow k e; omega))
  have H4 := Lib.hid hP
  obtain ⟨Ax, cx, rfl, _⟩ := own_slice hx
  have hb5 : Below w4.heap.size w4 (w4.alloc (.cells #[.int .i64 x1.from_, .int .i64 x1.to_, .slice Ax x1.b.length cx] 37)) := (Below.refl _ w4).alloc (Nat.le_refl _) _
  have H5 := Lib.hid (H4.out.of_below hb5)
  have hB5 := hB4.trans (hb5.mono hB4.size)
  have hcv := conv_rd ((Rd.of_own hx).below hb5)
  rw [show strOfNums x1.b = ⟨#[97]⟩ by rfl] at hcv
  clear hP hF hlow hB3 H3 hx
  replace hb5 := Lib.hid hb5
  replace hB4 := Lib.hid hB4
  replace hB5 := Lib.hid hB5
  go_wp2_with (first
    | (go_at_call 9; refine (num_any _ _).mono ?_; rintro e w9 ⟨rfl, rfl⟩)
    | (go_at_call 10; refine (len_any H5.out).mono ?_; rintro e w9 ⟨rfl, rfl⟩)
    | (go_at_call 27; refine (to_any H5.out 2).mono ?_; rintro e w9 ⟨rfl, rfl⟩; rw [k_to])
    | (go_at_call 15; refine (lost_any H5.out).mono ?_; rintro e w9 ⟨rfl, rfl⟩))
  go_ret
  exact ⟨rfl, hB5.out⟩
end Go.Proofs.Ytjfbiifcjiidfaa
