/- The pool in memory; the walks through its small functions. -/
import Derived.Deep.DeepCutAuto
import Derived.Deep.CutBlock
import Derived.Deep.RegionHeld3
import Derived.Deep.RegionLaw
import Derived.StillTailTactics
import Derived.Laws.EntriesVeiled
import Derived.Test.YtjfbiifcjiidfaaTY
import Derived.Test.YtjfbiifcjiidfaaMM
namespace Go.Proofs.Ytjfbiifcjiidfaa
open Go.RowKit

abbrev Pc := D_gleberef20_Parcel
def byV (b : List Int) : List Value := b.map fun x => Value.int .u8 x
theorem byV_length (b : List Int) : (byV b).length = b.length := by simp [byV]
theorem byV_one (b : List Int) : ∀ u ∈ byV b, u.oneCell' = true := by
  intro u hu
  obtain ⟨i, _, rfl⟩ := List.mem_map.1 hu
  rfl
theorem byV_at {b : List Int} {k : Nat} (h : k < b.length) : (byV b)[k]? = some (.int .u8 b[k]) := by simp [byV, h]
/-- The cells of a row of parcels whose bytes lie in the slices bs. -/
def pcV : List Pc → List Value → List Value
  | x :: l, v :: bs => .int .i64 x.from_ :: .int .i64 x.to_ :: v :: pcV l bs
  | _, _ => []
theorem pcV_length : ∀ {l : List Pc} {bs : List Value}, bs.length = l.length → (pcV l bs).length = l.length * 3
  | [], [], _ => rfl
  | [], _ :: _, h => by cases h
  | _ :: _, [], h => by cases h
  | _ :: l, _ :: bs, h => by
    have := pcV_length (l := l) (bs := bs) (by simpa using h)
    simp only [pcV, List.length_cons, this]; omega
theorem pcV_append : ∀ {l : List Pc} {bs : List Value} (x : Pc) (v : Value), bs.length = l.length → pcV (l ++ [x]) (bs ++ [v]) = pcV l bs ++ [.int .i64 x.from_, .int .i64 x.to_, v]
  | [], [], _, _, _ => rfl
  | [], _ :: _, _, _, h => by cases h
  | _ :: _, [], _, _, h => by cases h
  | _ :: l, _ :: bs, x, v, h => by
    have := pcV_append (l := l) (bs := bs) x v (by simpa using h)
    simp only [List.cons_append, pcV, this]
theorem pcV_at : ∀ {l : List Pc} {bs : List Value} {k : Nat} (h : bs.length = l.length) (hk : k < l.length), (pcV l bs)[k * 3]? = some (.int .i64 l[k].from_) ∧ (pcV l bs)[k * 3 + 1]? = some (.int .i64 l[k].to_) ∧ (pcV l bs)[k * 3 + 2]? = some (bs[k]'(by omega))
  | x :: l, v :: bs, 0, _, _ => ⟨rfl, rfl, rfl⟩
  | x :: l, v :: bs, k + 1, h, hk => by
    have := pcV_at (l := l) (bs := bs) (k := k) (by simpa using h) (by simpa using hk)
    rw [show (k + 1) * 3 = k * 3 + 3 by omega, show k * 3 + 3 + 1 = (k * 3 + 1) + 3 by omega, show k * 3 + 3 + 2 = (k * 3 + 2) + 3 by omega]
    simpa [pcV] using this

structure PS where
  most : Int
  lost : Int
  l : List Pc
/-- A pool in memory: its block; its row of parcels, of the call's own; each one's bytes. -/
structure PA (β b : Nat) (v : Value) (bs : List Value) (s : PS) (F : Nat → Prop) (w : World) : Prop where
  blk : w.heap[b]? = some (.cells #[.int .i64 s.most, .int .i64 s.lost, v] 60 (0, 0))
  low : β ≤ b
  pos : 1 ≤ s.most ∧ s.most ≤ 1024 ∧ (s.l.length : Int) ≤ s.most
  row : w.ownsRow β 37 3 v s.l.length (pcV s.l bs)
  len : bs.length = s.l.length
  byt : ∀ i (h : i < s.l.length) (h' : i < bs.length), Rd w bs[i] s.l[i].b.length (byV s.l[i].b)
  own : ∀ i (h : i < bs.length) g, (bs[i]).ownBlock = some g → F g ∧ ∃ c fz, w.heap[g]? = some (.cells c 5 fz)

/-- Blocks of three types: the pool's own, the row's, the bytes': none of them is another one. -/
theorem PA.row_ne {β b : Nat} {v : Value} {bs : List Value} {s : PS} {F : Nat → Prop} {w : World} (h : PA β b v bs s F w) : v.ownBlock ≠ some b := by
  intro hv
  rcases h.row.2 with ⟨rfl, _⟩ | ⟨g, cap, cur, rfl, _, hh, _⟩
  · cases hv
  · cases hv
    rw [h.blk] at hh
    simp at hh
theorem PA.byt_ne {β b : Nat} {v : Value} {bs : List Value} {s : PS} {F : Nat → Prop} {w : World} (h : PA β b v bs s F w) (i : Nat) (hi : i < bs.length) (g : Nat) (hg : (bs[i]).ownBlock = some g) : g ≠ b ∧ v.ownBlock ≠ some g := by
  obtain ⟨_, c, fz, hc⟩ := h.own i hi g hg
  refine ⟨?_, ?_⟩
  · rintro rfl
    rw [h.blk] at hc
    simp at hc
  · intro hv
    rcases h.row.2 with ⟨rfl, _⟩ | ⟨g', cap, cur, rfl, _, hh, _⟩
    · cases hv
    · cases hv
      rw [hc] at hh
      simp at hh

theorem node_any (n : Int) (w : World) : Calls Try.prog 30 #[.int .i64 n] w fun e w' => e = .returned (.bool (decide (0 ≤ n) && decide (n < 8))) ∧ w' = w := by
  cases h : decide (0 ≤ n)
  · go_enter Try.func30, Try.ntmps30
    go_wp2
    go_ret
    exact ⟨rfl, rfl⟩
  · go_enter Try.func30, Try.ntmps30
    go_wp2
    go_ret
    exact ⟨rfl, rfl⟩
theorem num_any (a : Int) (w : World) : Calls Try.prog 9 #[.int .i64 a] w fun e w' => e = .returned (.int .i64 a) ∧ w' = w := by
  go_enter Try.func9, Try.ntmps9
  go_wp2
  go_ret
  exact ⟨rfl, rfl⟩
theorem none_nil (w : World) : Calls Try.prog 29 #[.pointer none] w fun e w' => e = .returned (.bool true) ∧ w' = w := by
  go_enter Try.func29, Try.ntmps29
  go_wp2
  go_ret
  exact ⟨rfl, rfl⟩
theorem none_at (b : Nat) (most : Int) (w : World) (h : w.cell? ⟨b, 0, none⟩ = some (.int .i64 most)) : Calls Try.prog 29 #[.pointer (some ⟨b, 0, none⟩)] w fun e w' => e = .returned (.bool (most == 0)) ∧ w' = w := by
  go_enter Try.func29, Try.ntmps29
  go_wp2
  go_ret
  exact ⟨rfl, rfl⟩
theorem PA.most {β b : Nat} {v : Value} {bs : List Value} {s : PS} {F : Nat → Prop} {w : World} (h : PA β b v bs s F w) : (s.most == 0) = false := by
  have := h.pos.1
  exact beq_eq_false_iff_ne.2 (by omega)
theorem none_pool {β b : Nat} {v : Value} {bs : List Value} {s : PS} {F : Nat → Prop} {w : World} (h : PA β b v bs s F w) : Calls Try.prog 29 #[.pointer (some ⟨b, 0, none⟩)] w fun e w' => e = .returned (.bool false) ∧ w' = w := by
  rw [← h.most]
  exact none_at b s.most w (cell_of_block h.blk 0)
theorem len_pool {β b : Nat} {v : Value} {bs : List Value} {s : PS} {F : Nat → Prop} {w : World} (h : PA β b v bs s F w) : Calls Try.prog 10 #[.pointer (some ⟨b, 0, none⟩)] w fun e w' => e = .returned (.int .i64 s.l.length) ∧ w' = w := by
  have c2 : w.cell? ⟨b, 2, none⟩ = some v := cell_of_block h.blk 2
  obtain ⟨A, c, rfl, _⟩ := own_slice h.row
  replace h := Lib.hid h
  go_enter Try.func10, Try.ntmps10
  go_wp2_with (go_at_call 29; refine (none_pool h.out).mono ?_; rintro e w1 ⟨rfl, rfl⟩)
  go_ret
  exact ⟨rfl, rfl⟩
theorem lost_pool {β b : Nat} {v : Value} {bs : List Value} {s : PS} {F : Nat → Prop} {w : World} (h : PA β b v bs s F w) : Calls Try.prog 15 #[.pointer (some ⟨b, 0, none⟩)] w fun e w' => e = .returned (.int .i64 s.lost) ∧ w' = w := by
  have c1 : w.cell? ⟨b, 1, none⟩ = some (.int .i64 s.lost) := cell_of_block h.blk 1
  replace h := Lib.hid h
  go_enter Try.func15, Try.ntmps15
  go_wp2_with (go_at_call 29; refine (none_pool h.out).mono ?_; rintro e w1 ⟨rfl, rfl⟩)
  go_ret
  exact ⟨rfl, rfl⟩
theorem new_bad (n : Int) (w : World) (h : n < 1 ∨ 1024 < n) : Calls Try.prog 8 #[.int .i64 n] w fun e w' => e = .returned (.tuple #[.pointer none, .int .i64 1]) ∧ w' = w := by
  cases h1 : decide (n < 1)
  · have h2 : decide (1024 < n) = true := by simp at h1 ⊢; omega
    clear h
    go_enter Try.func8, Try.ntmps8
    go_wp2
    go_ret2
    exact ⟨rfl, rfl⟩
  · clear h
    go_enter Try.func8, Try.ntmps8
    go_wp2
    go_ret2
    exact ⟨rfl, rfl⟩
theorem new_ok (β : Nat) (n : Int) (w : World) (h1 : 1 ≤ n) (h2 : n ≤ 1024) (hβ : β ≤ w.heap.size) : Calls Try.prog 8 #[.int .i64 n] w fun e w' => e = .returned (.tuple #[.pointer (some ⟨w.heap.size, 0, none⟩), .int .i64 0]) ∧ PA β w.heap.size (.slice none 0 0) [] ⟨n, 0, []⟩ (fun _ => False) w' ∧ Below w.heap.size w w' := by
  have d1 : decide (n < 1) = false := decide_eq_false (by omega)
  have d2 : decide (1024 < n) = false := decide_eq_false (by omega)
  have hp : 1 ≤ n ∧ n ≤ 1024 := ⟨h1, h2⟩
  replace hp := Lib.hid hp
  clear h1 h2
  go_enter Try.func8, Try.ntmps8
  go_wp2
  go_ret2
  refine ⟨rfl, ⟨alloc_new w _, hβ, ⟨hp.out.1, hp.out.2, ?_⟩, World.ownsRow_nil _ _ _ _, rfl, (fun i h => by cases h), (fun i h => by cases h)⟩, (Below.refl _ w).alloc (Nat.le_refl _) _⟩
  have := hp.out.1
  simp; omega
end Go.Proofs.Ytjfbiifcjiidfaa
