/- Both pools at once: neither's methods touch the other one. -/
import Derived.Test.YtjfbiifcjiidfaaSM
namespace Go.Proofs.Ytjfbiifcjiidfaa
open Go.RowKit

theorem IsP.kind {β b : Nat} {s : PS} {F : Nat → Prop} {w : World} (h : IsP β b s F w) (k : Nat) (hk : Wr b w k) : ∃ c fz, w.heap[k]? = some (.cells c 60 fz) ∨ w.heap[k]? = some (.cells c 37 fz) := by
  obtain ⟨v, bs, h⟩ := h
  rcases hk with rfl | ⟨c, fz, hc, _⟩
  · exact ⟨_, _, .inl h.blk⟩
  · exact ⟨c, fz, .inr hc⟩
theorem rKind {β b : Nat} {s : PS} {F : Nat → Prop} {w : World} (h : R.IsP β b s F w) (k : Nat) (hk : R.Wr b w k) : ∃ c fz, w.heap[k]? = some (.cells c 58 fz) ∨ w.heap[k]? = some (.cells c 32 fz) := by
  obtain ⟨v, bs, h⟩ := h
  rcases hk with rfl | ⟨c, fz, hc, _⟩
  · exact ⟨_, _, .inl h.blk⟩
  · exact ⟨c, fz, .inr hc⟩
theorem IsP.no_u8 {β b : Nat} {s : PS} {F : Nat → Prop} {w : World} (h : IsP β b s F w) {k : Nat} {c : Array Value} {fz : Nat × Nat} (hc : w.heap[k]? = some (.cells c 5 fz)) : ¬ Wr b w k := fun hk => by
  obtain ⟨c', fz', h' | h'⟩ := h.kind k hk <;> · rw [hc] at h'; simp at h'
theorem rNo {β b : Nat} {s : PS} {F : Nat → Prop} {w : World} (h : R.IsP β b s F w) {k : Nat} {c : Array Value} {fz : Nat × Nat} (hc : w.heap[k]? = some (.cells c 5 fz)) : ¬ R.Wr b w k := fun hk => by
  obtain ⟨c', fz', h' | h'⟩ := rKind h k hk <;> · rw [hc] at h'; simp at h'
theorem sep {β b b' : Nat} {s s' : PS} {F F' : Nat → Prop} {w : World} (h : IsP β b s F w) (h' : R.IsP β b' s' F' w) {k : Nat} (hk : Wr b w k) : ¬ R.Wr b' w k := fun hk' => by
  obtain ⟨c, fz, q⟩ := h.kind k hk
  obtain ⟨c', fz', q'⟩ := rKind h' k hk'
  rcases q with q | q <;> rcases q' with q' | q' <;> · rw [q] at q'; simp at q'
/-- The reference's pool stays where the program's works, and the other way round. -/
theorem rOver {β b b' : Nat} {s s' : PS} {F F' : Nat → Prop} {w w' : World} (h' : R.IsP β b' s' F' w) (h : IsP β b s F w) (hf : Fr (Wr b w) w w') : R.IsP β b' s' F' w' :=
  R.IsP.fr h' hf (fun _ hk hs => sep h h' hs hk) (fun _ _ _ _ hc hs => h.no_u8 hc hs)
theorem IsP.over {β b b' : Nat} {s s' : PS} {F F' : Nat → Prop} {w w' : World} (h : IsP β b s F w) (h' : R.IsP β b' s' F' w) (hf : Fr (R.Wr b' w) w w') : IsP β b s F w' :=
  IsP.fr h hf (fun _ hk hs => sep h h' hk hs) (fun _ _ _ _ hc hs => rNo h' hc hs)
/-- What the program's pool may write was there when the pool was last seen. -/
theorem IsP.wr_old {β b : Nat} {s : PS} {F : Nat → Prop} {w w' : World} (h : IsP β b s F w) (hb : Below w.heap.size w w') (k : Nat) (hk : Wr b w' k) : k < w.heap.size := by
  obtain ⟨v, bs, h⟩ := h
  rcases hk with rfl | ⟨_, _, _, m, l, A, n, cap, hblk, e⟩
  · exact h.lt
  · have q := block_kept h.blk hb
    rw [hblk] at q
    simp at q
    exact own_lt h.row k (by rw [← q.2.2]; exact e)
theorem rWrOld {β b : Nat} {s : PS} {F : Nat → Prop} {w w' : World} (h : R.IsP β b s F w) (hb : Below w.heap.size w w') (k : Nat) (hk : R.Wr b w' k) : k < w.heap.size := by
  obtain ⟨v, bs, h⟩ := h
  rcases hk with rfl | ⟨_, _, _, m, l, A, n, cap, hblk, e⟩
  · exact R.PA.lt h
  · have q := block_kept h.blk hb
    rw [hblk] at q
    simp at q
    exact own_lt h.row k (by rw [← q.2.2]; exact e)
theorem IsP.old {β b : Nat} {s : PS} {F : Nat → Prop} {w : World} (h : IsP β b s F w) : IsP β b s (fun k => k < w.heap.size) w := by
  obtain ⟨v, bs, h⟩ := h
  exact ⟨v, bs, h.blk, h.low, h.pos, h.row, h.len, h.byt, fun i hi g hg => by obtain ⟨_, c, fz, hc⟩ := h.own i hi g hg; exact ⟨lt_of_block hc, c, fz, hc⟩⟩
theorem rOld {β b : Nat} {s : PS} {F : Nat → Prop} {w : World} (h : R.IsP β b s F w) : R.IsP β b s (fun k => k < w.heap.size) w := by
  obtain ⟨v, bs, h⟩ := h
  exact ⟨v, bs, h.blk, h.low, h.pos, h.row, h.len, h.byt, fun i hi g hg => by obtain ⟨_, c, fz, hc⟩ := h.own i hi g hg; exact ⟨lt_of_block hc, c, fz, hc⟩⟩

theorem IsP.keep {β b : Nat} {s : PS} {F : Nat → Prop} {w w' : World} (h : IsP β b s F w) (hf : Fr (Wr b w) w w') {k : Nat} {c : Array Value} {t : TypeId} {fz : Nat × Nat} (hc : w.heap[k]? = some (.cells c t fz)) (ht : t ≠ 60 ∧ t ≠ 37) : w'.heap[k]? = some (.cells c t fz) :=
  fr_block hc hf fun hk => by
    obtain ⟨c', fz', q | q⟩ := h.kind k hk
    · rw [hc] at q; simp at q; exact ht.1 q.2.1
    · rw [hc] at q; simp at q; exact ht.2 q.2.1
theorem rKeep {β b : Nat} {s : PS} {F : Nat → Prop} {w w' : World} (h : R.IsP β b s F w) (hf : Fr (R.Wr b w) w w') {k : Nat} {c : Array Value} {t : TypeId} {fz : Nat × Nat} (hc : w.heap[k]? = some (.cells c t fz)) (ht : t ≠ 58 ∧ t ≠ 32) : w'.heap[k]? = some (.cells c t fz) :=
  fr_block hc hf fun hk => by
    obtain ⟨c', fz', q | q⟩ := rKind h k hk
    · rw [hc] at q; simp at q; exact ht.1 q.2.1
    · rw [hc] at q; simp at q; exact ht.2 q.2.1
theorem IsP.base {β β' b : Nat} {s : PS} {F : Nat → Prop} {w : World} (h : IsP β b s F w) (hβ : β' ≤ β) : IsP β' b s F w := by
  obtain ⟨v, bs, h⟩ := h
  exact ⟨v, bs, h.blk, Nat.le_trans hβ h.low, h.pos, own_lower h.row hβ, h.len, h.byt, h.own⟩
/-- A frame of a pool's methods, as a world's. -/
theorem IsP.bel {β b : Nat} {s : PS} {F : Nat → Prop} {w0 w w' : World} (h : IsP β b s F w) (hf : Fr (Wr b w) w w') (hb : Below β w0 w) (hβ : β ≤ w0.heap.size) : Below β w0 w' :=
  hb.trans (hf.below (Nat.le_trans hβ hb.size) (fun k hk e => by have := h.wr_low k e; omega))
theorem rBel {β b : Nat} {s : PS} {F : Nat → Prop} {w0 w w' : World} (h : R.IsP β b s F w) (hf : Fr (R.Wr b w) w w') (hb : Below β w0 w) (hβ : β ≤ w0.heap.size) : Below β w0 w' :=
  hb.trans (hf.below (Nat.le_trans hβ hb.size) (fun k hk e => by have := h.wr_low k e; omega))

/-- Few are lost, each parcel is short: behind so many acts. -/
structure SK (s : PS) (k : Nat) : Prop where
  lost : 0 ≤ s.lost ∧ s.lost ≤ k
  short : ∀ x ∈ s.l, x.b.length ≤ 500
theorem SK.ok {s : PS} {k : Nat} (h : SK s k) (hk : k ≤ 1000) : SOk s := ⟨by have := h.lost; omega, fun x hx => by have := h.short x hx; omega⟩
theorem SK.item {s : PS} {k : Nat} (h : SK s k) (i : Int) : (itemAt s i).b.length ≤ 500 := by
  cases hi : inR s i
  · rw [itemAt_out hi]; simp
  · obtain ⟨j, rfl, hj⟩ := inR_nat hi
    rw [itemAt_of hj]
    exact h.short _ (List.getElem_mem hj)
theorem SK.send {s : PS} {k : Nat} (h : SK s k) (x : Pc) (hx : x.b.length ≤ 500) : SK (sendS s x) (k + 1) := by
  unfold sendS
  split
  · exact ⟨by have := h.lost; omega, h.short⟩
  · split
    · exact ⟨by have := h.lost; simp; omega, h.short⟩
    · refine ⟨by have := h.lost; simp; omega, fun y hy => ?_⟩
      rcases List.mem_append.1 hy with hy | hy
      · exact h.short y hy
      · simp at hy; subst hy; exact hx
theorem SK.next {s : PS} {k : Nat} (h : SK s k) : SK s (k + 1) := ⟨by have := h.lost; omega, h.short⟩
theorem SK.take {s : PS} {k : Nat} (h : SK s k) (i : Int) : SK (takeS s i) (k + 1) := by
  unfold takeS
  split
  · exact ⟨by have := h.lost; simp; omega, fun y hy => h.short y (List.mem_of_mem_eraseIdx hy)⟩
  · exact h.next
theorem SK.drop {s : PS} {k : Nat} (h : SK s k) (i : Int) : SK (dropS s i) (k + 1) := by
  unfold dropS
  split
  · exact ⟨by have := h.lost; simp; omega, fun y hy => h.short y (List.mem_of_mem_eraseIdx hy)⟩
  · exact h.next
theorem SK.twice {s : PS} {k : Nat} (h : SK s k) (i : Int) : SK (twiceS s i) (k + 1) := by
  unfold twiceS
  split
  · exact h.send _ (h.item i)
  · exact h.next
theorem SK.all {s : PS} {k : Nat} (h : SK s k) : SK { s with l := [] } (k + 1) := ⟨by have := h.lost; simp; omega, fun _ h => by cases h⟩
/-- One byte of a row of the call's own is set. -/
theorem own_set_u8 {w : World} {base n k : Nat} {g c : Nat} {ys : List Int} (h : w.ownsRow base 5 1 (.slice (some ⟨g, 0, none⟩) n c) n (byV ys)) (z : Int) :
    (w.setCell ⟨g, k, none⟩ (.int .u8 z)).ownsRow base 5 1 (.slice (some ⟨g, 0, none⟩) n c) n (byV (ys.set k z)) := by
  obtain ⟨hl, h⟩ := h
  rcases h with ⟨e, _⟩ | ⟨g', cap, cur, e, hb, hh, hc, hm, hs, ht⟩
  · cases e
  · cases e
    refine ⟨by simpa [byV] using hl, .inr ⟨g, c, cur.setIfInBounds k (.int .u8 z), rfl, hb, block_setCell hh _, hc, hm, by simpa using hs, ?_⟩⟩
    have hl' : (byV ys).length = n * 1 := hl
    rw [Array.toList_setIfInBounds, List.take_set, ht]
    simp [byV, List.map_set]
end Go.Proofs.Ytjfbiifcjiidfaa
