/- The reference's pool in memory. -/
import Derived.Test.YtjfbiifcjiidfaaOW
namespace Go.Proofs.Ytjfbiifcjiidfaa.R
open Go.RowKit Go.Proofs.Ytjfbiifcjiidfaa

/-- A pool in memory: its block; its row of parcels, of the call's own; each one's bytes. -/
structure PA (β b : Nat) (v : Value) (bs : List Value) (s : PS) (F : Nat → Prop) (w : World) : Prop where
  blk : w.heap[b]? = some (.cells #[.int .i64 s.most, .int .i64 s.lost, v] 58 (0, 0))
  low : β ≤ b
  pos : 1 ≤ s.most ∧ s.most ≤ 1024 ∧ (s.l.length : Int) ≤ s.most
  row : w.ownsRow β 32 3 v s.l.length (pcV s.l bs)
  len : bs.length = s.l.length
  byt : ∀ i (h : i < s.l.length) (h' : i < bs.length), Rd w bs[i] s.l[i].b.length (byV s.l[i].b)
  own : ∀ i (h : i < bs.length) g, (bs[i]).ownBlock = some g → F g ∧ ∃ c fz, w.heap[g]? = some (.cells c 5 fz)
/-- Blocks of three types: the pool's own, the row's, the bytes': none of them is another one. -/
theorem PA.row_ne {β b : Nat} {v : Value} {bs : List Value} {s : PS} {F : Nat → Prop} {w : World} (h : PA β b v bs s F w) : v.ownBlock ≠ some b := by
  intro hv
  rcases h.row.2 with ⟨rfl, _⟩ | ⟨g, cap, cur, rfl, _, hh, _⟩
  · cases hv
  · cases hv
    rw [h.blk] at hh
    simp at hh
theorem PA.byt_ne {β b : Nat} {v : Value} {bs : List Value} {s : PS} {F : Nat → Prop} {w : World} (h : PA β b v bs s F w) (i : Nat) (hi : i < bs.length) (g : Nat) (hg : (bs[i]).ownBlock = some g) : g ≠ b ∧ v.ownBlock ≠ some g := by
  obtain ⟨_, c, fz, hc⟩ := h.own i hi g hg
  refine ⟨?_, ?_⟩
  · rintro rfl
    rw [h.blk] at hc
    simp at hc
  · intro hv
    rcases h.row.2 with ⟨rfl, _⟩ | ⟨g', cap, cur, rfl, _, hh, _⟩
    · cases hv
    · cases hv
      rw [hc] at hh
      simp at hh
theorem PA.of_below {β b : Nat} {v : Value} {bs : List Value} {s : PS} {F : Nat → Prop} {w w' : World} (h : PA β b v bs s F w) (hb : Below w.heap.size w w') : PA β b v bs s F w' :=
  ⟨block_kept h.blk hb, h.low, h.pos, own_fr h.row (Fr.of_below (S := fun _ => False) hb) (fun _ _ h => h), h.len, fun i h1 h2 => (h.byt i h1 h2).below hb, fun i h1 g hg => by obtain ⟨hF, c, fz, hc⟩ := h.own i h1 g hg; exact ⟨hF, c, fz, block_kept hc hb⟩⟩
theorem PA.lt {β b : Nat} {v : Value} {bs : List Value} {s : PS} {F : Nat → Prop} {w : World} (h : PA β b v bs s F w) : b < w.heap.size := lt_of_block h.blk
theorem send_end {β b : Nat} {v v2 vb : Value} {bs : List Value} {s : PS} {F : Nat → Prop} {w w1 w2 : World} {x : Pc} {B : Nat} {o : Obj} (h : PA β b v bs s F w1) (hbw : Below w.heap.size w w1) (hown : w1.ownsRow B 5 1 vb x.b.length (byV x.b)) (hB : w.heap.size ≤ B)
    (hown2 : w2.ownsRow β 32 3 v2 (s.l.length + 1) (pcV s.l bs ++ [.int .i64 x.from_, .int .i64 x.to_, vb])) (hgr : (w1.alloc o).grownBy w2 v.ownBlock) (hl : (s.l.length : Int) < s.most) :
    PA β b v2 (bs ++ [vb]) { s with l := s.l ++ [x] } (fun k => F k ∨ w.heap.size ≤ k) (w2.setCell ⟨b, 2, none⟩ v2) ∧ Fr (fun k => k = b ∨ v.ownBlock = some k) w (w2.setCell ⟨b, 2, none⟩ v2) := by
  have hF1 : Fr (fun k => k = b ∨ v.ownBlock = some k) (w1.alloc o) w2 := ⟨hgr.os, hgr.tape, hgr.output, hgr.size, fun k hk hS => hgr.block k hk (fun e => hS (.inr e.symm))⟩
  have hF : Fr (fun k => k = b ∨ v.ownBlock = some k) w1 (w2.setCell ⟨b, 2, none⟩ v2) := (((Fr.refl _ w1).alloc o).trans hF1 (fun _ _ h => h)).setCell (p := ⟨b, 2, none⟩) (fun _ => .inl rfl) v2
  have hB2 : w2.heap[b]? = some (.cells #[.int .i64 s.most, .int .i64 s.lost, v] 58 (0, 0)) := (hgr.block b (lt_of_block (block_alloc h.blk o)) (fun e => h.row_ne e.symm)).trans (block_alloc h.blk o)
  have hvb : ∀ g, vb.ownBlock = some g → g ≠ b ∧ v.ownBlock ≠ some g := by
    intro g hg
    obtain ⟨c, fz, hc⟩ := own_kind hown g hg
    refine ⟨?_, ?_⟩
    · rintro rfl
      rw [h.blk] at hc
      simp at hc
    · intro hv
      obtain ⟨c', fz', hc'⟩ := own_kind h.row g hv
      rw [hc] at hc'
      simp at hc'
  refine ⟨⟨blk_conv (block_setCell hB2 _) rfl, h.low, ⟨h.pos.1, h.pos.2.1, by simp; omega⟩, ?_, by simp [h.len], ?_, ?_⟩, (Fr.of_below hbw).trans hF (fun _ _ h => h)⟩
  · have := own_fr hown2 ((Fr.refl (fun k => k = b) w2).setCell (p := ⟨b, 2, none⟩) (fun _ => rfl) v2) (fun k hk e => by
      obtain ⟨c, fz, hc⟩ := own_kind hown2 k hk
      rw [e, hB2] at hc
      simp at hc)
    rw [← pcV_append x vb h.len] at this
    simpa using this
  · intro i h1 h2
    by_cases hi : i < bs.length
    · have hi' : i < s.l.length := by rw [← h.len]; exact hi
      have := (h.byt i hi' hi).fr hF (fun g hg hS => by have := h.byt_ne i hi g hg; rcases hS with rfl | hS; exact this.1 rfl; exact this.2 hS)
      simpa [List.getElem_append_left hi, List.getElem_append_left hi'] using this
    · have e : i = bs.length := by simp at h2; omega
      have e' : i = s.l.length := by rw [← h.len]; exact e
      have := (Rd.of_own hown).fr hF (fun g hg hS => by have := hvb g hg; rcases hS with rfl | hS; exact this.1 rfl; exact this.2 hS)
      have g1 : (bs ++ [vb])[i] = vb := by simp [e]
      have g2 : (s.l ++ [x])[i]'(by simp; omega) = x := by simp [e']
      simp only [g1, g2]
      exact this
  · intro i h1 g hg
    by_cases hi : i < bs.length
    · rw [List.getElem_append_left hi] at hg
      obtain ⟨hFg, c, fz, hc⟩ := h.own i hi g hg
      have := h.byt_ne i hi g hg
      exact ⟨.inl hFg, c, fz, fr_block hc hF (fun hS => by rcases hS with rfl | hS; exact this.1 rfl; exact this.2 hS)⟩
    · have e : i = bs.length := by simp at h1; omega
      have g1 : (bs ++ [vb])[i] = vb := by simp [e]
      rw [g1] at hg
      obtain ⟨c, fz, hc⟩ := own_kind hown g hg
      have := hvb g hg
      exact ⟨.inr (Nat.le_trans hB (own_base hown g hg)), c, fz, fr_block hc hF (fun hS => by rcases hS with rfl | hS; exact this.1 rfl; exact this.2 hS)⟩
theorem PA.lostS {β b : Nat} {v : Value} {bs : List Value} {s : PS} {F : Nat → Prop} {w : World} (h : PA β b v bs s F w) (n : Int) : PA β b v bs { s with lost := n } F (w.setCell ⟨b, 1, none⟩ (.int .i64 n)) := by
  have hF : Fr (fun k => k = b) w (w.setCell ⟨b, 1, none⟩ (.int .i64 n)) := (Fr.refl (fun k => k = b) w).setCell (p := ⟨b, 1, none⟩) (fun _ => rfl) _
  exact ⟨blk_conv (block_setCell h.blk _) rfl, h.low, h.pos, own_fr h.row hF (fun k hk e => h.row_ne (e ▸ hk)), h.len, fun i h1 h2 => (h.byt i h1 h2).fr hF (fun g hg e => (h.byt_ne i h2 g hg).1 e),
    fun i h1 g hg => by obtain ⟨hFg, c, fz, hc⟩ := h.own i h1 g hg; exact ⟨hFg, c, fz, fr_block hc hF (h.byt_ne i h1 g hg).1⟩⟩
theorem PA.one {β b : Nat} {v : Value} {bs : List Value} {s : PS} {F : Nat → Prop} {w : World} (h : PA β b v bs s F w) : ∀ u ∈ pcV s.l bs, u.oneCell' = true := by
  have key : ∀ (l : List Pc) (bs : List Value), (∀ u ∈ bs, u.oneCell' = true) → ∀ u ∈ pcV l bs, u.oneCell' = true := by
    intro l
    induction l with
    | nil => intro bs _ u hu; cases bs <;> cases hu
    | cons x l ih =>
      intro bs hb u hu
      cases bs with
      | nil => cases hu
      | cons v bs =>
        simp only [pcV, List.mem_cons] at hu
        rcases hu with rfl | rfl | rfl | hu
        · rfl
        · rfl
        · exact hb _ (by simp)
        · exact ih bs (fun u hu => hb u (by simp [hu])) u hu
  refine key _ _ fun u hu => ?_
  obtain ⟨i, hi, rfl⟩ := List.getElem_of_mem hu
  obtain ⟨A, c, e⟩ := (h.byt i (by rw [← h.len]; exact hi) hi).slice
  rw [e]; rfl
theorem PA.fr {β b : Nat} {v : Value} {bs : List Value} {s : PS} {F S : Nat → Prop} {w w' : World} (h : PA β b v bs s F w) (hf : Fr S w w') (hb : ¬ S b) (hv : ∀ g, v.ownBlock = some g → ¬ S g) (hy : ∀ i (h : i < bs.length) g, (bs[i]).ownBlock = some g → ¬ S g) : PA β b v bs s F w' :=
  ⟨fr_block h.blk hf hb, h.low, h.pos, own_fr h.row hf hv, h.len, fun i h1 h2 => (h.byt i h1 h2).fr hf (hy i h2), fun i h1 g hg => by obtain ⟨hF, c, fz, hc⟩ := h.own i h1 g hg; exact ⟨hF, c, fz, fr_block hc hf (hy i h1 g hg)⟩⟩
/-- One parcel less. -/
theorem PA.erase {β b k : Nat} {v v' : Value} {bs : List Value} {s : PS} {F : Nat → Prop} {w w1 : World} (h : PA β b v bs s F w) (hk : k < s.l.length) 
    (hown : w1.ownsRow β 32 3 v' (s.l.length - 1) ((pcV s.l bs).take (k * 3) ++ (pcV s.l bs).drop ((k + 1) * 3))) (hf : Fr (fun j => v.ownBlock = some j) w w1) :
    PA β b v' (bs.eraseIdx k) { s with l := s.l.eraseIdx k } F (w1.setCell ⟨b, 2, none⟩ v') ∧ Fr (fun j => j = b ∨ v.ownBlock = some j) w (w1.setCell ⟨b, 2, none⟩ v') := by
  have hF : Fr (fun j => j = b ∨ v.ownBlock = some j) w (w1.setCell ⟨b, 2, none⟩ v') := (hf.mono (fun _ _ h => .inr h)).setCell (p := ⟨b, 2, none⟩) (fun _ => .inl rfl) v'
  have hkb : k < bs.length := by rw [h.len]; exact hk
  have hB1 := fr_block h.blk hf h.row_ne
  refine ⟨⟨blk_conv (block_setCell hB1 _) rfl, h.low, ⟨h.pos.1, h.pos.2.1, ?_⟩, ?_, ?_, ?_, ?_⟩, hF⟩
  · have := h.pos.2.2; show ((s.l.eraseIdx k).length : Int) ≤ s.most; rw [List.length_eraseIdx_of_lt hk]; omega
  · rw [List.length_eraseIdx_of_lt hk, pcV_erase k h.len]
    refine own_fr hown ((Fr.refl (fun j => j = b) w1).setCell (p := ⟨b, 2, none⟩) (fun _ => rfl) v') (fun j hj e => ?_)
    obtain ⟨c, fz, hc⟩ := own_kind hown j hj
    rw [e, hB1] at hc
    simp at hc
  · rw [List.length_eraseIdx_of_lt hk, List.length_eraseIdx_of_lt hkb, h.len]
  · intro i h1 h2
    obtain ⟨j, hj, e1, e2⟩ := getElem_eraseIdx' h1 hk
    obtain ⟨j', hj', e3, e4⟩ := getElem_eraseIdx' h2 hkb
    obtain rfl : j' = j := by rw [e2, e4]
    rw [e1, e3]
    exact (h.byt j' hj hj').fr hF (fun g hg hS => by have := h.byt_ne j' hj' g hg; rcases hS with rfl | hS; exact this.1 rfl; exact this.2 hS)
  · intro i h1 g hg
    obtain ⟨j', hj', e3, e4⟩ := getElem_eraseIdx' h1 hkb
    rw [e3] at hg
    obtain ⟨hFg, c, fz, hc⟩ := h.own j' hj' g hg
    have := h.byt_ne j' hj' g hg
    exact ⟨hFg, c, fz, fr_block hc hF (fun hS => by rcases hS with rfl | hS; exact this.1 rfl; exact this.2 hS)⟩
theorem PA.emptied {β b : Nat} {v : Value} {bs : List Value} {s : PS} {F : Nat → Prop} {w : World} (h : PA β b v bs s F w) : PA β b (.slice none 0 0) [] { s with l := [] } F (w.setCell ⟨b, 2, none⟩ (.slice none 0 0)) :=
  ⟨blk_conv (block_setCell h.blk _) rfl, h.low, ⟨h.pos.1, h.pos.2.1, by have := h.pos.1; simp; omega⟩, World.ownsRow_nil _ _ _ _, rfl, (fun i h => by cases h), (fun i h => by cases h)⟩
theorem PA.mono {β b : Nat} {v : Value} {bs : List Value} {s : PS} {F F' : Nat → Prop} {w : World} (h : PA β b v bs s F w) (hF : ∀ k, k < w.heap.size → F k → F' k) : PA β b v bs s F' w :=
  ⟨h.blk, h.low, h.pos, h.row, h.len, h.byt, fun i hi g hg => by obtain ⟨q, c, fz, hc⟩ := h.own i hi g hg; exact ⟨hF g (lt_of_block hc) q, c, fz, hc⟩⟩
/-- The row's block: the call's own. -/
theorem PA.vlow {β b : Nat} {v : Value} {bs : List Value} {s : PS} {F : Nat → Prop} {w : World} (h : PA β b v bs s F w) (g : Nat) (hg : v.ownBlock = some g) : β ≤ g := own_base h.row g hg
def FS (b : Nat) (v : Value) (w w' : World) : Prop := Fr (fun k => k = b ∨ v.ownBlock = some k) w w'
theorem FS.below {β b : Nat} {v : Value} {bs : List Value} {s : PS} {F : Nat → Prop} {w w' : World} (h : FS b v w w') (hp : PA β b v bs s F w) : Below β w w' :=
  Fr.below h (by have := hp.low; have := hp.lt; omega) (fun k hk e => by rcases e with rfl | e; have := hp.low; omega; have := hp.vlow k e; omega)
/-- A pool: some row, some byte slices. -/
def IsP (β b : Nat) (s : PS) (F : Nat → Prop) (w : World) : Prop := ∃ v bs, PA β b v bs s F w
theorem IsP.of_below {β b : Nat} {s : PS} {F : Nat → Prop} {w w' : World} (h : IsP β b s F w) (hb : Below w.heap.size w w') : IsP β b s F w' := by
  obtain ⟨v, bs, h⟩ := h
  exact ⟨v, bs, h.of_below hb⟩
theorem IsP.mono {β b : Nat} {s : PS} {F F' : Nat → Prop} {w : World} (h : IsP β b s F w) (hF : ∀ k, k < w.heap.size → F k → F' k) : IsP β b s F' w := by
  obtain ⟨v, bs, h⟩ := h
  exact ⟨v, bs, h.mono hF⟩
theorem IsP.lt {β b : Nat} {s : PS} {F : Nat → Prop} {w : World} (h : IsP β b s F w) : b < w.heap.size ∧ β ≤ b := by
  obtain ⟨v, bs, h⟩ := h
  exact ⟨h.lt, h.low⟩
/-- The blocks that a pool's methods write: its own, its row's. -/
def Wr (b : Nat) (w : World) (k : Nat) : Prop := k = b ∨ ∃ c fz, w.heap[k]? = some (.cells c 32 fz) ∧ ∃ m l A n cap, w.heap[b]? = some (.cells #[m, l, .slice A n cap] 58 (0, 0)) ∧ (Value.slice A n cap).ownBlock = some k
theorem FS.wr {β b : Nat} {v : Value} {bs : List Value} {s : PS} {F : Nat → Prop} {w w' : World} (h : FS b v w w') (hp : PA β b v bs s F w) : Fr (Wr b w) w w' := by
  refine Fr.mono h fun k hk e => ?_
  rcases e with e | e
  · exact .inl e
  · obtain ⟨c, fz, hc⟩ := own_kind hp.row k e
    obtain ⟨A, cap, hv, _⟩ := own_slice hp.row
    have hb := hp.blk
    rw [hv] at hb e
    exact .inr ⟨c, fz, hc, _, _, A, _, cap, hb, e⟩
/-- No byte block, none below the base. -/
theorem IsP.wr_low {β b : Nat} {s : PS} {F : Nat → Prop} {w : World} (h : IsP β b s F w) (k : Nat) (hk : Wr b w k) : β ≤ k := by
  obtain ⟨v, bs, h⟩ := h
  rcases hk with rfl | ⟨_, _, _, m, l, A, n, cap, hb, e⟩
  · exact h.low
  · rw [h.blk] at hb
    simp at hb
    exact h.vlow k (by rw [hb.2.2]; exact e)
theorem Wr.kind {b : Nat} {w : World} {k : Nat} {c : Array Value} {t : TypeId} {fz : Nat × Nat} (hk : Wr b w k) (h : w.heap[k]? = some (.cells c t fz)) (ht : t ≠ 32) : k = b := by
  rcases hk with e | ⟨c', fz', hc, _⟩
  · exact e
  · rw [h] at hc
    simp at hc
    exact absurd hc.2.1 ht
theorem IsP.most {β b : Nat} {s : PS} {F : Nat → Prop} {w : World} (h : IsP β b s F w) : 1 ≤ s.most ∧ s.most ≤ 1024 ∧ (s.l.length : Int) ≤ s.most := by
  obtain ⟨v, bs, h⟩ := h
  exact h.pos
/-- A frame that leaves the pool's blocks alone leaves the pool. -/
theorem IsP.fr {β b : Nat} {s : PS} {F S : Nat → Prop} {w w' : World} (h : IsP β b s F w) (hf : Fr S w w') (hw : ∀ k, Wr b w k → ¬ S k) (hy : ∀ k c fz, F k → w.heap[k]? = some (.cells c 5 fz) → ¬ S k) : IsP β b s F w' := by
  obtain ⟨v, bs, h⟩ := h
  refine ⟨v, bs, h.fr hf (hw b (.inl rfl)) (fun g hg => hw g ?_) (fun i hi g hg => ?_)⟩
  · obtain ⟨c, fz, hc⟩ := own_kind h.row g hg
    obtain ⟨A, cap, hv, _⟩ := own_slice h.row
    have hb := h.blk
    rw [hv] at hb hg
    exact .inr ⟨c, fz, hc, _, _, A, _, cap, hb, hg⟩
  · obtain ⟨hF, c, fz, hc⟩ := h.own i hi g hg
    exact hy g c fz hF hc
end Go.Proofs.Ytjfbiifcjiidfaa.R
