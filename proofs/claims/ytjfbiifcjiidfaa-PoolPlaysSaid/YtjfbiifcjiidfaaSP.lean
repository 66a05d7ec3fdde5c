/- What a pool does, as a function of its state; each method's contract for every argument. -/
import Derived.Test.YtjfbiifcjiidfaaAL
namespace Go.Proofs.Ytjfbiifcjiidfaa
open Go.RowKit

def sendR (s : PS) (x : Pc) : Int := if badP x = true then 1 else if s.most ≤ (s.l.length : Int) then 7 else 0
def sendS (s : PS) (x : Pc) : PS := if badP x = true then s else if s.most ≤ (s.l.length : Int) then { s with lost := s.lost + 1 } else { s with l := s.l ++ [x] }
def inR (s : PS) (i : Int) : Bool := decide (0 ≤ i) && decide (i < (s.l.length : Int))
def itemAt (s : PS) (i : Int) : Pc := if inR s i = true then s.l.getD i.toNat ⟨0, 0, []⟩ else ⟨0, 0, []⟩
def takeR (s : PS) (i : Int) : Int := if inR s i = true then 0 else 3
def takeS (s : PS) (i : Int) : PS := if inR s i = true then { s with l := s.l.eraseIdx i.toNat } else s
def dropS (s : PS) (i : Int) : PS := if inR s i = true then { s with lost := s.lost + 1, l := s.l.eraseIdx i.toNat } else s
def twiceR (s : PS) (i : Int) : Int := if inR s i = true then sendR s (itemAt s i) else 3
def twiceS (s : PS) (i : Int) : PS := if inR s i = true then sendS s (itemAt s i) else s
/-- Few are lost, each parcel is short. -/
structure SOk (s : PS) : Prop where
  lost : 0 ≤ s.lost ∧ s.lost ≤ 1000000
  short : ∀ x ∈ s.l, x.b.length ≤ 1000000
theorem wrap_lost {n : Int} (h : 0 ≤ n ∧ n ≤ 1000000) : wrap64 (n + 1) = n + 1 := by
  unfold wrap64; omega
theorem inR_nat {s : PS} {i : Int} (h : inR s i = true) : ∃ k : Nat, i = k ∧ k < s.l.length := by
  simp [inR] at h
  exact ⟨i.toNat, by omega, by omega⟩
theorem inR_out {s : PS} {i : Int} (h : inR s i = false) : i < 0 ∨ (s.l.length : Int) ≤ i := by
  simp [inR] at h
  by_cases h0 : 0 ≤ i
  · exact .inr (h h0)
  · exact .inl (by omega)
theorem inR_of {s : PS} {k : Nat} (h : k < s.l.length) : inR s (k : Int) = true := by simp [inR]; omega
theorem itemAt_of {s : PS} {k : Nat} (h : k < s.l.length) : itemAt s (k : Int) = s.l[k] := by
  unfold itemAt
  rw [if_pos (inR_of h)]
  simp [h]
theorem itemAt_out {s : PS} {i : Int} (h : inR s i = false) : itemAt s i = ⟨0, 0, []⟩ := by
  unfold itemAt
  rw [if_neg (by simp [h])]
theorem PA.mono {β b : Nat} {v : Value} {bs : List Value} {s : PS} {F F' : Nat → Prop} {w : World} (h : PA β b v bs s F w) (hF : ∀ k, k < w.heap.size → F k → F' k) : PA β b v bs s F' w :=
  ⟨h.blk, h.low, h.pos, h.row, h.len, h.byt, fun i hi g hg => by obtain ⟨q, c, fz, hc⟩ := h.own i hi g hg; exact ⟨hF g (lt_of_block hc) q, c, fz, hc⟩⟩
/-- The row's block: the call's own. -/
theorem PA.vlow {β b : Nat} {v : Value} {bs : List Value} {s : PS} {F : Nat → Prop} {w : World} (h : PA β b v bs s F w) (g : Nat) (hg : v.ownBlock = some g) : β ≤ g := own_base h.row g hg
def FS (b : Nat) (v : Value) (w w' : World) : Prop := Fr (fun k => k = b ∨ v.ownBlock = some k) w w'
theorem FS.below {β b : Nat} {v : Value} {bs : List Value} {s : PS} {F : Nat → Prop} {w w' : World} (h : FS b v w w') (hp : PA β b v bs s F w) : Below β w w' :=
  Fr.below h (by have := hp.low; have := hp.lt; omega) (fun k hk e => by rcases e with rfl | e; have := hp.low; omega; have := hp.vlow k e; omega)
/-- A pool: some row, some byte slices. -/
def IsP (β b : Nat) (s : PS) (F : Nat → Prop) (w : World) : Prop := ∃ v bs, PA β b v bs s F w
theorem IsP.of_below {β b : Nat} {s : PS} {F : Nat → Prop} {w w' : World} (h : IsP β b s F w) (hb : Below w.heap.size w w') : IsP β b s F w' := by
  obtain ⟨v, bs, h⟩ := h
  exact ⟨v, bs, h.of_below hb⟩
theorem IsP.mono {β b : Nat} {s : PS} {F F' : Nat → Prop} {w : World} (h : IsP β b s F w) (hF : ∀ k, k < w.heap.size → F k → F' k) : IsP β b s F' w := by
  obtain ⟨v, bs, h⟩ := h
  exact ⟨v, bs, h.mono hF⟩
theorem IsP.lt {β b : Nat} {s : PS} {F : Nat → Prop} {w : World} (h : IsP β b s F w) : b < w.heap.size ∧ β ≤ b := by
  obtain ⟨v, bs, h⟩ := h
  exact ⟨h.lt, h.low⟩

/-- The blocks that a pool's methods write: its own, its row's. -/
def Wr (b : Nat) (w : World) (k : Nat) : Prop := k = b ∨ ∃ c fz, w.heap[k]? = some (.cells c 37 fz) ∧ ∃ m l A n cap, w.heap[b]? = some (.cells #[m, l, .slice A n cap] 60 (0, 0)) ∧ (Value.slice A n cap).ownBlock = some k
theorem FS.wr {β b : Nat} {v : Value} {bs : List Value} {s : PS} {F : Nat → Prop} {w w' : World} (h : FS b v w w') (hp : PA β b v bs s F w) : Fr (Wr b w) w w' := by
  refine Fr.mono h fun k hk e => ?_
  rcases e with e | e
  · exact .inl e
  · obtain ⟨c, fz, hc⟩ := own_kind hp.row k e
    obtain ⟨A, cap, hv, _⟩ := own_slice hp.row
    have hb := hp.blk
    rw [hv] at hb e
    exact .inr ⟨c, fz, hc, _, _, A, _, cap, hb, e⟩
/-- No byte block, none below the base. -/
theorem IsP.wr_low {β b : Nat} {s : PS} {F : Nat → Prop} {w : World} (h : IsP β b s F w) (k : Nat) (hk : Wr b w k) : β ≤ k := by
  obtain ⟨v, bs, h⟩ := h
  rcases hk with rfl | ⟨_, _, _, m, l, A, n, cap, hb, e⟩
  · exact h.low
  · rw [h.blk] at hb
    simp at hb
    exact h.vlow k (by rw [hb.2.2]; exact e)
theorem Wr.kind {b : Nat} {w : World} {k : Nat} {c : Array Value} {t : TypeId} {fz : Nat × Nat} (hk : Wr b w k) (h : w.heap[k]? = some (.cells c t fz)) (ht : t ≠ 37) : k = b := by
  rcases hk with e | ⟨c', fz', hc, _⟩
  · exact e
  · rw [h] at hc
    simp at hc
    exact absurd hc.2.1 ht

theorem new_any (β : Nat) (n : Int) (w : World) (hβ : β ≤ w.heap.size) (h1 : 1 ≤ n) (h2 : n ≤ 1024) : Calls Try.prog 8 #[.int .i64 n] w fun e w' => e = .returned (.tuple #[.pointer (some ⟨w.heap.size, 0, none⟩), .int .i64 0]) ∧ IsP β w.heap.size ⟨n, 0, []⟩ (fun _ => False) w' ∧ Below w.heap.size w w' :=
  (new_ok β n w h1 h2 hβ).mono fun _ _ ⟨he, hp, hb⟩ => ⟨he, ⟨_, _, hp⟩, hb⟩
theorem send_any {β b : Nat} {s : PS} {F : Nat → Prop} {w : World} (h : IsP β b s F w) (hs : SOk s) (x : Pc) (A : Option Addr) (c : Nat) (hv : Rd w (.slice A x.b.length c) x.b.length (byV x.b)) (hb : x.b.length ≤ 1000000) :
    Calls Try.prog 11 #[.pointer (some ⟨b, 0, none⟩), .agg #[.int .i64 x.from_, .int .i64 x.to_, .slice A x.b.length c]] w fun e w' => e = .returned (.int .i64 (sendR s x)) ∧ IsP β b (sendS s x) (fun k => F k ∨ w.heap.size ≤ k) w' ∧ Fr (Wr b w) w w' := by
  obtain ⟨v, bs, h⟩ := h
  cases hx : badP x
  · by_cases hl : s.most ≤ (s.l.length : Int)
    · refine (send_full h x A x.b.length c hx hl).mono ?_
      rintro e w' ⟨rfl, hp, hf⟩
      rw [wrap_lost hs.lost] at hp
      refine ⟨by unfold sendR; rw [if_neg (by simp [hx]), if_pos hl], ⟨v, bs, ?_⟩, hf.mono (fun k _ e => .inl e)⟩
      unfold sendS
      rw [if_neg (by simp [hx]), if_pos hl]
      exact hp.mono (fun _ _ h => .inl h)
    · refine (send_ok h x A c hv hb hx (by omega)).mono ?_
      rintro e w' ⟨rfl, ⟨v', vb', hp⟩, hf⟩
      refine ⟨by unfold sendR; rw [if_neg (by simp [hx]), if_neg hl], ⟨v', bs ++ [vb'], ?_⟩, FS.wr (v := v) (bs := bs) hf h⟩
      unfold sendS
      rw [if_neg (by simp [hx]), if_neg hl]
      exact hp
  · refine (send_bad h x A x.b.length c hx).mono ?_
    rintro e w' ⟨rfl, hB⟩
    refine ⟨by unfold sendR; rw [if_pos hx], ⟨v, bs, ?_⟩, Fr.of_below hB⟩
    unfold sendS
    rw [if_pos hx]
    exact (h.of_below hB).mono (fun _ _ h => .inl h)
theorem at_any {β b : Nat} {s : PS} {F : Nat → Prop} {w : World} (h : IsP β b s F w) (hs : SOk s) (i : Int) :
    Calls Try.prog 16 #[.pointer (some ⟨b, 0, none⟩), .int .i64 i] w fun e w' => ∃ v', e = .returned (.tuple #[.agg #[.int .i64 (itemAt s i).from_, .int .i64 (itemAt s i).to_, v'], .bool (inR s i)]) ∧ w'.ownsRow w.heap.size 5 1 v' (itemAt s i).b.length (byV (itemAt s i).b) ∧ Below w.heap.size w w' := by
  obtain ⟨v, bs, h⟩ := h
  cases hi : inR s i
  · refine (at_out h i (inR_out hi)).mono ?_
    rintro e w' ⟨rfl, hB⟩
    rw [itemAt_out hi]
    exact ⟨_, rfl, World.ownsRow_nil _ _ _ _, hB⟩
  · obtain ⟨k, rfl, hk⟩ := inR_nat hi
    rw [itemAt_of hk]
    exact at_in h k hk (hs.short _ (List.getElem_mem hk))
theorem take_any {β b : Nat} {s : PS} {F : Nat → Prop} {w : World} (h : IsP β b s F w) (hs : SOk s) (i : Int) :
    Calls Try.prog 12 #[.pointer (some ⟨b, 0, none⟩), .int .i64 i] w fun e w' => ∃ v', e = .returned (.tuple #[.agg #[.int .i64 (itemAt s i).from_, .int .i64 (itemAt s i).to_, v'], .int .i64 (takeR s i)]) ∧ w'.ownsRow w.heap.size 5 1 v' (itemAt s i).b.length (byV (itemAt s i).b) ∧ IsP β b (takeS s i) F w' ∧ Fr (Wr b w) w w' := by
  obtain ⟨v, bs, h⟩ := h
  cases hi : inR s i
  · refine (take_out h i (inR_out hi)).mono ?_
    rintro e w' ⟨rfl, hB⟩
    unfold takeR takeS
    rw [itemAt_out hi, if_neg (by simp [hi]), if_neg (by simp [hi])]
    exact ⟨_, rfl, World.ownsRow_nil _ _ _ _, ⟨v, bs, h.of_below hB⟩, Fr.of_below hB⟩
  · obtain ⟨k, rfl, hk⟩ := inR_nat hi
    refine (take_ok h k hk (hs.short _ (List.getElem_mem hk))).mono ?_
    rintro e w' ⟨v2, vx, rfl, hp, hx, _, hf⟩
    unfold takeR takeS
    rw [itemAt_of hk, if_pos hi, if_pos hi]
    exact ⟨vx, rfl, hx, ⟨v2, _, hp⟩, FS.wr (v := v) (bs := bs) hf h⟩
theorem drop_any {β b : Nat} {s : PS} {F : Nat → Prop} {w : World} (h : IsP β b s F w) (hs : SOk s) (i : Int) :
    Calls Try.prog 13 #[.pointer (some ⟨b, 0, none⟩), .int .i64 i] w fun e w' => e = .returned (.int .i64 (takeR s i)) ∧ IsP β b (dropS s i) F w' ∧ Fr (Wr b w) w w' := by
  obtain ⟨v, bs, h⟩ := h
  cases hi : inR s i
  · refine (drop_out h i (inR_out hi)).mono ?_
    rintro e w' ⟨rfl, hB⟩
    unfold takeR dropS
    rw [if_neg (by simp [hi]), if_neg (by simp [hi])]
    exact ⟨rfl, ⟨v, bs, h.of_below hB⟩, Fr.of_below hB⟩
  · obtain ⟨k, rfl, hk⟩ := inR_nat hi
    refine (drop_ok h k hk (hs.short _ (List.getElem_mem hk))).mono ?_
    rintro e w' ⟨v2, rfl, hp, _, hf⟩
    rw [wrap_lost hs.lost] at hp
    unfold takeR dropS
    rw [if_pos hi, if_pos hi]
    exact ⟨rfl, ⟨v2, _, hp⟩, FS.wr (v := v) (bs := bs) hf h⟩
theorem twice_any {β b : Nat} {s : PS} {F : Nat → Prop} {w : World} (h : IsP β b s F w) (hs : SOk s) (i : Int) :
    Calls Try.prog 22 #[.pointer (some ⟨b, 0, none⟩), .int .i64 i] w fun e w' => e = .returned (.int .i64 (twiceR s i)) ∧ IsP β b (twiceS s i) (fun k => F k ∨ w.heap.size ≤ k) w' ∧ Fr (Wr b w) w w' := by
  obtain ⟨v, bs, h⟩ := h
  cases hi : inR s i
  · refine (twice_out h i (inR_out hi)).mono ?_
    rintro e w' ⟨rfl, hB⟩
    unfold twiceR twiceS
    rw [if_neg (by simp [hi]), if_neg (by simp [hi])]
    exact ⟨rfl, ⟨v, bs, (h.of_below hB).mono (fun _ _ h => .inl h)⟩, Fr.of_below hB⟩
  · obtain ⟨k, rfl, hk⟩ := inR_nat hi
    have hsh := hs.short _ (List.getElem_mem hk)
    unfold twiceR twiceS
    rw [if_pos hi, if_pos hi, itemAt_of hk]
    refine (twice_in h k hk hsh (fun e w' => e = .returned (.int .i64 (sendR s s.l[k])) ∧ IsP β b (sendS s s.l[k]) (fun k => F k ∨ w.heap.size ≤ k) w' ∧ Fr (Wr b w) w w') ?_).mono fun _ _ h => h
    intro w1 vx hB hown
    obtain ⟨A, c, rfl, _⟩ := own_slice hown
    have h1 := h.of_below hB
    refine (send_any ⟨v, bs, h1⟩ hs s.l[k] A c (Rd.of_own hown) hsh).mono ?_
    rintro e w' ⟨rfl, hp, hf⟩
    refine ⟨_, rfl, rfl, hp.mono (fun j _ e => by have := hB.size; rcases e with e | e; exact .inl e; exact .inr (by omega)), ?_⟩
    refine (Fr.of_below (S := Wr b w) hB).join hf (fun _ _ h => h) (fun j hj e => ?_)
    have hb := h.lt
    rcases e with e | ⟨c', fz, hc, m, l, A', n', cap', hb', e⟩
    · exact .inl e
    · rw [hB.block j hj] at hc
      rw [hB.block b hb] at hb'
      exact .inr ⟨c', fz, hc, m, l, A', n', cap', hb', e⟩
theorem all_any {β b : Nat} {s : PS} {F : Nat → Prop} {w : World} (h : IsP β b s F w) :
    Calls Try.prog 14 #[.pointer (some ⟨b, 0, none⟩)] w fun e w' => ∃ v bs v2, PA β b v bs s F w ∧ e = .returned v2 ∧ w'.ownsRow w.heap.size 37 3 v2 s.l.length (pcV s.l bs) ∧ IsP β b { s with l := [] } (fun _ => False) w' ∧ Fr (fun k => k = b) w w' := by
  obtain ⟨v, bs, h⟩ := h
  refine (all_pool h).mono ?_
  rintro e w' ⟨v2, rfl, hown, hp, hf⟩
  exact ⟨v, bs, v2, h, rfl, hown, ⟨_, _, ⟨hp.blk, hp.low, hp.pos, hp.row, hp.len, hp.byt, fun i hi => by cases hi⟩⟩, hf⟩
theorem len_any {β b : Nat} {s : PS} {F : Nat → Prop} {w : World} (h : IsP β b s F w) : Calls Try.prog 10 #[.pointer (some ⟨b, 0, none⟩)] w fun e w' => e = .returned (.int .i64 s.l.length) ∧ w' = w := by
  obtain ⟨v, bs, h⟩ := h
  exact len_pool h
theorem lost_any {β b : Nat} {s : PS} {F : Nat → Prop} {w : World} (h : IsP β b s F w) : Calls Try.prog 15 #[.pointer (some ⟨b, 0, none⟩)] w fun e w' => e = .returned (.int .i64 s.lost) ∧ w' = w := by
  obtain ⟨v, bs, h⟩ := h
  exact lost_pool h
theorem to_any {β b : Nat} {s : PS} {F : Nat → Prop} {w : World} (h : IsP β b s F w) (n : Int) : Calls Try.prog 27 #[.pointer (some ⟨b, 0, none⟩), .int .i64 n] w fun e w' => e = .returned (.int .i64 (toL s.l n : Nat)) ∧ w' = w := by
  obtain ⟨v, bs, h⟩ := h
  exact to_pool h n
theorem IsP.most {β b : Nat} {s : PS} {F : Nat → Prop} {w : World} (h : IsP β b s F w) : 1 ≤ s.most ∧ s.most ≤ 1024 ∧ (s.l.length : Int) ≤ s.most := by
  obtain ⟨v, bs, h⟩ := h
  exact h.pos
/-- A frame that leaves the pool's blocks alone leaves the pool. -/
theorem IsP.fr {β b : Nat} {s : PS} {F S : Nat → Prop} {w w' : World} (h : IsP β b s F w) (hf : Fr S w w') (hw : ∀ k, Wr b w k → ¬ S k) (hy : ∀ k c fz, F k → w.heap[k]? = some (.cells c 5 fz) → ¬ S k) : IsP β b s F w' := by
  obtain ⟨v, bs, h⟩ := h
  refine ⟨v, bs, h.fr hf (hw b (.inl rfl)) (fun g hg => hw g ?_) (fun i hi g hg => ?_)⟩
  · obtain ⟨c, fz, hc⟩ := own_kind h.row g hg
    obtain ⟨A, cap, hv, _⟩ := own_slice h.row
    have hb := h.blk
    rw [hv] at hb hg
    exact .inr ⟨c, fz, hc, _, _, A, _, cap, hb, hg⟩
  · obtain ⟨hF, c, fz, hc⟩ := h.own i hi g hg
    exact hy g c fz hF hc
end Go.Proofs.Ytjfbiifcjiidfaa
