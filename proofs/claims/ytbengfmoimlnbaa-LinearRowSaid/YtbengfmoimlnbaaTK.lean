/- What the search holds in memory, and how its steps keep it. -/
import Derived.Test.YtbengfmoimlnbaaBG
namespace Go.Proofs.Ytbengfmoimlnbaa
open Go.RowKit

theorem Fr.grown {S : Nat → Prop} {a w w' : World} {row : Option Nat} (h : Fr S a w) (hg : w.grownBy w' row) (hrow : ∀ k, row = some k → k < a.heap.size → S k) : Fr S a w' :=
  h.trans (T := fun k => some k = row) ⟨hg.os, hg.tape, hg.output, hg.size, fun k hk hs => hg.block k hk hs⟩ (fun i hi e => hrow i e.symm hi)

def natV (l : List Nat) : List Value := l.map fun i : Nat => Value.int .i64 (i : Int)
/-- The blocks of a search. -/
structure Bx where
  sb : Nat
  rb : Nat
  mb : Nat
  sbx : Nat
  pb : Nat
  tbx : Nat
  A : Option Addr
  c : Nat

def SS (X : Bx) (lo : Nat) (w : World) (b : Nat) : Prop := b = X.pb ∨ b = X.mb ∨ (lo ≤ b ∧ ∃ c, w.heap[b]? = some (.cells c 3 (0, 0)))

structure SR (X : Bx) (w0 : World) (l : List It) (w : World) (v : Value) (P : List Nat) (ds : List Spot) : Prop where
  items : Rd w0 (.slice X.A l.length X.c) l.length (itsV l)
  below : Below w0.heap.size w0 w
  sbx : w.heap[X.sbx]? = some (.cells #[.pointer (some ⟨X.sb, 0, none⟩)] 65 (0, 0))
  sb : w.heap[X.sb]? = some (.cells #[.slice X.A l.length X.c, .slice (some ⟨X.rb, 0, none⟩) l.length l.length, .int .u64 (maskTo (mustP l) l.length : Int), .map (some X.mb)] 74 (0, 0))
  rb : w.heap[X.rb]? = some (.cells (rowsA l l.length 0) 68 (0, 0))
  pb : w.heap[X.pb]? = some (.cells #[v] 25 (0, 0))
  path : w.ownsRow w0.heap.size 3 1 v P.length (natV P)
  tbx : w.heap[X.tbx]? = some (.cells #[.func (.func 22) #[] #[.pointer (some ⟨X.sbx, 0, none⟩), .pointer (some ⟨X.pb, 0, none⟩), .pointer (some ⟨X.tbx, 0, none⟩)]] 67 (0, 0))
  dead : IsDead w X.mb ds
  sound : ∀ d ∈ ds, S l d.1 d.2 = none
  lo : w0.heap.size ≤ X.sbx ∧ w0.heap.size ≤ X.sb ∧ w0.heap.size ≤ X.rb ∧ w0.heap.size ≤ X.pb ∧ w0.heap.size ≤ X.tbx ∧ w0.heap.size ≤ X.mb

theorem SS.comp {X : Bx} {lo : Nat} {w w1 w2 : World} (h : Fr (SS X lo w) w w1) (k : Fr (SS X lo w1) w1 w2) : Fr (SS X lo w) w w2 := by
  refine h.trans k fun i hi hs => ?_
  rcases hs with e | e | ⟨e, c, hc⟩
  · exact .inl e
  · exact .inr (.inl e)
  · by_cases hS : SS X lo w i
    · exact hS
    · exact .inr (.inr ⟨e, c, (h.block i hi hS).symm.trans hc⟩)
theorem SS.below {X : Bx} {lo : Nat} {w w1 w2 : World} (h : Fr (SS X lo w) w w1) (k : Below w1.heap.size w1 w2) : Fr (SS X lo w) w w2 := h.trans (Fr.of_below k (S := fun _ => False)) fun _ _ h => h.elim
/-- A block of another kind stays. -/
theorem SS.keeps {X : Bx} {lo : Nat} {w w1 : World} (h : Fr (SS X lo w) w w1) {b : Nat} {cs : Array Value} {t : TypeId} (hb : w.heap[b]? = some (.cells cs t (0, 0))) (h1 : b ≠ X.pb) (h2 : b ≠ X.mb) (h3 : t ≠ 3) : w1.heap[b]? = some (.cells cs t (0, 0)) := by
  refine (h.block b (lt_of_block hb) ?_).trans hb
  rintro (e | e | ⟨_, c, hc⟩)
  · exact h1 e
  · exact h2 e
  · rw [hb] at hc
    cases hc
    exact h3 rfl

namespace SR
variable {X : Bx} {w0 : World} {l : List It} {w w' : World} {v : Value} {P : List Nat} {ds : List Spot}
theorem ltp (h : SR X w0 l w v P ds) : X.pb < w.heap.size := lt_of_block h.pb
theorem ltm (h : SR X w0 l w v P ds) : X.mb < w.heap.size := by obtain ⟨_, _, h, _⟩ := h.dead; exact (Array.getElem?_eq_some_iff.1 h).1
theorem ne_sbx (h : SR X w0 l w v P ds) : X.sbx ≠ X.pb ∧ X.sbx ≠ X.mb := by
  obtain ⟨es, cl, hm, _⟩ := h.dead
  constructor
  · intro e; have h1 := h.sbx; rw [e, h.pb] at h1; simp at h1
  · intro e; have h1 := h.sbx; rw [e, hm] at h1; simp at h1
theorem ne_sb (h : SR X w0 l w v P ds) : X.sb ≠ X.pb ∧ X.sb ≠ X.mb := by
  obtain ⟨es, cl, hm, _⟩ := h.dead
  constructor
  · intro e; have h1 := h.sb; rw [e, h.pb] at h1; simp at h1
  · intro e; have h1 := h.sb; rw [e, hm] at h1; simp at h1
theorem ne_rb (h : SR X w0 l w v P ds) : X.rb ≠ X.pb ∧ X.rb ≠ X.mb := by
  obtain ⟨es, cl, hm, _⟩ := h.dead
  constructor
  · intro e; have h1 := h.rb; rw [e, h.pb] at h1; simp at h1
  · intro e; have h1 := h.rb; rw [e, hm] at h1; simp at h1
theorem ne_tbx (h : SR X w0 l w v P ds) : X.tbx ≠ X.pb ∧ X.tbx ≠ X.mb := by
  obtain ⟨es, cl, hm, _⟩ := h.dead
  constructor
  · intro e; have h1 := h.tbx; rw [e, h.pb] at h1; simp at h1
  · intro e; have h1 := h.tbx; rw [e, hm] at h1; simp at h1
theorem ne_pm (h : SR X w0 l w v P ds) : X.pb ≠ X.mb := by
  obtain ⟨es, cl, hm, _⟩ := h.dead
  intro e; have h1 := h.pb; rw [e, hm] at h1; simp at h1
theorem row_pb (h : SR X w0 l w v P ds) : v.ownBlock ≠ some X.pb := by
  rcases h.path.2 with ⟨rfl, _⟩ | ⟨g, cap, cur, rfl, _, hh, _⟩
  · simp [Value.ownBlock]
  · simp only [Value.ownBlock, ne_eq, Option.some.injEq]
    intro e; rw [e, h.pb] at hh; simp at hh
theorem row_mb (h : SR X w0 l w v P ds) : v.ownBlock ≠ some X.mb := by
  obtain ⟨es, cl, hm, _⟩ := h.dead
  rcases h.path.2 with ⟨rfl, _⟩ | ⟨g, cap, cur, rfl, _, hh, _⟩
  · simp [Value.ownBlock]
  · simp only [Value.ownBlock, ne_eq, Option.some.injEq]
    intro e; rw [e, hm] at hh; simp at hh
/-- All but path and map stay. -/
theorem core (h : SR X w0 l w v P ds) (hf : Fr (SS X w0.heap.size w) w w') {v' : Value} {P' : List Nat} {ds' : List Spot} (hp : w'.heap[X.pb]? = some (.cells #[v'] 25 (0, 0)))
    (ho : w'.ownsRow w0.heap.size 3 1 v' P'.length (natV P')) (hd : IsDead w' X.mb ds') (hs : ∀ d ∈ ds', S l d.1 d.2 = none) : SR X w0 l w' v' P' ds' := by
  refine ⟨h.items, h.below.trans (hf.below h.below.size ?_), SS.keeps hf h.sbx h.ne_sbx.1 h.ne_sbx.2 (by decide), SS.keeps hf h.sb h.ne_sb.1 h.ne_sb.2 (by decide), SS.keeps hf h.rb h.ne_rb.1 h.ne_rb.2 (by decide), hp, ho, SS.keeps hf h.tbx h.ne_tbx.1 h.ne_tbx.2 (by decide), hd, hs, h.lo⟩
  rintro k hk (e | e | ⟨e, _⟩)
  · have := h.lo; omega
  · have := h.lo; omega
  · omega
theorem of_below (h : SR X w0 l w v P ds) (hb : Below w.heap.size w w') : SR X w0 l w' v P ds :=
  h.core (SS.below (Fr.refl _ _) hb) ((hb.block _ h.ltp).trans h.pb) (own_fr h.path (Fr.of_below hb (S := fun _ => False)) (fun _ _ h => h)) (h.dead.fr (Fr.of_below hb (S := fun _ => False)) (fun h => h)) h.sound
/-- Another value is laid into the path's variable. -/
theorem put (h : SR X w0 l w v P ds) {v' : Value} {P' : List Nat} (ho : w.ownsRow w0.heap.size 3 1 v' P'.length (natV P')) :
    SR X w0 l (w.setCell ⟨X.pb, 0, none⟩ v') v' P' ds ∧ Fr (SS X w0.heap.size w) w (w.setCell ⟨X.pb, 0, none⟩ v') := by
  have hf : Fr (SS X w0.heap.size w) w (w.setCell ⟨X.pb, 0, none⟩ v') := (Fr.refl _ w).setCell (fun _ => .inl rfl) _
  have hf1 : Fr (· = X.pb) w (w.setCell ⟨X.pb, 0, none⟩ v') := (Fr.refl (· = X.pb) w).setCell (p := ⟨X.pb, 0, none⟩) (fun _ => rfl) _
  refine ⟨h.core hf (one_setCell h.pb) (own_fr ho hf1 ?_) (h.dead.fr hf1 h.ne_pm.symm) h.sound, hf⟩
  intro k hk e
  subst e
  rcases ho.2 with ⟨rfl, _⟩ | ⟨g, cap, cur, rfl, _, hh, _⟩
  · simp [Value.ownBlock] at hk
  · simp only [Value.ownBlock, Option.some.injEq] at hk
    rw [hk, h.pb] at hh; simp at hh
/-- The path's row has grown. -/
theorem grow (h : SR X w0 l w v P ds) {v' : Value} {P' : List Nat} (hg : w.grownBy w' v.ownBlock) (ho : w'.ownsRow w0.heap.size 3 1 v' P'.length (natV P')) :
    SR X w0 l (w'.setCell ⟨X.pb, 0, none⟩ v') v' P' ds ∧ Fr (SS X w0.heap.size w) w (w'.setCell ⟨X.pb, 0, none⟩ v') := by
  have hf : Fr (SS X w0.heap.size w) w w' := (Fr.refl _ w).grown hg (by
    intro k hk _
    rcases h.path.2 with ⟨rfl, _⟩ | ⟨g, cap, cur, rfl, hlo, hh, _⟩
    · simp [Value.ownBlock] at hk
    · simp only [Value.ownBlock, Option.some.injEq] at hk
      subst hk
      exact .inr (.inr ⟨hlo, cur, hh⟩))
  have hp : w'.heap[X.pb]? = some (.cells #[v] 25 (0, 0)) := (hg.block _ h.ltp (fun e => h.row_pb e.symm)).trans h.pb
  have hd : IsDead w' X.mb ds := by
    obtain ⟨es, cl, hm, r⟩ := h.dead
    exact ⟨es, cl, (hg.block _ h.ltm (fun e => h.row_mb e.symm)).trans hm, r⟩
  have hf1 : Fr (· = X.pb) w' (w'.setCell ⟨X.pb, 0, none⟩ v') := (Fr.refl (· = X.pb) w').setCell (p := ⟨X.pb, 0, none⟩) (fun _ => rfl) _
  have hf2 : Fr (SS X w0.heap.size w) w (w'.setCell ⟨X.pb, 0, none⟩ v') := hf.setCell (fun _ => .inl rfl) _
  refine ⟨h.core hf2 (one_setCell hp) (own_fr ho hf1 ?_) (hd.fr hf1 h.ne_pm.symm) h.sound, hf2⟩
  intro k hk e
  subst e
  rcases ho.2 with ⟨rfl, _⟩ | ⟨g, cap, cur, rfl, _, hh, _⟩
  · simp [Value.ownBlock] at hk
  · simp only [Value.ownBlock, Option.some.injEq] at hk
    rw [hk, hp] at hh; simp at hh
/-- A spot more from which there is no way. -/
theorem died (h : SR X w0 l w v P ds) {k : Spot} {ds' : List Spot} (hd : IsDead w' X.mb ds') (hm : ∀ d ∈ ds', d = k ∨ d ∈ ds) (hf : Fr (· = X.mb) w w') (hk : S l k.1 k.2 = none) :
    SR X w0 l w' v P ds' ∧ Fr (SS X w0.heap.size w) w w' := by
  have hf2 : Fr (SS X w0.heap.size w) w w' := hf.mono (fun _ _ e => .inr (.inl e))
  refine ⟨h.core hf2 ((hf.block _ h.ltp h.ne_pm).trans h.pb) (own_fr h.path hf ?_) hd ?_, hf2⟩
  · intro j hj e
    subst e
    exact h.row_mb hj
  · intro d hd'
    rcases hm d hd' with rfl | hx
    · exact hk
    · exact h.sound d hx
end SR

theorem own_pop {w : World} {base : Nat} {e : TypeId} {v : Value} {n : Nat} {xs : List Value} {x : Value} (h : w.ownsRow base e 1 v (n + 1) (xs ++ [x])) :
    ∃ g c, v = .slice (some ⟨g, 0, none⟩) (n + 1) c ∧ n + 1 ≤ c ∧ w.ownsRow base e 1 (.slice (some ⟨g, 0, none⟩) n c) n xs := by
  obtain ⟨h1, h2⟩ := h
  rcases h2 with ⟨_, h0⟩ | ⟨g, cap, cur, rfl, hg, hh, hn, hcap, hsz, htake⟩
  · cases h0
  · have hl : xs.length = n := by simpa using h1
    refine ⟨g, cap, rfl, hn, by omega, .inr ⟨g, cap, cur, rfl, hg, hh, by omega, hcap, hsz, ?_⟩⟩
    have h3 : (cur.toList.take ((n + 1) * 1)).take (n * 1) = (xs ++ [x]).take (n * 1) := by rw [htake]
    rw [List.take_take, Nat.min_eq_left (by omega)] at h3
    rw [h3, List.take_append_of_le_length (by omega), List.take_of_length_le (by omega)]

/-! ### the tests on masks -/
theorem maskTo_lt24 (p : Nat → Bool) {n : Nat} (hn : n ≤ 24) : maskTo p n < 18446744073709551616 :=
  Nat.lt_of_lt_of_le (maskTo_lt p n) (Nat.le_trans (Nat.pow_le_pow_right (by decide) hn) (by decide))
theorem left_iff (l : List It) (m : Nat) (hn : l.length ≤ 24) (hm : m < 18446744073709551616) : (maskTo (mustP l) l.length &&& (18446744073709551615 - m) = 0) ↔ left l m = false := by
  rw [andNot_zero _ _ hm (maskTo_lt24 _ hn)]
  unfold left
  rw [List.any_eq_false]
  constructor
  · intro h i hi hc
    rw [List.mem_range] at hi
    rw [Bool.and_eq_true] at hc
    have := h i (by rw [testBit_maskTo, hc.1]; simp [hi])
    rw [this] at hc
    simp at hc
  · intro h j hj
    rw [testBit_maskTo, Bool.and_eq_true] at hj
    have := h j (List.mem_range.2 (by simpa using hj.1))
    rw [hj.2] at this
    simpa using this
theorem before_iff (l : List It) (m k : Nat) (hn : l.length ≤ 24) (hm : m < 18446744073709551616) : (maskTo (aheadP l k) l.length &&& (18446744073709551615 - m) = 0) ↔ before l m k = false := by
  rw [andNot_zero _ _ hm (maskTo_lt24 _ hn)]
  unfold before
  rw [List.any_eq_false]
  constructor
  · intro h i hi hc
    rw [List.mem_range] at hi
    rw [Bool.and_eq_true] at hc
    have := h i (by rw [testBit_maskTo, hc.1]; simp [hi])
    rw [this] at hc
    simp at hc
  · intro h j hj
    rw [testBit_maskTo, Bool.and_eq_true] at hj
    have := h j (List.mem_range.2 (by simpa using hj.1))
    rw [hj.2] at this
    simpa using this
theorem t_left (l : List It) (m : Nat) (hn : l.length ≤ 24) (hm : m < 18446744073709551616) : (bits .andNot .u64 (maskTo (mustP l) l.length : Int) (m : Int) == 0) = !left l m := by
  rw [u64_andNot_nat _ _ (maskTo_lt24 _ hn) hm]
  have h := left_iff l m hn hm
  cases hl : left l m
  · simp [h.2 hl]
  · rw [Bool.not_true, beq_eq_false_iff_ne]
    intro e
    have := h.1 (by omega)
    rw [hl] at this
    cases this
theorem t_before (l : List It) (m k : Nat) (hn : l.length ≤ 24) (hm : m < 18446744073709551616) : (bits .andNot .u64 (maskTo (aheadP l k) l.length : Int) (m : Int) != 0) = before l m k := by
  rw [u64_andNot_nat _ _ (maskTo_lt24 _ hn) hm]
  have h := before_iff l m k hn hm
  cases hl : before l m k
  · simp [h.2 hl]
  · rw [bne_iff_ne]
    intro e
    have := h.1 (by omega)
    rw [hl] at this
    cases this
theorem t_taken (m k : Nat) (hm : m < 18446744073709551616) : (bits .and .u64 ((m : Int) / 2 ^ k) 1 == 1) = m.testBit k := by
  rw [show ((m : Int) / 2 ^ k) = ((m >>> k : Nat) : Int) by rw [Nat.shiftRight_eq_div_pow]; simp]
  have hs : m >>> k < 18446744073709551616 := Nat.lt_of_le_of_lt (Nat.shiftRight_le m k) hm
  have := u64_and_nat (m >>> k) 1 hs (by decide)
  rw [show (((1 : Nat) : Int)) = 1 from rfl] at this
  rw [this, Nat.testBit, Nat.and_comm 1]
  rw [Nat.and_one_is_mod]
  rcases Nat.mod_two_eq_zero_or_one (m >>> k) with e | e <;> rw [e] <;> rfl
end Go.Proofs.Ytbengfmoimlnbaa
