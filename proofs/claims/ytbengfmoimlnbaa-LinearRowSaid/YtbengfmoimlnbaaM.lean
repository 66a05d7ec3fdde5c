/- The search of an order as a plain function over masks; what it tells; that it misses none. -/
import Derived.Test.YtbengfmoimlnbaaB
namespace Go.Proofs.Ytbengfmoimlnbaa

/-! ### masks -/
def maskTo (p : Nat → Bool) : Nat → Nat
  | 0 => 0
  | k + 1 => if p k then maskTo p k ||| 2 ^ k else maskTo p k
theorem maskTo_lt (p : Nat → Bool) (k : Nat) : maskTo p k < 2 ^ k := by
  induction k with
  | zero => simp [maskTo]
  | succ k ih =>
    unfold maskTo
    have h : maskTo p k < 2 ^ (k + 1) := Nat.lt_of_lt_of_le ih (Nat.pow_le_pow_right (by decide) (Nat.le_succ k))
    split
    · exact Nat.or_lt_two_pow h (Nat.pow_lt_pow_right (by decide) (Nat.lt_succ_self k))
    · exact h
theorem testBit_or_pow (m i j : Nat) : (m ||| 2 ^ i).testBit j = (m.testBit j || decide (i = j)) := by
  rw [Nat.testBit_or, Nat.testBit_two_pow]
theorem testBit_maskTo (p : Nat → Bool) (k j : Nat) : (maskTo p k).testBit j = (decide (j < k) && p j) := by
  induction k with
  | zero => simp [maskTo]
  | succ k ih =>
    unfold maskTo
    by_cases hk : p k = true
    · rw [if_pos hk, testBit_or_pow, ih]
      by_cases e : k = j
      · subst e; simp [hk]
      · by_cases h : j < k
        · simp [h, Nat.lt_succ_of_lt h, e]
        · have : ¬ j < k + 1 := by omega
          simp [h, this, e]
    · rw [if_neg hk, ih]
      by_cases e : k = j
      · subst e; simp at hk; simp [hk]
      · by_cases h : j < k
        · simp [h, Nat.lt_succ_of_lt h]
        · have : ¬ j < k + 1 := by omega
          simp [h, this]
/-- What of a is not of m: nothing. -/
theorem andNot_zero (a m : Nat) (hm : m < 18446744073709551616) (ha : a < 18446744073709551616) : (a &&& (18446744073709551615 - m) = 0) ↔ ∀ j, a.testBit j = true → m.testBit j = true := by
  have hb : ∀ j, (18446744073709551615 - m).testBit j = (decide (j < 64) && !m.testBit j) := fun j => by
    have := Nat.testBit_two_pow_sub_succ (n := 64) (x := m) hm j
    rw [show 2 ^ 64 - (m + 1) = 18446744073709551615 - m by omega] at this
    exact this
  constructor
  · intro h j hj
    have hjl : j < 64 := by
      rcases Nat.lt_or_ge j 64 with h | h
      · exact h
      · rw [Nat.testBit_lt_two_pow (Nat.lt_of_lt_of_le ha (show (18446744073709551616 : Nat) ≤ 2 ^ j from Nat.pow_le_pow_right (n := 2) (by decide) h))] at hj
        cases hj
    have := congrArg (fun x => x.testBit j) h
    simp only [Nat.testBit_and, hb, hj, hjl, Nat.zero_testBit, decide_true, Bool.true_and] at this
    simpa using this
  · intro h
    apply Nat.eq_of_testBit_eq
    intro j
    rw [Nat.testBit_and, hb, Nat.zero_testBit]
    cases hj : a.testBit j
    · rfl
    · rw [h j hj]; simp

/-! ### the search -/
def itm (l : List It) (i : Nat) : It := l.getD i default
theorem itm_eq {l : List It} {i : Nat} (h : i < l.length) : itm l i = l[i] := by simp [itm, List.getD, h]
def anEq (a b : An) : Bool := a.e == b.e && (a.found == b.found && (a.value.toList == b.value.toList && a.ver == b.ver))
theorem anEq_self (a : An) : anEq a a = true := by simp [anEq]
def mustP (l : List It) (i : Nat) : Bool := !(itm l i).open_
def aheadP (l : List It) (i k : Nat) : Bool := decide (k ≠ i) && ahead (itm l k) (itm l i)
/-- Is one left that must be taken? -/
def left (l : List It) (m : Nat) : Bool := (List.range l.length).any fun i => mustP l i && !m.testBit i
/-- Does one that is not taken stand ahead of i? -/
def before (l : List It) (m i : Nat) : Bool := (List.range l.length).any fun k => aheadP l i k && !m.testBit k
def fits (l : List It) (s : St) (i : Nat) : Bool := (itm l i).open_ || anEq (doesA s (itm l i).kind) (itm l i).ans
def play (l : List It) (s : St) (i : Nat) : St := doesS s (itm l i).kind (itm l i).value
def can (l : List It) (m : Nat) (s : St) (i : Nat) : Bool := !m.testBit i && !before l m i && fits l s i

def srch (l : List It) : Nat → Nat → St → Option (List Nat)
  | 0, m, _ => if left l m then none else some []
  | f + 1, m, s => if left l m then (List.range l.length).findSome? (fun i => if can l m s i then (srch l f (m ||| 2 ^ i) (play l s i)).map (i :: ·) else none) else some []

def cnt (n m : Nat) : Nat := (List.range n).countP m.testBit
theorem cnt_le (n m : Nat) : cnt n m ≤ n := by
  have := List.countP_le_length (p := m.testBit) (l := List.range n)
  simpa [cnt] using this
theorem cnt_set {n m i : Nat} (hi : i < n) (h : m.testBit i = false) : cnt n (m ||| 2 ^ i) = cnt n m + 1 := by
  unfold cnt
  induction n with
  | zero => omega
  | succ n ih =>
    rw [List.range_succ, List.countP_append, List.countP_append, List.countP_singleton, List.countP_singleton, testBit_or_pow]
    by_cases e : i = n
    · subst e
      have : (List.range i).countP (m ||| 2 ^ i).testBit = (List.range i).countP m.testBit := by
        apply List.countP_congr
        intro j hj
        rw [testBit_or_pow]
        have : i ≠ j := by have := List.mem_range.1 hj; omega
        simp [this]
      rw [this, h]
      simp
    · rw [ih (by omega)]
      simp only [e, decide_false, Bool.or_false]
      omega
theorem cnt_full {n m : Nat} (h : cnt n m = n) : ∀ i, i < n → m.testBit i = true := by
  unfold cnt at h
  induction n with
  | zero => intro i hi; omega
  | succ n ih =>
    rw [List.range_succ, List.countP_append, List.countP_singleton] at h
    have hle := List.countP_le_length (p := m.testBit) (l := List.range n)
    rw [List.length_range] at hle
    intro i hi
    by_cases e : i = n
    · subst e
      cases hb : m.testBit i
      · rw [hb] at h; simp at h; omega
      · rfl
    · refine ih ?_ i (by omega)
      split at h <;> omega

/-- The search itself: as deep as there are items that are not taken. -/
def S (l : List It) (m : Nat) (s : St) : Option (List Nat) := srch l (l.length - cnt l.length m) m s
theorem left_full {l : List It} {m : Nat} (h : cnt l.length m = l.length) : left l m = false := by
  unfold left
  rw [List.any_eq_false]
  intro i hi
  rw [cnt_full h i (List.mem_range.1 hi)]; simp
theorem can_bit {l : List It} {m i : Nat} {s : St} (h : can l m s i = true) : m.testBit i = false := by
  unfold can at h; cases hb : m.testBit i
  · rfl
  · rw [hb] at h; cases h
theorem S_eq (l : List It) (m : Nat) (s : St) : S l m s = if left l m then (List.range l.length).findSome? (fun i => if can l m s i then (S l (m ||| 2 ^ i) (play l s i)).map (i :: ·) else none) else some [] := by
  by_cases hf : cnt l.length m = l.length
  · unfold S
    rw [hf, Nat.sub_self, left_full hf]
    simp [srch, left_full hf]
  · have hlt : cnt l.length m < l.length := by have := cnt_le l.length m; omega
    obtain ⟨f, hfu⟩ : ∃ f, l.length - cnt l.length m = f + 1 := ⟨l.length - cnt l.length m - 1, by omega⟩
    unfold S
    rw [hfu]
    simp only [srch]
    split
    · have hcg : ∀ (ls : List Nat) (g h : Nat → Option (List Nat)), (∀ i, i ∈ ls → g i = h i) → ls.findSome? g = ls.findSome? h := by
        intro ls g h hgh
        induction ls with
        | nil => rfl
        | cons x ls ih =>
          rw [List.findSome?_cons, List.findSome?_cons, hgh x List.mem_cons_self, ih (fun i hi => hgh i (List.mem_cons_of_mem _ hi))]
      apply hcg
      intro i hi
      by_cases hc : can l m s i = true
      · rw [if_pos hc, if_pos hc, cnt_set (List.mem_range.1 hi) (can_bit hc)]
        rw [show l.length - (cnt l.length m + 1) = f by omega]
      · rw [if_neg hc, if_neg hc]
    · rfl

/-- The search from item k on. -/
def SF (l : List It) (m : Nat) (s : St) (k : Nat) : Option (List Nat) := (List.range' k (l.length - k)).findSome? (fun i => if can l m s i then (S l (m ||| 2 ^ i) (play l s i)).map (i :: ·) else none)
theorem SF_zero (l : List It) (m : Nat) (s : St) (h : left l m = true) : S l m s = SF l m s 0 := by
  rw [S_eq, if_pos h, SF, List.range_eq_range', Nat.sub_zero]
theorem SF_end (l : List It) (m : Nat) (s : St) : SF l m s l.length = none := by simp [SF]
theorem SF_step (l : List It) (m : Nat) (s : St) (k : Nat) (hk : k < l.length) : SF l m s k = if can l m s k then (match S l (m ||| 2 ^ k) (play l s k) with | some q => some (k :: q) | none => SF l m s (k + 1)) else SF l m s (k + 1) := by
  unfold SF
  rw [show l.length - k = (l.length - (k + 1)) + 1 by omega, List.range'_succ, List.findSome?_cons]
  by_cases h : can l m s k = true
  · rw [if_pos h, if_pos h]
    cases S l (m ||| 2 ^ k) (play l s k) <;> rfl
  · rw [if_neg h, if_neg h]
end Go.Proofs.Ytbengfmoimlnbaa
