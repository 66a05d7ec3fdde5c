/- Lists that LinearRow builds: turned, and without one of the Gets; how they lie in memory. -/
import Derived.Test.YtbengfmoimlnbaaRW
namespace Go.Proofs.Ytbengfmoimlnbaa
open Go.RowKit

def pick (P : Nat → Bool) : Nat → List It → List It
  | _, [] => []
  | j, x :: z => if P j then x :: pick P (j + 1) z else pick P (j + 1) z
theorem pick_append (P : Nat → Bool) : ∀ (a b : List It) (j : Nat), pick P j (a ++ b) = pick P j a ++ pick P (j + a.length) b
  | [], b, j => rfl
  | x :: a, b, j => by
    have := pick_append P a b (j + 1)
    simp only [List.cons_append, pick, List.length_cons]
    rw [this, show j + 1 + a.length = j + (a.length + 1) by omega]
    split <;> rfl
theorem pick_row (P : Nat → Bool) : ∀ (z : List It) (s : St) (t j : Nat), Row s t z → (∀ i x, z[i]? = some x → P (j + i) = false → x.kind = 1) → Row s t (pick P j z)
  | [], _, _, _, _, _ => trivial
  | x :: z, s, t, j, ⟨u, h, h1, h2, h3, h4, hr⟩, hP => by
    have hz := pick_row P z _ (u + 1) (j + 1) hr fun i y hy hp => hP (i + 1) y (by simpa using hy) (by rw [← hp]; congr 1; omega)
    unfold pick
    cases hp : P j
    · rw [if_neg (by simp)]
      have h5 : x.kind = 1 := hP 0 x rfl hp
      rw [h5] at hz
      exact hz.mono (by omega)
    · rw [if_pos rfl]
      exact ⟨u, h, h1, h2, h3, h4, hz⟩
theorem pick_length (P : Nat → Bool) : ∀ (z : List It) (j : Nat), (pick P j z).length ≤ z.length
  | [], _ => Nat.le_refl _
  | x :: z, j => by
    have := pick_length P z (j + 1)
    unfold pick
    split <;> simp <;> omega
def keepB (x : List It) (r i : Nat) : Bool := (itm x i).kind != 1 || i != r
def restL (x : List It) (r k : Nat) : List It := pick (keepB x r) 0 (x.take k)
theorem restL_succ {x : List It} {r k : Nat} (h : k < x.length) : restL x r (k + 1) = restL x r k ++ (if keepB x r k then [x[k]] else []) := by
  unfold restL
  rw [List.take_add_one, List.getElem?_eq_getElem h, pick_append, Nat.zero_add, List.length_take, Nat.min_eq_left (by omega)]
  simp only [Option.toList, pick]
theorem restL_ok (x : List It) (r : Nat) (h : Row St.zero 0 x) : okR (restL x r x.length) = true := by
  refine row_plain _ ?_
  unfold restL
  rw [List.take_length]
  refine pick_row _ _ _ _ _ h fun i y hy hp => ?_
  obtain ⟨hi, rfl⟩ := List.getElem?_eq_some_iff.1 hy
  unfold keepB at hp
  rw [Nat.zero_add, itm_eq hi] at hp
  simp only [Bool.or_eq_false_iff, bne_eq_false_iff_eq] at hp
  exact hp.1
theorem itsV_append (a b : List It) : itsV (a ++ b) = itsV a ++ itsV b := by simp [itsV]
theorem itsV_get (l : List It) (j : Nat) : (itsV l)[j]? = (l[j / 9]?).bind fun x => x.enc[j % 9]? := by
  induction l generalizing j with
  | nil => simp [itsV]
  | cons a l ih =>
    have : itsV (a :: l) = a.enc ++ itsV l := rfl
    rw [this]
    by_cases h : j < 9
    · rw [List.getElem?_append_left (by simpa [D_gleberef24_Item.enc] using h), Nat.div_eq_of_lt h, Nat.mod_eq_of_lt h]
      rfl
    · rw [List.getElem?_append_right (by simp [D_gleberef24_Item.enc]; omega), ih]
      have e1 : j - (D_gleberef24_Item.enc a).length = j - 9 := by simp [D_gleberef24_Item.enc]
      rw [e1, show (j - 9) / 9 = j / 9 - 1 by omega, show (j - 9) % 9 = j % 9 by omega, show l[j / 9 - 1]? = (a :: l)[j / 9]? by rw [show j / 9 = (j / 9 - 1) + 1 by omega]; simp]
theorem itsV_set {l : List It} {k : Nat} (x : It) (h : k < l.length) :
    (((((((((itsV l).set (k * 9) (.int .i64 x.kind)).set (k * 9 + 1) (.int .i64 x.begin_)).set (k * 9 + 2) (.int .i64 x.end_)).set (k * 9 + 3) (.bool x.open_)).set (k * 9 + 4) (.string x.value)).set (k * 9 + 5) (.int .i64 x.ans.e)).set (k * 9 + 6) (.bool x.ans.found)).set (k * 9 + 7) (.string x.ans.value)).set (k * 9 + 8) (.int .i64 x.ans.ver) = itsV (l.set k x) := by
  apply List.ext_getElem?
  intro j
  have hlen := itsV_length l
  rw [itsV_get]
  by_cases hj : j / 9 = k
  · rw [hj, List.getElem?_set_self h]
    have hjl : j < (itsV l).length := by rw [hlen]; omega
    have hd : j % 9 = 0 ∨ j % 9 = 1 ∨ j % 9 = 2 ∨ j % 9 = 3 ∨ j % 9 = 4 ∨ j % 9 = 5 ∨ j % 9 = 6 ∨ j % 9 = 7 ∨ j % 9 = 8 := by omega
    rcases hd with e | e | e | e | e | e | e | e | e
    all_goals
      rw [e]
      simp only [List.getElem?_set, List.length_set]
      simp only [D_gleberef24_Item.enc, Option.bind_some]
      repeat (first | (rw [if_neg (by omega)]) | (rw [if_pos (by omega)]))
      rfl
  · rw [List.getElem?_set_ne (by omega)]
    simp only [List.getElem?_set, List.length_set]
    repeat (rw [if_neg (by omega)])
    exact itsV_get l j
/-- The first k of them turned. -/
def turnTo (x : List It) (r k : Nat) : List It := (List.range x.length).map fun i => if i < k then itm x ((i + r) % x.length) else itm x i
theorem turnTo_length (x : List It) (r k : Nat) : (turnTo x r k).length = x.length := by simp [turnTo]
theorem turnTo_zero (x : List It) (r : Nat) : turnTo x r 0 = x := by
  apply List.ext_getElem
  · simp [turnTo]
  · intro i h1 h2
    simp [turnTo, itm_eq h2]
theorem turnTo_full (x : List It) (r : Nat) : turnTo x r x.length = turned x r := by
  apply List.ext_getElem
  · simp [turnTo, turned]
  · intro i h1 h2
    have : i < x.length := by simpa [turned] using h2
    simp [turnTo, turned, this]
theorem turnTo_succ {x : List It} {r k : Nat} : (turnTo x r k).set k (itm x ((k + r) % x.length)) = turnTo x r (k + 1) := by
  apply List.ext_getElem
  · simp [turnTo]
  · intro i h1 h2
    rw [List.getElem_set]
    simp only [turnTo, List.getElem_map, List.getElem_range]
    by_cases e : k = i
    · subst e; simp
    · rw [if_neg e]
      by_cases h3 : i < k
      · rw [if_pos h3, if_pos (by omega)]
      · rw [if_neg h3, if_neg (by omega)]
theorem turn_fact (x : Int) (n : Nat) (hn : 0 < n) (h12 : n ≤ 12) : ∃ r : Nat, r < n ∧ (wrap64 (x.tmod (n : Int) + (n : Int))).tmod (n : Int) = (r : Int) := by
  have h1 : x.tmod n < n := Int.tmod_lt_of_pos x (by omega)
  have h2 : -(n : Int) < x.tmod n := Int.lt_tmod_of_pos x (b := n) (by omega)
  have h3 : wrap64 (x.tmod n + n) = x.tmod n + n := by unfold wrap64; omega
  rw [h3]
  have h4 : (x.tmod n + n).tmod n = (x.tmod n + n) % n := Int.tmod_eq_emod_of_nonneg (by omega)
  rw [h4]
  have h5 := Int.emod_nonneg (x.tmod n + n) (b := (n : Int)) (by omega)
  have h6 := Int.emod_lt_of_pos (x.tmod n + n) (b := (n : Int)) (by omega)
  exact ⟨((x.tmod n + n) % n).toNat, by omega, by omega⟩
end Go.Proofs.Ytbengfmoimlnbaa
