/- Cells set one behind the other in a block that is known whole. -/
import Derived.Test.YtimlldedpbbeoaaGreatMM
import Derived.Lib.SliceRun
namespace Go.Proofs.YtimlldedpbbeoaaGreat
open Go.RowKit

def setL (c : Array Value) : Nat → List Value → Array Value
  | _, [] => c
  | o, v :: r => setL (c.setIfInBounds o v) (o + 1) r
theorem setL_size : ∀ (vs : List Value) (c : Array Value) (o : Nat), (setL c o vs).size = c.size
  | [], _, _ => rfl
  | v :: r, c, o => by
    have := setL_size r (c.setIfInBounds o v) (o + 1)
    simpa [setL] using this
theorem setL_at : ∀ (vs : List Value) (c : Array Value) (o j : Nat), o + vs.length ≤ c.size → (setL c o vs)[j]? = if o ≤ j ∧ j < o + vs.length then vs[j - o]? else c[j]?
  | [], c, o, j, _ => by
    rw [if_neg (by simp)]
    rfl
  | v :: r, c, o, j, h => by
    simp only [List.length_cons] at h
    have := setL_at r (c.setIfInBounds o v) (o + 1) j (by simp; omega)
    unfold setL
    rw [this]
    simp only [List.length_cons]
    by_cases h1 : o = j
    · subst h1
      rw [if_neg (by omega), if_pos (by omega), Nat.sub_self, Array.getElem?_setIfInBounds_self_of_lt (by omega)]
      rfl
    · by_cases h2 : o + 1 ≤ j ∧ j < o + 1 + r.length
      · rw [if_pos h2, if_pos (by omega), show j - o = (j - (o + 1)) + 1 by omega]
        rfl
      · rw [if_neg h2, if_neg (by omega), Array.getElem?_setIfInBounds_ne h1]
theorem block_setCells {b : Nat} {t : TypeId} {m : Nat × Nat} : ∀ (vs : List Value) (o : Nat) {w : World} {c : Array Value}, w.heap[b]? = some (.cells c t m) → (w.setCells b o vs).heap[b]? = some (.cells (setL c o vs) t m)
  | [], _, _, _, h => h
  | v :: r, o, _, _, h => block_setCells r (o + 1) (block_setCell h v)
theorem fr_setCells {S : Nat → Prop} {a : World} {b : Nat} (hb : S b) : ∀ (vs : List Value) (o : Nat) {w : World}, Fr S a w → Fr S a (w.setCells b o vs)
  | [], _, _, h => h
  | v :: r, o, _, h => fr_setCells hb r (o + 1) (h.setCell (p := ⟨b, o, none⟩) (fun _ => hb) v)
end Go.Proofs.YtimlldedpbbeoaaGreat
