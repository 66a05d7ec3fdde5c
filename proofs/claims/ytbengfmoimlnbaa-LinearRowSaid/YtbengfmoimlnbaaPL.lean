/- What the search tells is an order that fits; where one fits, it tells one. -/
import Derived.Test.YtbengfmoimlnbaaM
namespace Go.Proofs.Ytbengfmoimlnbaa

/-- Each as it is answered, one behind the other. -/
def Chain (l : List It) : St → List Nat → Prop
  | _, [] => True
  | s, i :: q => fits l s i = true ∧ Chain l (play l s i) q

theorem findSome_some {α β : Type} (f : α → Option β) : ∀ (ls : List α) (x : α), x ∈ ls → (f x).isSome = true → (ls.findSome? f).isSome = true
  | y :: ls, x, hx, hf => by
    rw [List.findSome?_cons]
    cases hy : f y with
    | some b => rfl
    | none =>
      rcases List.mem_cons.1 hx with rfl | hx
      · rw [hy] at hf; cases hf
      · exact findSome_some f ls x hx hf
theorem findSome_get {α β : Type} (f : α → Option β) : ∀ (ls : List α) (b : β), ls.findSome? f = some b → ∃ x, x ∈ ls ∧ f x = some b
  | y :: ls, b, h => by
    rw [List.findSome?_cons] at h
    cases hy : f y with
    | some c =>
      rw [hy] at h
      exact ⟨y, List.mem_cons_self, hy.trans h⟩
    | none =>
      rw [hy] at h
      obtain ⟨x, hx, hf⟩ := findSome_get f ls b h
      exact ⟨x, List.mem_cons_of_mem _ hx, hf⟩

theorem S_complete (l : List It) : ∀ (q : List Nat) (m : Nat) (s : St), q.Nodup → (∀ i ∈ q, i < l.length ∧ m.testBit i = false) →
    (∀ i, i < l.length → mustP l i = true → m.testBit i = true ∨ i ∈ q) → q.Pairwise (fun i k => ahead (itm l k) (itm l i) = false) → Chain l s q →
    (S l m s).isSome = true
  | [], m, s, _, _, h3, _, _ => by
    have : left l m = false := by
      unfold left
      rw [List.any_eq_false]
      intro i hi
      cases hm : mustP l i
      · simp
      · rcases h3 i (List.mem_range.1 hi) hm with h | h
        · rw [h]; simp
        · cases h
    rw [S_eq, this]; rfl
  | i :: q, m, s, h1, h2, h3, h4, h5 => by
    rw [S_eq]
    cases hl : left l m
    · rfl
    · rw [if_pos rfl]
      have hi := h2 i List.mem_cons_self
      refine findSome_some _ _ i (List.mem_range.2 hi.1) ?_
      have hb : before l m i = false := by
        unfold before
        rw [List.any_eq_false]
        intro k hk
        cases hm : m.testBit k
        · simp only [Bool.not_false, Bool.and_true, Bool.not_eq_true]
          unfold aheadP
          by_cases e : k = i
          · simp [e]
          · cases ho : (itm l k).open_
            · rcases h3 k (List.mem_range.1 hk) (by simp [mustP, ho]) with h | h
              · rw [hm] at h; cases h
              · rcases List.mem_cons.1 h with h | h
                · exact absurd h e
                · rw [(List.pairwise_cons.1 h4).1 k h]; simp
            · simp [ahead, ho]
        · simp
      have hc : can l m s i = true := by
        unfold can
        rw [hi.2, hb, h5.1]; rfl
      rw [if_pos hc, Option.isSome_map]
      refine S_complete l q _ _ (List.nodup_cons.1 h1).2 ?_ ?_ (List.pairwise_cons.1 h4).2 h5.2
      · intro j hj
        refine ⟨(h2 j (List.mem_cons_of_mem _ hj)).1, ?_⟩
        rw [testBit_or_pow, (h2 j (List.mem_cons_of_mem _ hj)).2]
        have : i ≠ j := fun e => (List.nodup_cons.1 h1).1 (e ▸ hj)
        simp [this]
      · intro j hj hm
        rw [testBit_or_pow]
        rcases h3 j hj hm with h | h
        · left; rw [h]; rfl
        · rcases List.mem_cons.1 h with h | h
          · left; simp [h]
          · exact Or.inr h

/-- An order that fits, from a mask and a state on. -/
inductive Way (l : List It) : Nat → St → List Nat → Prop
  | done (m s) : left l m = false → Way l m s []
  | step (m s i q) : i < l.length → can l m s i = true → Way l (m ||| 2 ^ i) (play l s i) q → Way l m s (i :: q)

theorem S_sound (l : List It) : ∀ (f m : Nat) (s : St) (q : List Nat), l.length - cnt l.length m = f → S l m s = some q → Way l m s q := by
  intro f
  induction f with
  | zero =>
    intro m s q hf h
    have hl : left l m = false := left_full (by have := cnt_le l.length m; omega)
    rw [S_eq, hl] at h
    cases h
    exact .done _ _ hl
  | succ f ih =>
    intro m s q hf h
    rw [S_eq] at h
    cases hl : left l m
    · rw [hl] at h; cases h; exact .done _ _ hl
    · rw [hl, if_pos rfl] at h
      obtain ⟨i, hi, hx⟩ := findSome_get _ _ _ h
      have hi := List.mem_range.1 hi
      cases hc : can l m s i
      · rw [hc] at hx; cases hx
      · rw [hc, if_pos rfl] at hx
        cases hy : S l (m ||| 2 ^ i) (play l s i) with
        | none => rw [hy] at hx; cases hx
        | some r =>
          rw [hy] at hx
          cases hx
          exact .step _ _ _ _ hi hc (ih _ _ _ (by rw [cnt_set hi (can_bit hc)]; omega) hy)
end Go.Proofs.Ytbengfmoimlnbaa
