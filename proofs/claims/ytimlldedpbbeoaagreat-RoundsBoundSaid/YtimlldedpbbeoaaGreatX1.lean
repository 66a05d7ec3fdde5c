/- A function asked of one list of one element, its answer taken from elsewhere: the abstract run goes by it. -/
import Derived.Test.YtimlldedpbbeoaaGreatXP
namespace Go.Proofs.YtimlldedpbbeoaaGreat
open Go.RowKit
noncomputable section

/-- Handles of the values from without, in order. -/
def handles : Nat → List Value → Bool
  | _, [] => true
  | i, .chan (some j) :: r => j == i && handles (i + 1) r
  | _, _ => false
theorem handles_ok {σ : Sg} : ∀ {l l' : List Value} {i : Nat}, handles i l = true → VRs σ l l' → ∀ j, j < l.length → l'[j]? = some (σ.ext (i + j))
  | [], _, _, _, _, j, hj => absurd hj (Nat.not_lt_zero _)
  | v :: l, l', i, h, hv, j, hj => by
    obtain ⟨v', c', rfl, h1, h2⟩ := hv.uncons
    unfold handles at h
    split at h
    · rename_i e; cases e
    · rename_i k r e
      cases e
      rw [Bool.and_eq_true, beq_iff_eq] at h
      obtain ⟨rfl, hr⟩ := h
      cases j with
      | zero =>
        have : ∀ {a b : Value}, VR σ a b → ∀ q, a = .chan (some q) → b = σ.ext q := by
          intro a b hab q e
          cases hab <;> first | (cases e; rfl) | cases e
        simpa using this h1 _ rfl
      | succ j =>
        have := handles_ok hr h2 j (by simpa using hj)
        rw [show k + (j + 1) = k + 1 + j by omega]
        simpa using this
    · cases h
def ovOne (F n : Nat) (b : Bool) : OvF := fun f args s => if f = F then (match args with
  | [.slice (some ⟨x, 0, none⟩) 1 _] => (match s.h.get x with
    | some (.row cs _ _) => if handles 0 cs && (cs.length == n) then some (.bool b, s) else none
    | _ => none)
  | _ => none) else none
theorem ovOne_ok {P : Program} {ext : Nat → Value} {w0 : World} {rd : Rds ext w0} {F n : Nat} {b : Bool}
    (H : ∀ (w : World) (bl c : Nat) (cur : Array Value) (e : TypeId), w.heap[bl]? = some (.cells cur e (0, 0)) → (∀ j, j < n → cur[j]? = some (ext j)) → Calls P F #[.slice (some ⟨bl, 0, none⟩) 1 c] w fun e w' => e = .returned (.bool b) ∧ Below w.heap.size w w') : OvOK P (ctx0 ext w0 rd) (ovOne F n b) := by
  refine ⟨fun g args s v s' h σ w args' hi hargs => ?_⟩
  unfold ovOne at h
  split at h
  · rename_i hg
    subst hg
    split at h
    · rename_i x c
      split at h
      · rename_i cs e room hx
        split at h
        · rename_i hh
          cases h
          rw [Bool.and_eq_true, beq_iff_eq] at hh
          obtain ⟨v', c', e1, h1, h2⟩ := hargs.uncons
          obtain ⟨⟩ : c' = [] := by have := h2.1; simpa using this.symm
          obtain rfl : args' = #[v'] := Array.ext' (by simpa using e1)
          cases h1 with
          | sl _ _ _ _ bl κ c' hσ hc hn hl =>
            obtain ⟨b1, κ1, q1, q2, q3⟩ := hi.live x _ hx
            rw [hσ] at q1
            cases q1
            obtain ⟨cur, p1, p2, p3, _⟩ := q3
            have hext : σ.ext = ext := hi.own.2
            refine (H w bl c' cur e p1 fun j hj => ?_).mono ?_
            · have := handles_ok hh.1 p3 j (by omega)
              rw [List.getElem?_take, if_pos (by omega), Nat.zero_add, hext] at this
              simpa using this
            · rintro e w' ⟨rfl, hB⟩
              exact ⟨.bool b, σ, rfl, .bool _, stp_below hi hB⟩
        · cases h
      · cases h
    · cases h
  · cases h
/-- A function without arguments that is known to answer true. -/
def ovTrue (F : Nat) : OvF := fun f args s => match args with
  | [] => if f = F then some (.bool true, s) else none
  | _ => none
theorem ovTrue_ok {P : Program} {B : Ctx} {F : Nat} (H : ∀ w, Calls P F #[] w fun e w' => e = .returned (.bool true) ∧ Below w.heap.size w w') : OvOK P B (ovTrue F) := by
  refine ⟨fun g args s v s' h σ w args' hi hargs => ?_⟩
  unfold ovTrue at h
  split at h
  · split at h
    · rename_i hg
      subst hg
      cases h
      obtain rfl : args' = #[] := by
        have := hargs.1
        simp at this
        exact Array.eq_empty_of_size_eq_zero this.symm
      refine (H w).mono ?_
      rintro e w' ⟨rfl, hB⟩
      exact ⟨.bool true, σ, rfl, .bool _, stp_below hi hB⟩
    · cases h
  · cases h
def ovOr (a b : OvF) : OvF := fun f l s => match a f l s with
  | some r => some r
  | none => b f l s
theorem ovOr_ok {P : Program} {B : Ctx} {a b : OvF} (ha : OvOK P B a) (hb : OvOK P B b) : OvOK P B (ovOr a b) := by
  refine ⟨fun g args s v s' h => ?_⟩
  unfold ovOr at h
  split at h
  · rename_i r hr
    cases h
    exact ha.ok g args s v s' hr
  · exact hb.ok g args s v s' h
/-- The values from without, as the run names them. -/
def outs (k n : Nat) : List Value := (List.range n).map fun i => .chan (some (k + i))
theorem outs_at {σ : Sg} (pre cs post : List Value) (hσ : σ.ext = fun i => (pre ++ cs ++ post).getD i undef) (ho : ∀ v ∈ cs, v.oneCell' = true) : VRs σ (outs pre.length cs.length) cs := by
  refine ⟨by simp [outs], fun i v v' a b => ?_⟩
  have hi := (List.getElem?_eq_some_iff.1 b).1
  have he : σ.ext (pre.length + i) = v' := by
    rw [hσ]
    simp only [List.append_assoc, List.getD_eq_getElem?_getD]
    rw [List.getElem?_append_right (by omega), Nat.add_sub_cancel_left, List.getElem?_append_left hi, b]
    rfl
  simp only [outs, List.getElem?_map, List.getElem?_range hi, Option.map_some, Option.some.injEq] at a
  subst a
  have := VR.ext (σ := σ) (pre.length + i) (by rw [he]; exact ho v' (List.mem_of_getElem? b))
  rw [he] at this
  exact this
end
end Go.Proofs.YtimlldedpbbeoaaGreat
