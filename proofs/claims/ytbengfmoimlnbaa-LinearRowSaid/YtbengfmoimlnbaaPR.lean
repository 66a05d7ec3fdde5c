/- Items that one record answered in a row fit, however they stand in the list, beside one that is open, and without one of the Gets. -/
import Derived.Test.YtbengfmoimlnbaaPL
import Derived.Test.YtbengfmoimlnbaaOR
namespace Go.Proofs.Ytbengfmoimlnbaa

/-- Answered in a row, each at a time of its own. -/
def Row : St → Nat → List It → Prop
  | _, _, [] => True
  | s, t, x :: z => ∃ u : Nat, t ≤ u ∧ x.open_ = false ∧ x.begin_ ≤ 10 * (u : Int) ∧ 10 * (u : Int) + 1 ≤ x.end_ ∧ x.ans = doesA s x.kind ∧ Row (doesS s x.kind x.value) (u + 1) z
theorem Row.mono : ∀ {z : List It} {s : St} {t t' : Nat}, Row s t z → t' ≤ t → Row s t' z
  | [], _, _, _, _, _ => trivial
  | _ :: _, _, _, _, ⟨u, h, r⟩, ht => ⟨u, Nat.le_trans ht h, r⟩
theorem Row.end_le : ∀ {z : List It} {s : St} {t : Nat}, Row s t z → ∀ y ∈ z, 10 * (t : Int) + 1 ≤ y.end_
  | x :: z, s, t, ⟨u, h, _, _, he, _, hr⟩, y, hy => by
    rcases List.mem_cons.1 hy with rfl | hy
    · omega
    · have := hr.end_le y hy
      omega
/-- Without one of the Gets. -/
theorem Row.erase : ∀ {z : List It} {s : St} {t : Nat} (k : Nat), Row s t z → (∀ x, z[k]? = some x → x.kind = 1) → Row s t (z.eraseIdx k)
  | [], _, _, _, _, _ => by simp [Row]
  | x :: z, s, t, 0, ⟨u, h, _, _, _, _, hr⟩, hk => by
    have h1 : x.kind = 1 := hk x rfl
    rw [h1] at hr
    have h2 : doesS s 1 x.value = s := rfl
    rw [h2] at hr
    exact hr.mono (by omega)
  | x :: z, s, t, k + 1, ⟨u, h, h1, h2, h3, h4, hr⟩, hk => ⟨u, h, h1, h2, h3, h4, hr.erase k hk⟩
theorem row_chain (L : List It) : ∀ (q : List Nat) (s : St) (t : Nat), Row s t (q.map (itm L)) → Chain L s q
  | [], _, _, _ => trivial
  | i :: q, s, t, ⟨u, h, h1, h2, h3, h4, hr⟩ => by
    refine ⟨?_, row_chain L q _ _ hr⟩
    unfold fits
    rw [h4, anEq_self, Bool.or_true]
theorem row_apart (L : List It) : ∀ (q : List Nat) (s : St) (t : Nat), Row s t (q.map (itm L)) → q.Pairwise (fun i k => ahead (itm L k) (itm L i) = false)
  | [], _, _, _ => List.Pairwise.nil
  | i :: q, s, t, ⟨u, h, h1, h2, h3, h4, hr⟩ => by
    refine List.pairwise_cons.2 ⟨fun k hk => ?_, row_apart L q _ _ hr⟩
    have := hr.end_le (itm L k) (List.mem_map_of_mem hk)
    have h5 : ¬ (itm L k).end_ < (itm L i).begin_ := by omega
    simp [ahead, h5]
theorem row_ok (L : List It) (q : List Nat) (h1 : q.Nodup) (h2 : ∀ i ∈ q, i < L.length) (h3 : ∀ i, i < L.length → (itm L i).open_ = false → i ∈ q) (hr : Row St.zero 0 (q.map (itm L))) : okR L = true :=
  S_complete L q 0 _ h1 (fun i hi => ⟨h2 i hi, by simp⟩) (fun i hi hm => .inr (h3 i hi (by simpa [mustP] using hm))) (row_apart L q _ _ hr) (row_chain L q _ _ hr)

/-- As they stand. -/
theorem row_plain (z : List It) (hr : Row St.zero 0 z) : okR z = true := by
  refine row_ok z (List.range z.length) List.nodup_range (fun i hi => List.mem_range.1 hi) (fun i hi _ => List.mem_range.2 hi) ?_
  have : (List.range z.length).map (itm z) = z := by
    apply List.ext_getElem
    · simp
    · intro i h1 h2
      rw [List.getElem_map, List.getElem_range, itm_eq h2]
  rw [this]
  exact hr
/-- Turned. -/
def turned (x : List It) (r : Nat) : List It := (List.range x.length).map fun i => itm x ((i + r) % x.length)
theorem turned_length (x : List It) (r : Nat) : (turned x r).length = x.length := by simp [turned]
theorem turned_itm {x : List It} {r i : Nat} (h : i < x.length) : itm (turned x r) i = itm x ((i + r) % x.length) := by
  rw [itm_eq (by rw [turned_length]; exact h)]
  simp [turned]
def placeOf (n r j : Nat) : Nat := (j + (n - r)) % n
theorem place_turn {n r j : Nat} (hr : r < n) (hj : j < n) : (placeOf n r j + r) % n = j := by
  unfold placeOf
  rw [Nat.mod_add_mod, show j + (n - r) + r = j + n by omega, Nat.add_mod_right, Nat.mod_eq_of_lt hj]
theorem turn_place {n r i : Nat} (hr : r < n) (hi : i < n) : placeOf n r ((i + r) % n) = i := by
  unfold placeOf
  rw [Nat.mod_add_mod, show i + r + (n - r) = i + n by omega, Nat.add_mod_right, Nat.mod_eq_of_lt hi]
theorem row_turned (x tl : List It) (ht : ∀ y ∈ tl, y.open_ = true) (r : Nat) (hr : x = [] ∨ r < x.length) (h : Row St.zero 0 x) : okR (turned x r ++ tl) = true := by
  have hpos : ∀ j, j < x.length → r < x.length := fun j hj => by
    rcases hr with rfl | hr
    · cases hj
    · exact hr
  refine row_ok _ ((List.range x.length).map (placeOf x.length r)) ?_ ?_ ?_ ?_
  · refine List.pairwise_map.2 (List.Pairwise.imp_of_mem ?_ (List.nodup_range (n := x.length)))
    intro a b ha hb hne e
    refine hne ?_
    have ha := List.mem_range.1 ha
    have hb := List.mem_range.1 hb
    rw [← place_turn (hpos a ha) ha, ← place_turn (hpos a ha) hb, e]
  · intro i hi
    obtain ⟨j, hj, rfl⟩ := List.mem_map.1 hi
    have hj := List.mem_range.1 hj
    rw [List.length_append, turned_length]
    have : placeOf x.length r j < x.length := Nat.mod_lt _ (by omega)
    omega
  · intro i hi ho
    by_cases h' : i < x.length
    · exact List.mem_map.2 ⟨(i + r) % x.length, List.mem_range.2 (Nat.mod_lt _ (by omega)), turn_place (hpos i h') h'⟩
    · rw [List.length_append, turned_length] at hi
      have hlt : i < (turned x r ++ tl).length := by rw [List.length_append, turned_length]; exact hi
      rw [itm_eq hlt, List.getElem_append_right (by rw [turned_length]; omega)] at ho
      rw [ht _ (List.getElem_mem _)] at ho
      cases ho
  · have : ((List.range x.length).map (placeOf x.length r)).map (itm (turned x r ++ tl)) = x := by
      apply List.ext_getElem
      · simp
      · intro i h1 h2
        have hp : placeOf x.length r i < x.length := Nat.mod_lt _ (by omega)
        have hlt : placeOf x.length r i < (turned x r ++ tl).length := by rw [List.length_append, turned_length]; omega
        simp only [List.getElem_map, List.getElem_range]
        rw [itm_eq hlt, List.getElem_append_left (by rw [turned_length]; exact hp), ← itm_eq, turned_itm hp, place_turn (hpos i h2) h2, itm_eq h2]
    rw [this]
    exact h
end Go.Proofs.Ytbengfmoimlnbaa
