/- The run: an element's place in a map that is there, and the store into it. -/
import Derived.Test.YtimlldedpbbeoaaGreatXS
namespace Go.Proofs.YtimlldedpbbeoaaGreat
open Go.RowKit
noncomputable section
section
variable {P : Program} {B : Ctx} {σ : Sg} {s : St} {w : World}
/-- The place of an element that is there. -/
def entS (P : Program) (s : St) (t : TypeId) (m k : Value) : Option (Value × St) :=
  match P.underlying t, m with
  | some (.map kt _), .map (some x) => match P.underlying kt, s.h.get x with
    | some _, some (.map es clock) => if ckV P kt k then match findV P s.h kt k es 0 with
      | some (some (i, v)) => match es[i]? with
        | some e => if flat 20 e.key && Instr.sameBits 10000 e.key k then some (.tuple #[v, .int .i64 e.born], ⟨s.next, s.h.set 40 x (some (.map (es.set i { e with key := k }) clock))⟩) else none
        | none => none
      | _ => none else none
    | _, _ => none
  | _, _ => none
theorem entS_ok (hi : Inv P B σ s w) {t : TypeId} {m m' k k' r : Value} {s' : St} (h : entS P s t m k = some (r, s')) (hm : VR σ m m') (hk : VR σ k k') : ∃ r' w', (Instr.mapEntry t m' k').run P w = .ok r' w' ∧ VR σ r r' ∧ Stp P B σ s w σ s' w' := by
  unfold entS at h
  split at h
  · rename_i kt et x hu
    split at h
    · rename_i d es clock hd hg
      split at h
      · rename_i hc
        cases hm with
        | map _ b κ hx =>
        obtain ⟨b1, κ1, q1, q0, es', q2, q3, q4⟩ := hi.live x _ hg
        rw [hx] at q1
        cases q1
        have e1 : ER σ es es'.toList := ⟨by simpa using q3, fun i x x' a b => q4 i x x' a (by simpa using b)⟩
        obtain ⟨hkk, hck⟩ := ckV_ok (P := P) (w := w) hc hk false
        have hgo : (getObj b).run P w = .ok (.map es' clock) w := by simp [getObj, Sem.run, q2]
        have hso : ∀ o, (setObj b o).run P w = .ok () { w with heap := w.heap.setIfInBounds b o } := fun o => by simp [setObj, Sem.run, q2]
        split at h
        · rename_i i v0 hf
          obtain ⟨u, f1, f2⟩ := findKey_ok hi hd hk hf e1
          cases u with
          | none => exact f2.elim
          | some y =>
          obtain ⟨j, v1⟩ := y
          obtain ⟨rfl, hv1⟩ := f2
          split at h
          · rename_i e he
            split at h
            · rename_i hfl
              rw [Bool.and_eq_true] at hfl
              cases h
              have hj : j < es'.size := by
                have := (List.getElem?_eq_some_iff.1 he).1
                omega
              have he' : es'[j]? = some es'[j] := Array.getElem?_eq_getElem hj
              obtain ⟨r1, r2, r3⟩ := q4 j e es'[j] he he'
              have hkey : es'[j].key = e.key := flat_eq 20 _ _ hfl.1 r1
              have hst : (Instr.keyThatStays (((es'[j]?).map (·.key)).getD k') k').run P w = .ok k' w := by
                rw [he']
                simp only [Option.map_some, Option.getD_some, Instr.keyThatStays]
                rw [if_pos (by rw [hkey, hkk]; exact hfl.2)]
                rfl
              refine ⟨.tuple #[v1, goInt (((es'[j]?).map (·.born)).getD 0)], _, ?_, ?_, setobj_stp (o' := .map (es'.modify j fun e => { e with key := k' }) clock) hi hg hx fun a ha => ?_⟩
              · simp only [Instr.mapEntry, Sem.run_bind, run_underlying hu, Result.andThen_ok, hgo, hck, f1, hst, hso, Sem.run_pure]
              · refine .tuple _ _ rfl (fun i v v' h1 h2 => ?_)
                match i with
                | 0 => simp at h1 h2; subst h1; subst h2; exact hv1
                | 1 =>
                  simp [he'] at h1 h2
                  subst h1; subst h2
                  first | (rw [r3]; exact .int _ _) | (rw [← r3]; exact .int _ _)
                | n + 2 => simp at h1
              · cases ha
                refine ⟨_, rfl, by simp [q3], fun i x x' a b => ?_⟩
                rw [List.getElem?_set] at a
                rw [Array.getElem?_modify] at b
                by_cases hij : j = i
                · subst hij
                  rw [if_pos rfl, if_pos (by omega)] at a
                  rw [if_pos rfl, he'] at b
                  cases a
                  simp only [Option.map_some, Option.some.injEq] at b
                  subst b
                  exact ⟨hk, r2, r3⟩
                · rw [if_neg hij] at a
                  rw [if_neg hij] at b
                  exact q4 i x x' a b
            · cases h
          · cases h
        · cases h
      · cases h
    · cases h
  · cases h
theorem born_idx : ∀ (es es' : List MapEntry) (n : Int), ER σ es es' → es'.findIdx? (fun e => (e.born : Int) == n) = es.findIdx? (fun e => (e.born : Int) == n) := fun es es' n h => by
  have : es'.map (fun e => (e.born : Int)) = es.map (fun e => (e.born : Int)) := by
    refine List.ext_getElem? fun i => ?_
    rw [List.getElem?_map, List.getElem?_map]
    cases h1 : es[i]? with
    | none =>
      rw [List.getElem?_eq_none (by rw [← h.1]; exact List.getElem?_eq_none_iff.1 h1)]
    | some x =>
      have hl : i < es'.length := by rw [← h.1]; exact (List.getElem?_eq_some_iff.1 h1).1
      rw [List.getElem?_eq_getElem hl]
      obtain ⟨_, _, r3⟩ := h.2 i x _ h1 (List.getElem?_eq_getElem hl)
      simp only [Option.map_some]
      rw [r3]
  have e : ∀ l : List MapEntry, l.findIdx? (fun e => (e.born : Int) == n) = (l.map (fun e => (e.born : Int))).findIdx? (fun b => b == n) := fun l => by rw [List.findIdx?_map]; rfl
  rw [e, e, this]
/-- A store into an element's place. -/
def estS (s : St) (m p v : Value) : Option St :=
  match m, p with
  | .map (some x), .int _ n => match s.h.get x with
    | some (.map es clock) => match es.findIdx? (fun e => (e.born : Int) == n) with
      | some i => match es[i]? with
        | some e => some ⟨s.next, s.h.set 40 x (some (.map (es.set i { e with val := v }) clock))⟩
        | none => none
      | none => none
    | _ => none
  | _, _ => none
theorem estS_ok (hi : Inv P B σ s w) {t : TypeId} {m m' p p' v v' : Value} {s' : St} (h : estS s m p v = some s') (hm : VR σ m m') (hp : VR σ p p') (hv : VR σ v v') : ∃ w', (Instr.entryStore t m' p' v').run P w = .ok () w' ∧ Stp P B σ s w σ s' w' := by
  unfold estS at h
  split at h
  · rename_i x k n
    cases hp
    split at h
    · rename_i es clock hg
      cases hm with
      | map _ b κ hx =>
      obtain ⟨b1, κ1, q1, q0, es', q2, q3, q4⟩ := hi.live x _ hg
      rw [hx] at q1
      cases q1
      have e1 : ER σ es es'.toList := ⟨by simpa using q3, fun i x x' a b => q4 i x x' a (by simpa using b)⟩
      have hgo : (getObj b).run P w = .ok (.map es' clock) w := by simp [getObj, Sem.run, q2]
      have hso : ∀ o, (setObj b o).run P w = .ok () { w with heap := w.heap.setIfInBounds b o } := fun o => by simp [setObj, Sem.run, q2]
      split at h
      · rename_i i hf
        have hf' : es'.findIdx? (fun e => (e.born : Int) == n) = some i := by
          have h9 := List.findIdx?_toArray (l := es'.toList) (p := fun e => (e.born : Int) == n)
          rw [Array.toArray_toList] at h9
          rw [h9, born_idx es _ n e1, hf]
        split at h
        · rename_i e he
          cases h
          have hj : i < es'.size := by
            have := (List.getElem?_eq_some_iff.1 he).1
            omega
          have he' : es'[i]? = some es'[i] := Array.getElem?_eq_getElem hj
          obtain ⟨r1, r2, r3⟩ := q4 i e es'[i] he he'
          refine ⟨_, ?_, setobj_stp (o' := .map (es'.modify i fun e => { e with val := v' }) clock) hi hg hx fun a ha => ?_⟩
          · simp [Instr.entryStore, Sem.run_bind, hgo, asInt, asIntOf, hf', hso]
          · cases ha
            refine ⟨_, rfl, by simp [q3], fun i' x x' a b => ?_⟩
            rw [List.getElem?_set] at a
            rw [Array.getElem?_modify] at b
            by_cases hij : i = i'
            · subst hij
              rw [if_pos rfl, if_pos (by omega)] at a
              rw [if_pos rfl, he'] at b
              cases a
              simp only [Option.map_some, Option.some.injEq] at b
              subst b
              exact ⟨r1, hv, r3⟩
            · rw [if_neg hij] at a
              rw [if_neg hij] at b
              exact q4 i' x x' a b
        · cases h
      · cases h
    · cases h
  · cases h
end
end
end Go.Proofs.YtimlldedpbbeoaaGreat
