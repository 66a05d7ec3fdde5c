/- The abstract run: objects that are no rows are laid anew; maps are written. -/
import Derived.Test.YtimlldedpbbeoaaGreatXI
namespace Go.Proofs.YtimlldedpbbeoaaGreat
open Go.RowKit
noncomputable section

section
variable {P : Program} {B : Ctx} {σ τ : Sg} {s : St} {w : World}
theorem stp_below (hi : Inv P B σ s w) {w' : World} (hb : Below w.heap.size w w') : Stp P B σ s w σ s w' := by
  refine ⟨⟨hi.base.trans (hb.mono hi.base.size), hi.own, hi.dom, fun x o h => ?_, hi.inj⟩, fun _ _ => rfl, Nat.le_refl _, Fr.of_below hb, fun _ _ h => h, fun _ _ h => h, rfl⟩
  obtain ⟨b, κ, q1, q2, q3⟩ := hi.live x o h
  exact ⟨b, κ, q1, q2, by rw [hb.block b (hi.lt h q1)]; exact q3⟩
/-- A thing that is no row is laid anew, or forgotten. -/
theorem setobj_stp (hi : Inv P B σ s w) {x b κ : Nat} {ob : AObj} {new : Option AObj} {o' : Obj} (hg : s.h.get x = some ob) (hx : σ x = some (b, κ)) (ho : ∀ a, new = some a → ObjR P σ κ a (some o')) :
    Stp P B σ s w σ ⟨s.next, s.h.set 40 x new⟩ { w with heap := w.heap.setIfInBounds b o' } := by
  have hlt := hi.lt hg hx
  have hfr : Fr (Foot σ s) w { w with heap := w.heap.setIfInBounds b o' } := ⟨rfl, rfl, rfl, by simp, fun k hk hf => by
    have : k ≠ b := fun e => hf ⟨x, ob, κ, hg, e ▸ hx⟩
    show (w.heap.setIfInBounds b o')[k]? = _
    rw [Array.getElem?_setIfInBounds_ne (fun e => this e.symm)]⟩
  have get : ∀ {y : Nat} {a : AObj}, (s.h.set 40 x new).get y = some a → ∃ a', s.h.get y = some a' := by
    intro y a h
    rw [Tr.get_set] at h
    split at h
    · rename_i he; subst he; exact ⟨ob, hg⟩
    · exact ⟨a, h⟩
  refine ⟨⟨hi.base.trans (hfr.below hi.base.size (fun k hk hf => by have := hi.foot hf; omega)), hi.own, hi.dom, fun y a h => ?_, fun y z a a' b1 κ1 κ2 h1 h2 => ?_⟩, fun _ _ => rfl, Nat.le_refl _, hfr, fun b1 _ hf => ?_, fun y hy hn => ?_, rfl⟩
  · simp only [Tr.get_set] at h
    split at h
    · rename_i he
      subst he
      obtain ⟨b1, κ1, q1, q2, _⟩ := hi.live y ob hg
      rw [hx] at q1; cases q1
      refine ⟨b, κ, hx, q2, ?_⟩
      have : (w.heap.setIfInBounds b o')[b]? = some o' := by simp [hlt]
      rw [this]
      exact ho a h
    · rename_i hne
      obtain ⟨b1, κ1, q1, q2, q3⟩ := hi.live y a h
      refine ⟨b1, κ1, q1, q2, ?_⟩
      have hb : b1 ≠ b := fun e => hne (hi.inj y x _ _ b κ1 κ h hg (e ▸ q1) hx)
      have : (w.heap.setIfInBounds b o')[b1]? = w.heap[b1]? := Array.getElem?_setIfInBounds_ne (fun e => hb e.symm)
      rw [this]
      exact q3
  · obtain ⟨_, g1⟩ := get h1
    obtain ⟨_, g2⟩ := get h2
    exact hi.inj y z _ _ b1 κ1 κ2 g1 g2
  · obtain ⟨y, a, κ1, h1, h2⟩ := hf
    obtain ⟨a', g1⟩ := get h1
    exact ⟨y, a', κ1, g1, h2⟩
  · simp only [Tr.get_set]
    rw [if_neg (fun e => by subst e; rw [hg] at hn; cases hn)]
    exact hn
/-- A map's entry is written. -/
def mupS (P : Program) (s : St) (t : TypeId) (m k v : Value) : Option St :=
  match P.underlying t, m with
  | some (.map kt _), .map (some x) => match P.underlying kt, s.h.get x with
    | some _, some (.map es clock) => if ckV P kt k then match findV P s.h kt k es 0 with
      | some (some (i, _)) => match es[i]? with
        | some e => if flat 20 e.key && Instr.sameBits 10000 e.key k then some ⟨s.next, s.h.set 40 x (some (.map (es.set i { e with key := k, val := v }) clock))⟩ else none
        | none => none
      | some none => some ⟨s.next, s.h.set 40 x (some (.map (es ++ [{ key := k, val := v, born := clock }]) (clock + 1)))⟩
      | none => none else none
    | _, _ => none
  | _, _ => none
theorem mupS_ok (hi : Inv P B σ s w) {t : TypeId} {m m' k k' v v' : Value} {s' : St} (h : mupS P s t m k v = some s') (hm : VR σ m m') (hk : VR σ k k') (hv : VR σ v v') : ∃ w', (Instr.mapUpdate t m' k' v').run P w = .ok () w' ∧ Stp P B σ s w σ s' w' := by
  unfold mupS at h
  split at h
  · rename_i kt et x hu
    split at h
    · rename_i d es clock hd hg
      split at h
      · rename_i hc
        cases hm with
        | map _ b κ hx =>
        obtain ⟨b1, κ1, q1, q0, es', q2, q3, q4⟩ := hi.live x _ hg
        rw [hx] at q1
        cases q1
        have e1 : ER σ es es'.toList := ⟨by simpa using q3, fun i x x' a b => q4 i x x' a (by simpa using b)⟩
        obtain ⟨hkk, hck⟩ := ckV_ok (P := P) (w := w) hc hk false
        have hgo : (getObj b).run P w = .ok (.map es' clock) w := by simp [getObj, Sem.run, q2]
        have hso : ∀ o, (setObj b o).run P w = .ok () { w with heap := w.heap.setIfInBounds b o } := fun o => by simp [setObj, Sem.run, q2]
        split at h
        · rename_i i v0 hf
          obtain ⟨u, f1, f2⟩ := findKey_ok hi hd hk hf e1
          cases u with
          | none => exact f2.elim
          | some y =>
          obtain ⟨j, v1⟩ := y
          obtain ⟨rfl, _⟩ := f2
          split at h
          · rename_i e he
            split at h
            · rename_i hfl
              rw [Bool.and_eq_true] at hfl
              cases h
              have hj : j < es'.size := by
                have := (List.getElem?_eq_some_iff.1 he).1
                omega
              have he' : es'[j]? = some es'[j] := Array.getElem?_eq_getElem hj
              obtain ⟨r1, r2, r3⟩ := q4 j e es'[j] he he'
              have hkey : es'[j].key = e.key := flat_eq 20 _ _ hfl.1 r1
              have hst : (Instr.keyThatStays (((es'[j]?).map (·.key)).getD k') k').run P w = .ok k' w := by
                rw [he']
                simp only [Option.map_some, Option.getD_some, Instr.keyThatStays]
                rw [if_pos (by rw [hkey, hkk]; exact hfl.2)]
                rfl
              refine ⟨_, ?_, setobj_stp (o' := .map (es'.modify j fun e => { e with key := k', val := v' }) clock) hi hg hx fun a ha => ?_⟩
              · simp only [Instr.mapUpdate, Sem.run_bind, run_underlying hu, Result.andThen_ok, hgo, hck, f1, hst, hso]
              · cases ha
                refine ⟨_, rfl, by simp [q3], fun i x x' a b => ?_⟩
                rw [List.getElem?_set] at a
                rw [Array.getElem?_modify] at b
                by_cases hij : j = i
                · subst hij
                  rw [if_pos rfl, if_pos (by omega)] at a
                  rw [if_pos rfl, he'] at b
                  cases a
                  simp only [Option.map_some, Option.some.injEq] at b
                  subst b
                  exact ⟨hk, hv, r3⟩
                · rw [if_neg hij] at a
                  rw [if_neg hij] at b
                  exact q4 i x x' a b
            · cases h
          · cases h
        · rename_i hf
          obtain ⟨u, f1, f2⟩ := findKey_ok hi hd hk hf e1
          cases u with
          | some y => exact f2.elim
          | none =>
          cases h
          refine ⟨_, ?_, setobj_stp (o' := .map (es'.push { key := k', val := v', born := clock }) (clock + 1)) hi hg hx fun a ha => ?_⟩
          · simp only [Instr.mapUpdate, Sem.run_bind, run_underlying hu, Result.andThen_ok, hgo, hck, f1, hso]
          · cases ha
            refine ⟨_, rfl, by simp [q3], fun i x x' a b => ?_⟩
            rw [List.getElem?_append] at a
            rw [Array.getElem?_push] at b
            split at a
            · rw [if_neg (by omega)] at b
              exact q4 i x x' a b
            · rename_i hn
              have hi' : i = es'.size := by
                have := (List.getElem?_eq_some_iff.1 a).1
                simp at this
                omega
              rw [if_pos hi'] at b
              rw [show i - es.length = 0 by omega] at a
              cases a; cases b
              exact ⟨hk, hv, rfl⟩
        · cases h
      · cases h
    · cases h
  · cases h
/-- A map's entry is deleted. -/
def delS (P : Program) (s : St) (ts : List TypeId) (m k : Value) : Option (Value × St) :=
  match ts with
  | t :: _ => match P.underlying t with
    | some (.map kt _) => match P.underlying kt with
      | some _ => if ckV P kt k then match m with
        | .map none => some (.tuple #[], s)
        | .map (some x) => match s.h.get x with
          | some (.map es clock) => match findV P s.h kt k es 0 with
            | some (some (i, _)) => some (.tuple #[], ⟨s.next, s.h.set 40 x (some (.map (es.eraseIdx i) clock))⟩)
            | some none => some (.tuple #[], s)
            | none => none
          | _ => none
        | _ => none else none
      | none => none
    | _ => none
  | _ => none
theorem delS_ok (hi : Inv P B σ s w) {ts : Array TypeId} {ty : TypeId} {m m' k k' r : Value} {s' : St} (h : delS P s ts.toList m k = some (r, s')) (hm : VR σ m m') (hk : VR σ k k') : ∃ w', (Builtin.delete_ ts ty #[m', k']).run P w = .ok r w' ∧ VR σ r r ∧ Stp P B σ s w σ s' w' := by
  unfold delS at h
  split at h
  · rename_i t tr hts
    have ht0 : ts[0]? = some t := by rw [← Array.getElem?_toList, hts]; rfl
    split at h
    · rename_i kt et hu
      split at h
      · rename_i d hd
        split at h
        · rename_i hc
          have unit : VR σ (.tuple #[]) (.tuple #[]) := .tuple _ _ rfl (fun i v v' h => by simp at h)
          split at h
          · cases h
            cases hm
            obtain ⟨_, hck⟩ := ckV_ok (P := P) (w := w) hc hk true
            exact ⟨w, by simp [Builtin.delete_, ht0, run_underlying hu, hck], unit, Stp.refl hi⟩
          · rename_i x
            split at h
            · rename_i es clock hg
              cases hm with
              | map _ b κ hx =>
              obtain ⟨b1, κ1, q1, q0, es', q2, q3, q4⟩ := hi.live x _ hg
              rw [hx] at q1
              cases q1
              have e1 : ER σ es es'.toList := ⟨by simpa using q3, fun i x x' a b => q4 i x x' a (by simpa using b)⟩
              obtain ⟨hkk, hck⟩ := ckV_ok (P := P) (w := w) hc hk es'.isEmpty
              have hgo : (getObj b).run P w = .ok (.map es' clock) w := by simp [getObj, Sem.run, q2]
              have hso : ∀ o, (setObj b o).run P w = .ok () { w with heap := w.heap.setIfInBounds b o } := fun o => by simp [setObj, Sem.run, q2]
              split at h
              · rename_i i v0 hf
                obtain ⟨u, f1, f2⟩ := findKey_ok hi hd hk hf e1
                cases u with
                | none => exact f2.elim
                | some y =>
                obtain ⟨j, v1⟩ := y
                obtain ⟨rfl, _⟩ := f2
                cases h
                refine ⟨_, ?_, unit, setobj_stp (o' := .map (es'.eraseIdxIfInBounds j) clock) hi hg hx fun a ha => ?_⟩
                · simp [Builtin.delete_, ht0, run_underlying hu, hgo, hck, f1, hso]
                · cases ha
                  have hl : (es'.eraseIdxIfInBounds j).toList = es'.toList.eraseIdx j := by simp
                  refine ⟨_, rfl, ?_, fun i x x' a b => ?_⟩
                  · rw [← Array.length_toList, hl, List.length_eraseIdx, List.length_eraseIdx]
                    simp [q3]
                  · rw [← Array.getElem?_toList, hl, List.getElem?_eraseIdx] at b
                    rw [List.getElem?_eraseIdx] at a
                    split at a
                    · rw [if_pos ‹_›] at b
                      exact q4 i x x' a (by simpa using b)
                    · rw [if_neg ‹_›] at b
                      exact q4 (i + 1) x x' a (by simpa using b)
              · rename_i hf
                obtain ⟨u, f1, f2⟩ := findKey_ok hi hd hk hf e1
                cases u with
                | some y => exact f2.elim
                | none =>
                cases h
                have hst := setobj_stp (new := some (.map es clock)) (o' := .map es' clock) hi hg hx fun a ha => by
                  cases ha
                  exact ⟨_, rfl, q3, q4⟩
                have hw : ({ w with heap := w.heap.setIfInBounds b (.map es' clock) } : World) = w := by
                  have : w.heap.setIfInBounds b (.map es' clock) = w.heap := by
                    refine Array.ext (by simp) fun i h1 h2 => ?_
                    rw [Array.getElem_setIfInBounds (by simpa using h1)]
                    split
                    · rename_i hb
                      subst hb
                      have := Array.getElem?_eq_getElem h2
                      rw [q2] at this
                      exact Option.some.inj this
                    · rfl
                  rw [this]
                refine ⟨w, ?_, unit, Stp.refl hi⟩
                have := hso (.map es' clock)
                rw [hw] at this
                simp [Builtin.delete_, ht0, run_underlying hu, hgo, hck, f1, this]
              · cases h
            · cases h
          · cases h
        · cases h
      · cases h
    · cases h
  · cases h
/-- A map is begun to be ranged over. -/
def rangeS (P : Program) (s : St) (t : TypeId) (m : Value) : Option (Value × St) :=
  match P.underlying t, m with
  | some (.map _ _), .map none => some (.pointer (some ⟨s.next, 0, none⟩), ⟨s.next + 1, s.h.set 40 s.next (some (.iter none 0 [] 0))⟩)
  | some (.map _ _), .map (some x) => match s.h.get x with
    | some (.map _ clock) => some (.pointer (some ⟨s.next, 0, none⟩), ⟨s.next + 1, s.h.set 40 s.next (some (.iter (some x) clock [] clock))⟩)
    | _ => none
  | _, _ => none
theorem rangeS_ok (hi : Inv P B σ s w) {t : TypeId} {m m' r : Value} {s' : St} (h : rangeS P s t m = some (r, s')) (hm : VR σ m m') : ∃ r' w' τ, (Instr.range t m').run P w = .ok r' w' ∧ VR τ r r' ∧ Stp P B σ s w τ s' w' := by
  unfold rangeS at h
  split at h
  · rename_i kt et hu
    cases h
    cases hm
    have := stp_add (w := w) hi (ob := .iter none 0 [] 0) (obj := .mapIter none 0 #[] 0) (κ := 0) ⟨none, rfl, rfl⟩
    exact ⟨_, _, _, by simp [Instr.range, run_underlying hu, newObj, Sem.run], .ptr _ _ _ 0 (Sg.put_same ..), this⟩
  · rename_i kt et x hu
    split at h
    · rename_i es clock hg
      cases h
      cases hm with
      | map _ b κ hx =>
      obtain ⟨b1, κ1, q1, q0, es', q2, q3, q4⟩ := hi.live x _ hg
      rw [hx] at q1
      cases q1
      have hgo : (getObj b).run P w = .ok (.map es' clock) w := by simp [getObj, Sem.run, q2]
      have := stp_add (w := w) hi (ob := .iter (some x) clock [] clock) (obj := .mapIter (some b) clock #[] clock) (κ := 0) ⟨some b, rfl, b, κ, rfl, (Sg.le_put (hi.dom _ (Nat.le_refl _))).1 _ _ hx⟩
      exact ⟨_, _, _, by simp [Instr.range, run_underlying hu, hgo, newObj, Sem.run], .ptr _ _ _ 0 (Sg.put_same ..), this⟩
    · cases h
  · cases h
/-- A step over a map: any entry that is left, where all of these were there when the range began. -/
def nextS (s : St) (it : Value) : Option (List (Value × St)) :=
  match it with
  | .pointer (some ⟨r, 0, none⟩) => match s.h.get r with
    | some (.iter none _ _ _) => some [(.tuple #[.bool false], s)]
    | some (.iter (some m) since seen last) => match s.h.get m with
      | some (.map es clock) => if !seen.isEmpty && (!es.isEmpty && (es.map (·.born)).all (last ≤ ·)) then none else
        match es.filter fun e => !seen.contains e.born with
        | [] => some [(.tuple #[.bool false], ⟨s.next, s.h.set 40 r none⟩)]
        | e :: l => if (e :: l).all (·.born < since) then some ((e :: l).map fun e => (.tuple #[.bool true, e.key, e.val], ⟨s.next, s.h.set 40 r (some (.iter (some m) since (seen ++ [e.born]) clock))⟩)) else none
      | _ => none
    | _ => none
  | _ => none
theorem nextS_ok (hi : Inv P B σ s w) {t : TypeId} {it it' : Value} {L : List (Value × St)} (h : nextS s it = some L) (hit : VR σ it it') : ∃ r' w', (Instr.next it' false t).run P w = .ok r' w' ∧ ∃ x ∈ L, VR σ x.1 r' ∧ Stp P B σ s w σ x.2 w' := by
  unfold nextS at h
  have unit : VR σ (.tuple #[.bool false]) (.tuple #[.bool false]) := VR.tuple' (VRs.cons (.bool _) (VRs.nil _))
  split at h
  · rename_i r0
    cases hit with
    | ptr _ _ b κ hb =>
    split at h
    · rename_i since seen last hr
      cases h
      obtain ⟨b1, κ1, q1, _, m', q2, rfl⟩ := hi.live r0 _ hr
      rw [hb] at q1; cases q1
      have g1 : (getObj b).run P w = .ok (.mapIter none since seen.toArray last) w := by simp [getObj, Sem.run, q2]
      exact ⟨_, w, by simp [Instr.next, g1], _, List.mem_singleton.2 rfl, unit, Stp.refl hi⟩
    · rename_i m since seen last hr
      obtain ⟨b1, κ1, q1, _, m', q2, bm, κm, rfl, q3⟩ := hi.live r0 _ hr
      rw [hb] at q1; cases q1
      split at h
      · rename_i es clock hm
        obtain ⟨b2, κ2, p1, _, es', p2, p3, p4⟩ := hi.live m _ hm
        rw [q3] at p1; cases p1
        have e1 : ER σ es es'.toList := ⟨by simpa using p3, fun i x x' a b => p4 i x x' a (by simpa using b)⟩
        have g1 : (getObj b).run P w = .ok (.mapIter (some bm) since seen.toArray last) w := by simp [getObj, Sem.run, q2]
        have g2 : (getObj bm).run P w = .ok (.map es' clock) w := by simp [getObj, Sem.run, p2]
        split at h
        · cases h
        · rename_i hno
          have hno' : ¬ (!seen.toArray.isEmpty && !es'.isEmpty && es'.all (·.born ≥ last)) = true := by
            have h1 : es'.all (fun e => decide (e.born ≥ last)) = (es.map (·.born)).all (last ≤ ·) := by
              rw [← e1.borns, List.all_map, ← Array.all_toList]
              rfl
            have h2 : es'.isEmpty = es.isEmpty := by
              cases es with
              | nil =>
                obtain rfl : es' = #[] := Array.eq_empty_of_size_eq_zero (by simpa using p3.symm)
                rfl
              | cons e es =>
                have : es'.size = es.length + 1 := by simpa using p3.symm
                show (es'.size == 0) = false
                rw [this]
                rfl
            have h3 : seen.toArray.isEmpty = seen.isEmpty := by cases seen <;> rfl
            rw [h1, h2, h3, Bool.and_assoc]
            exact hno
          have ef := e1.filter fun n => !seen.contains n
          have hfa : es'.filter (fun e => !seen.toArray.contains e.born) = (es'.toList.filter fun e => !seen.contains e.born).toArray := by
            apply Array.ext'
            simp
          split at h
          · rename_i hl
            cases h
            rw [hl] at ef
            have hl' : (es'.toList.filter fun e => !seen.contains e.born) = [] := List.eq_nil_of_length_eq_zero ef.1.symm
            rw [hl'] at hfa
            refine ⟨_, w, ?_, _, List.mem_singleton.2 rfl, unit, Stp.idle hi (fun y o hy => ?_) (Nat.le_refl _)⟩
            · simp only [Instr.next, Sem.run_bind, g1, Result.andThen_ok, g2]
              rw [if_neg hno', hfa]
              simp [Question.forced]
            · simp only [Tr.get_set] at hy
              split at hy
              · cases hy
              · exact hy
          · rename_i e l hl
            split at h
            · rename_i hb2
              cases h
              rw [← hl] at hb2 ⊢
              have hne : 0 < (es.filter fun e => !seen.contains e.born).length := by rw [hl]; simp
              generalize (es.filter fun e => !seen.contains e.born) = M at ef hb2 hne
              generalize (es'.toList.filter fun e => !seen.contains e.born) = M' at ef hfa
              have hall : ∀ x ∈ M', x.born < since := fun x hx => by
                have : x.born ∈ M'.map (·.born) := List.mem_map.2 ⟨x, hx, rfl⟩
                rw [ef.borns] at this
                obtain ⟨y, h1, h2⟩ := List.mem_map.1 this
                have := List.all_eq_true.1 hb2 y h1
                simp at this
                omega
              have hold : M'.toArray.filter (fun e => decide (e.born < since)) = M'.toArray := Array.filter_eq_self.2 (fun x hx => by simpa using hall x (by simpa using hx))
              have hnew : M'.toArray.filter (fun e => decide (e.born ≥ since)) = #[] := by
                rw [Array.filter_eq_empty_iff]
                intro x hx
                have := hall x (by simpa using hx)
                simp
                omega
              have hne' : M'.toArray.isEmpty = false := by
                rw [ef.1] at hne
                cases M' with
                | nil => exact absurd hne (by simp)
                | cons => rfl
              have hch : ∃ (j : Nat) (w1 : World), j < M'.length ∧ Below w.heap.size w w1 ∧ w1.heap = w.heap ∧ (choose (Question.mapNext M'.length)).run P w = .ok j w1 := by
                have hl0 : 0 < M'.length := by rw [← ef.1]; exact hne
                by_cases hf : M'.length ≤ 1
                · exact ⟨0, w, hl0, Below.refl _ _, rfl, by simp [choose, Sem.run, Question.forced, hf]⟩
                · exact ⟨_, w.drew, Nat.mod_lt _ hl0, (Below.refl _ _).drew, rfl, by
                    simp only [choose, Sem.run, Question.forced, decide_eq_true_eq, hf, if_false, Question.cut]
                    rfl⟩
              obtain ⟨j, w1, hj, hB, hh, hrun⟩ := hch
              have hjM : j < M.length := by rw [ef.1]; exact hj
              obtain ⟨f1, f2, f3⟩ := ef.2 j M[j] M'[j] (List.getElem?_eq_getElem hjM) (List.getElem?_eq_getElem hj)
              have st1 := stp_below hi hB
              have hso : ∀ o, (setObj b o).run P w1 = .ok () { w1 with heap := w1.heap.setIfInBounds b o } := fun o => by
                have : w1.heap[b]? = some (.mapIter (some bm) since seen.toArray last) := by rw [hh]; exact q2
                simp [setObj, Sem.run, this]
              refine ⟨.tuple #[.bool true, M'[j].key, M'[j].val], _, ?_, _, List.mem_map.2 ⟨M[j], List.getElem_mem hjM, rfl⟩, VR.tuple' (VRs.cons (.bool _) (VRs.cons f1 (VRs.cons f2 (VRs.nil _)))), st1.trans (setobj_stp (o' := .mapIter (some bm) since (seen.toArray.push M'[j].born) clock) st1.inv hr hb fun a ha => ?_)⟩
              · simp only [Instr.next, Sem.run_bind, g1, Result.andThen_ok, g2]
                rw [if_neg hno', hfa, hold, hnew, hne']
                simp only [Bool.false_eq_true, if_false, Array.empty_append, Array.append_empty, Array.size_map, List.size_toArray, hrun, Sem.run_bind, Result.andThen_ok, Array.getElem?_map, List.getElem?_toArray, List.getElem?_eq_getElem hj, Option.map_some, hso]
                rfl
              · cases ha
                exact ⟨some bm, by rw [f3]; simp, bm, κm, rfl, q3⟩
            · cases h
      · cases h
    · cases h
  · cases h
end
end
end Go.Proofs.YtimlldedpbbeoaaGreat
