/- The abstract run: keys of maps. -/
import Derived.Test.YtimlldedpbbeoaaGreatXE
import Derived.DeepKeys3
namespace Go.Proofs.YtimlldedpbbeoaaGreat
open Go.RowKit
noncomputable section

theorem flat_eq {σ : Sg} : ∀ (k : Nat) (v v' : Value), flat k v = true → VR σ v v' → v' = v := by
  intro k
  induction k with
  | zero =>
    intro v v' h q
    cases q <;> first | rfl | (simp [flat] at h; done)
  | succ k ih =>
    intro v v' h q
    have arr : ∀ {c c' : Array Value}, c.toList.all (flat k) = true → c.size = c'.size → (∀ (i : Nat) (v v' : Value), c[i]? = some v → c'[i]? = some v' → VR σ v v') → c' = c := by
      intro c c' h hc hv
      rw [List.all_eq_true] at h
      refine Array.ext hc.symm fun i h1 h2 => ?_
      exact ih _ _ (h _ (by simp)) (hv i _ _ (Array.getElem?_eq_getElem h2) (Array.getElem?_eq_getElem h1))
    cases q with
    | agg c c' hc hv => rw [arr (by simpa only [flat] using h) hc hv]
    | tuple c c' hc hv => rw [arr (by simpa only [flat] using h) hc hv]
    | iface t v v' hv => rw [ih _ _ (by simpa only [flat] using h) hv]
    | func g f f' c c' h1 h2 h3 h4 =>
      simp only [flat, Bool.and_eq_true] at h
      rw [arr h.1 h1 h3, arr h.2 h2 h4]
    | _ => first | rfl | (simp [flat] at h; done)
section
variable {P : Program} {B : Ctx} {σ : Sg} {s : St} {w : World}
/-- A key that is asked without fault. -/
def ckV (P : Program) (t : TypeId) (v : Value) : Bool := P.keyTypeAt 6 t && (flat 20 v && (v.formed P t && (P.keyLits 10 t v.cells.toList).isSome))
theorem ckV_ok {t : TypeId} {v v' : Value} (h : ckV P t v = true) (hv : VR σ v v') (em : Bool) : v' = v ∧ (Instr.checkKey em 10000 t v').run P w = .ok () w := by
  unfold ckV at h
  simp only [Bool.and_eq_true] at h
  obtain ⟨h1, h2, h3, h4⟩ := h
  obtain rfl := flat_eq 20 v v' h2 hv
  obtain ⟨la, h4⟩ := Option.isSome_iff_exists.1 h4
  exact ⟨rfl, run_checkKey_deep em 9994 6 t h1 w 10 v' la h3 h4⟩
def findV (P : Program) (h : Tr AObj) (kt : TypeId) (k : Value) : List MapEntry → Nat → Option (Option (Nat × Value))
  | [], _ => some none
  | e :: r, i => match eqV P h 10000 kt k e.key with
    | some true => some (some (i, e.val))
    | some false => findV P h kt k r (i + 1)
    | none => none
/-- Lists of entries of a map. -/
def ER (σ : Sg) (l l' : List MapEntry) : Prop := l.length = l'.length ∧ ∀ (i : Nat) (x x' : MapEntry), l[i]? = some x → l'[i]? = some x' → VR σ x.key x'.key ∧ VR σ x.val x'.val ∧ x'.born = x.born
theorem ER.uncons {e : MapEntry} {l l' : List MapEntry} (h : ER σ (e :: l) l') : ∃ e' r', l' = e' :: r' ∧ VR σ e.key e'.key ∧ VR σ e.val e'.val ∧ e'.born = e.born ∧ ER σ l r' := by
  cases l' with
  | nil => have := h.1; simp at this
  | cons e' r' =>
    obtain ⟨q1, q2, q3⟩ := h.2 0 e e' rfl rfl
    exact ⟨e', r', rfl, q1, q2, q3, by have := h.1; simpa using this, fun i x x' a b => h.2 (i + 1) x x' (by simpa using a) (by simpa using b)⟩
def KR (σ : Sg) : Option (Nat × Value) → Option (Nat × Value) → Prop
  | none, none => True
  | some (j, v), some (j', v') => j' = j ∧ VR σ v v'
  | _, _ => False
theorem findAsking_ok (hi : Inv P B σ s w) {kt : TypeId} {k k' : Value} (hk : VR σ k k') : ∀ {l l' : List MapEntry} {i : Nat} {r : Option (Nat × Value)}, findV P s.h kt k l i = some r → ER σ l l' →
    ∃ r', (Instr.findAsking kt k' l' i).run P w = .ok r' w ∧ KR σ r r'
  | [], l', i, r, h, hl => by
    cases h
    have : l' = [] := List.eq_nil_of_length_eq_zero hl.1.symm
    subst this
    exact ⟨none, rfl, trivial⟩
  | e :: l, l', i, r, h, hl => by
    obtain ⟨e', r', rfl, q1, q2, q3, q4⟩ := hl.uncons
    unfold findV at h
    have run : ∀ b, eqV P s.h 10000 kt k e.key = some b → (Op.equal kt k' e'.key).run P w = .ok b w := fun b hb => eqV_ok hi 10000 kt k e.key k' e'.key b hb hk q1
    split at h
    · rename_i hb
      cases h
      refine ⟨some (i, e'.val), ?_, rfl, q2⟩
      rw [Instr.findAsking, Sem.run_bind, run _ hb]
      rfl
    · rename_i hb
      obtain ⟨u, h1, h2⟩ := findAsking_ok hi hk h q4
      refine ⟨u, ?_, h2⟩
      rw [Instr.findAsking, Sem.run_bind, run _ hb]
      exact h1
    · cases h
theorem sameNow_run {kt : TypeId} {d : TypeDesc} (hd : P.underlying kt = some d) {x y : Value} {b : Bool} (h : Instr.sameNow d x y = some b) : (Op.equal kt x y).run P w = .ok b w := by
  rw [show Op.equal kt x y = Op.equalIn (9999 + 1) kt x y from rfl, Op.equalIn]
  unfold Instr.sameNow at h
  split at h
  · split at h
    · cases h
      subst ‹_ = _›
      rw [Sem.run_bind, run_underlying hd]
      simp
    · cases h
  · cases h
    rw [Sem.run_bind, run_underlying hd]
    rfl
  · cases h
    rw [Sem.run_bind, run_underlying hd]
    rfl
  · cases h
theorem findNow_asking {kt : TypeId} {d : TypeDesc} (hd : P.underlying kt = some d) {k : Value} : ∀ {l : List MapEntry} {i : Nat} {r : Option (Nat × Value)}, Instr.findNow d k l i = some r → (Instr.findAsking kt k l i).run P w = .ok r w
  | [], i, r, h => by cases h; rfl
  | e :: l, i, r, h => by
    unfold Instr.findNow at h
    rw [Instr.findAsking, Sem.run_bind]
    split at h
    · rename_i hb
      cases h
      rw [sameNow_run hd hb]
      rfl
    · rename_i hb
      rw [sameNow_run hd hb]
      exact findNow_asking hd h
    · cases h
theorem findKey_ok (hi : Inv P B σ s w) {kt : TypeId} {d : TypeDesc} (hd : P.underlying kt = some d) {k k' : Value} (hk : VR σ k k') {l l' : List MapEntry} {r : Option (Nat × Value)} (h : findV P s.h kt k l 0 = some r) (hl : ER σ l l') :
    ∃ r', (Instr.findKey kt k' l').run P w = .ok r' w ∧ KR σ r r' := by
  obtain ⟨r', h1, h2⟩ := findAsking_ok hi hk h hl
  refine ⟨r', ?_, h2⟩
  unfold Instr.findKey
  rw [Sem.run_bind, run_underlying hd, Result.andThen_ok]
  cases hf : Instr.findNow d k' l' 0 with
  | none => exact h1
  | some u =>
    have := findNow_asking (w := w) hd hf
    rw [h1] at this
    cases this
    rfl
def esOf (h : Tr AObj) : Value → Option (List MapEntry)
  | .map none => some []
  | .map (some x) => match h.get x with
    | some (.map es _) => some es
    | _ => none
  | _ => none
def lookV (P : Program) (h : Tr AObj) (t : TypeId) (m k : Value) (ok : Bool) : Option Value :=
  match P.underlying t with
  | some (.map kt et) => match P.underlying kt, zeroOfV P et, esOf h m with
    | some _, some z, some es => if ckV P kt k then match findV P h kt k es 0 with
      | some (some (_, v)) => some (if ok then .tuple #[v, .bool true] else v)
      | some none => some (if ok then .tuple #[z, .bool false] else z)
      | none => none else none
    | _, _, _ => none
  | _ => none
where
  zeroOfV (P : Program) (e : TypeId) : Option Value := match P.info? e with
    | some i => match i.zero with
      | some z => if flat 60 z then some z else none
      | none => none
    | none => none
def outOf (et : TypeId) (u : Option (Nat × Value)) : Sem (Value × Bool) := match u with
  | some (_, v) => pure (v, true)
  | none => do pure (← zeroValue et, false)
theorem lookV_ok (hi : Inv P B σ s w) {t : TypeId} {m m' k k' r : Value} {ok : Bool} (h : lookV P s.h t m k ok = some r) (hm : VR σ m m') (hk : VR σ k k') : ∃ r', (Instr.lookup t m' k' ok).run P w = .ok r' w ∧ VR σ r r' := by
  unfold lookV at h
  split at h
  · rename_i kt et hu
    split at h
    · rename_i d z es hd hz he
      split at h
      · rename_i hc
        have hzr : (zeroValue et).run P w = .ok z w ∧ VR σ z z := by
          unfold lookV.zeroOfV at hz
          split at hz
          · rename_i i hi0
            split at hz
            · rename_i z0 hz0
              split at hz
              · rename_i hf
                cases hz
                exact ⟨by simp [zeroValue, typeInfo, hi0, hz0], flat_vr 60 _ hf⟩
              · cases hz
            · cases hz
          · cases hz
        have hes : ∃ es' : Array MapEntry, ER σ es es'.toList ∧ ((m' = .map none ∧ es' = #[]) ∨ ∃ b clock, m' = .map (some b) ∧ (getObj b).run P w = .ok (.map es' clock) w) := by
          unfold esOf at he
          split at he
          · cases he
            cases hm
            exact ⟨#[], ⟨rfl, fun i x x' a => by simp at a⟩, .inl ⟨rfl, rfl⟩⟩
          · rename_i x
            split at he
            · rename_i es0 clock hg
              cases he
              cases hm with
              | map _ b κ hx =>
                obtain ⟨b1, κ1, q1, _, es', q2, q3, q4⟩ := hi.live x _ hg
                rw [hx] at q1
                cases q1
                exact ⟨es', ⟨by simpa using q3, fun i x x' a b => q4 i x x' a (by simpa using b)⟩, .inr ⟨b, clock, rfl, by simp [getObj, Sem.run, q2]⟩⟩
            · cases he
          · cases he
        obtain ⟨es', e1, e2⟩ := hes
        obtain ⟨_, hck⟩ := ckV_ok (P := P) (w := w) hc hk es'.isEmpty
        have main : ∀ {u : Option (Nat × Value)}, findV P s.h kt k es 0 = some u → ∃ u', (Instr.findKey kt k' es'.toList).run P w = .ok u' w ∧ KR σ u u' := fun hf => findKey_ok hi hd hk hf e1
        have pair : ∀ {a a' b b' : Value}, VR σ a a' → VR σ b b' → VR σ (.tuple #[a, b]) (.tuple #[a', b']) := fun q1 q2 => VR.tuple' (VRs.cons q1 (VRs.cons q2 (VRs.nil _)))
        have go : ∀ {u' : Option (Nat × Value)} {v' : Value} {b : Bool}, (Instr.findKey kt k' es'.toList).run P w = .ok u' w → (outOf et u').run P w = .ok (v', b) w → (Instr.lookup t m' k' ok).run P w = .ok (if ok then .tuple #[v', .bool b] else v') w := by
          intro u' v' b f1 f2
          have f3 : (match u' with | some (_, v) => (pure (if ok then .tuple #[v, .bool true] else v) : Sem Value) | none => do
              let z ← zeroValue et
              pure (if ok then .tuple #[z, .bool false] else z)).run P w = .ok (if ok then .tuple #[v', .bool b] else v') w := by
            unfold outOf at f2
            cases u' with
            | none =>
              simp only [Sem.run_bind, hzr.1, Result.andThen_ok, Sem.run_pure] at f2 ⊢
              cases f2
              rfl
            | some x =>
              simp only [Sem.run_pure] at f2 ⊢
              cases f2
              rfl
          rcases e2 with ⟨rfl, rfl⟩ | ⟨bl, clock, rfl, hgo⟩
          · simp only [Instr.lookup, Sem.run_bind, run_underlying hu, Result.andThen_ok, Sem.run_pure, hck, f1]
            cases u' <;> simpa using f3
          · simp only [Instr.lookup, Sem.run_bind, run_underlying hu, Result.andThen_ok, Sem.run_pure, hgo, hck, f1]
            cases u' <;> simpa using f3
        split at h
        · rename_i j v hf
          cases h
          obtain ⟨u', f1, f2⟩ := main hf
          cases u' with
          | none => exact f2.elim
          | some x =>
            obtain ⟨j', v'⟩ := x
            refine ⟨_, go f1 (by rfl), ?_⟩
            cases ok
            · exact f2.2
            · exact pair f2.2 (.bool _)
        · rename_i hf
          cases h
          obtain ⟨u', f1, f2⟩ := main hf
          cases u' with
          | some x => exact f2.elim
          | none =>
            refine ⟨_, go f1 (v' := z) (b := false) (by unfold outOf; rw [Sem.run_bind, hzr.1]; rfl), ?_⟩
            cases ok
            · exact hzr.2
            · exact pair hzr.2 (.bool _)
        · cases h
      · cases h
    · cases h
  · cases h
theorem ER.borns : ∀ {l l' : List MapEntry}, ER σ l l' → l'.map (·.born) = l.map (·.born)
  | [], l', h => by
    have : l' = [] := List.eq_nil_of_length_eq_zero h.1.symm
    subst this
    rfl
  | e :: l, l', h => by
    obtain ⟨e', r', rfl, _, _, q3, q4⟩ := h.uncons
    simp [q3, q4.borns]
theorem ER.nil : ER σ [] [] := ⟨rfl, fun i x x' a => by simp at a⟩
theorem ER.cons {e e' : MapEntry} {l l' : List MapEntry} (h1 : VR σ e.key e'.key) (h2 : VR σ e.val e'.val) (h3 : e'.born = e.born) (h : ER σ l l') : ER σ (e :: l) (e' :: l') := by
  refine ⟨by simp [h.1], fun i x x' a b => ?_⟩
  cases i with
  | zero => simp at a b; subst a b; exact ⟨h1, h2, h3⟩
  | succ i => exact h.2 i x x' (by simpa using a) (by simpa using b)
theorem ER.filter (q : Nat → Bool) : ∀ {l l' : List MapEntry}, ER σ l l' → ER σ (l.filter fun e => q e.born) (l'.filter fun e => q e.born)
  | [], l', h => by
    have : l' = [] := List.eq_nil_of_length_eq_zero h.1.symm
    subst this
    exact ER.nil
  | e :: l, l', h => by
    obtain ⟨e', r', rfl, q1, q2, q3, q4⟩ := h.uncons
    have ih := q4.filter q
    simp only [List.filter_cons, q3]
    split
    · exact ER.cons q1 q2 q3 ih
    · exact ih
theorem ER.find (q : Nat → Bool) : ∀ {l l' : List MapEntry} {e : MapEntry}, ER σ l l' → (l.find? fun e => q e.born) = some e → ∃ e', (l'.find? fun e => q e.born) = some e' ∧ VR σ e.key e'.key ∧ VR σ e.val e'.val
  | [], l', e, h, hf => by simp at hf
  | x :: l, l', e, h, hf => by
    obtain ⟨e', r', rfl, q1, q2, q3, q4⟩ := h.uncons
    simp only [List.find?_cons, q3] at hf ⊢
    split at hf
    · cases hf
      exact ⟨e', rfl, q1, q2⟩
    · exact q4.find q hf
/-- The entry that the last step gave. -/
def entryV (h : Tr AObj) : Value → Option Value
  | .pointer (some ⟨r, 0, none⟩) => match h.get r with
    | some (.iter (some m) _ seen stepped) => match seen.getLast?, h.get m with
      | some stamp, some (.map es clock) => if clock = stepped then match es.find? fun e => e.born == stamp with
        | some e => some (.tuple #[e.key, e.val])
        | none => none else none
      | _, _ => none
    | _ => none
  | _ => none
theorem entryV_ok (hi : Inv P B σ s w) {x x' r : Value} (h : entryV s.h x = some r) (hx : VR σ x x') : ∃ r', (Instr.entry x').run P w = .ok r' w ∧ VR σ r r' := by
  unfold entryV at h
  split at h
  · rename_i r0
    split at h
    · rename_i m since seen stepped hr
      split at h
      · rename_i stamp es clock hs hm
        split at h
        · rename_i hc
          split at h
          · rename_i e he
            cases h
            cases hx with
            | ptr _ _ b κ hb =>
            obtain ⟨b1, κ1, q1, _, m', q2, bm, κm, rfl, q3⟩ := hi.live r0 _ hr
            rw [hb] at q1; cases q1
            obtain ⟨b2, κ2, p1, _, es', p2, p3, p4⟩ := hi.live m _ hm
            rw [q3] at p1; cases p1
            have e1 : ER σ es es'.toList := ⟨by simpa using p3, fun i x x' a b => p4 i x x' a (by simpa using b)⟩
            obtain ⟨e', f1, f2, f3⟩ := e1.find (fun n => n == stamp) he
            have g1 : (getObj b).run P w = .ok (.mapIter (some bm) since seen.toArray stepped) w := by simp [getObj, Sem.run, q2]
            have g2 : (getObj bm).run P w = .ok (.map es' clock) w := by simp [getObj, Sem.run, p2]
            have g3 : seen.toArray.back? = some stamp := by simpa using hs
            have g4 : es'.find? (fun e => e.born == stamp) = some e' := by rw [← Array.find?_toList]; exact f1
            refine ⟨.tuple #[e'.key, e'.val], ?_, VR.tuple' (VRs.cons f2 (VRs.cons f3 (VRs.nil _)))⟩
            simp [Instr.entry, g1, g2, g3, g4, hc]
          · cases h
        · cases h
      · cases h
    · cases h
  · cases h
end
end
end Go.Proofs.YtimlldedpbbeoaaGreat
