/- The abstract run: equality, arithmetic, slicing, literals. -/
import Derived.Test.YtimlldedpbbeoaaGreatXB
import Derived.LaidEql
namespace Go.Proofs.YtimlldedpbbeoaaGreat
open Go.RowKit
noncomputable section

section
variable {P : Program} {B : Ctx} {σ : Sg} {s : St} {w : World}
/-- The fields of two structs held against each other. -/
def eqFs (P : Program) (eq : TypeId → Value → Value → Option Bool) (xs ys : List Value) : List Field → Option Bool
  | [] => some true
  | f :: r =>
    if f.name ≠ "_" then
      match partV P f.type xs f.offset, partV P f.type ys f.offset with
      | some a, some b => match eq f.type a b with
        | some true => eqFs P eq xs ys r
        | some false => some false
        | none => none
      | _, _ => none
    else eqFs P eq xs ys r
def eqEs (P : Program) (eq : TypeId → Value → Value → Option Bool) (e : TypeId) (n : Nat) (xs ys : List Value) : List Nat → Option Bool
  | [] => some true
  | i :: r =>
    match partV P e xs (i * n), partV P e ys (i * n) with
    | some a, some b => match eq e a b with
      | some true => eqEs P eq e n xs ys r
      | some false => some false
      | none => none
    | _, _ => none
def eqV (P : Program) (h : Tr AObj) : Nat → TypeId → Value → Value → Option Bool
  | 0, _, _, _ => none
  | d + 1, t, x, y =>
    match P.underlying t, x, y with
    | some .bool, .bool a, .bool b => some (a == b)
    | some (.int _), .int k a, .int k' b => if k = k' then some (a == b) else none
    | some .string, .string a, .string b => some (a == b)
    | some (.pointer _), .pointer none, .pointer b => some b.isNone
    | some (.pointer _), .pointer (some _), .pointer none => some false
    | some (.pointer e), .pointer (some ⟨a, o, none⟩), .pointer (some ⟨b, q, none⟩) =>
      match P.info? e with
      | some i => if i.size = 0 then none else
        if a = b ∧ o = q then some true else
        match h.get a, h.get b with
        | some (.row _ _ _), some (.row _ _ _) => some false
        | _, _ => none
      | none => none
    | some (.struct fs), .agg xs, .agg ys => if P.stoodInHeld t then none else eqFs P (eqV P h d) xs.toList ys.toList fs.toList
    | some (.array n e), .agg xs, .agg ys => match P.info? e with
      | some i => eqEs P (eqV P h d) e i.size xs.toList ys.toList (List.range' 0 n)
      | none => none
    | some (.slice _), .slice none _ _, .slice b _ _ => some b.isNone
    | some (.slice _), .slice (some _) _ _, .slice none _ _ => some false
    | some (.map _ _), .map none, .map b => some b.isNone
    | some (.map _ _), .map (some _), .map none => some false
    | some (.func _ _ _), .nilFunc, .nilFunc => some true
    | some (.func _ _ _), .nilFunc, .func (.func _) _ _ => some false
    | some (.func _ _ _), .func (.func _) _ _, .nilFunc => some false
    | _, _, _ => none
theorem eqFs_ok {d : Nat} {eq : TypeId → Value → Value → Option Bool} (he : ∀ t x y x' y' r, eq t x y = some r → VR σ x x' → VR σ y y' → (Op.equalIn d t x' y').run P w = .ok r w) {xs ys xs' ys' : List Value} (hx : VRs σ xs xs') (hy : VRs σ ys ys') :
    ∀ (fs : List Field) (r : Bool), eqFs P eq xs ys fs = some r → (Op.eqFields d xs'.toArray ys'.toArray fs).run P w = .ok r w
  | [], r, h => by simp [eqFs] at h; subst h; simp [Op.eqFields]
  | f :: fs, r, h => by
    unfold eqFs at h
    unfold Op.eqFields
    rw [Sem.run_ite]
    split at h
    · rename_i hn
      rw [if_pos hn]
      split at h
      · rename_i a b ha hb
        obtain ⟨a', ha1, ha2⟩ := partV_ok (w := w) ha hx
        obtain ⟨b', hb1, hb2⟩ := partV_ok (w := w) hb hy
        simp only [Sem.run_bind, ha1, hb1, Result.andThen_ok]
        split at h
        · rename_i he1
          rw [he _ _ _ _ _ _ he1 ha2 hb2]
          simpa using eqFs_ok he hx hy fs r h
        · rename_i he1
          cases h
          rw [he _ _ _ _ _ _ he1 ha2 hb2]
          simp
        · cases h
      · cases h
    · rename_i hn
      rw [if_neg hn]
      exact eqFs_ok he hx hy fs r h
theorem eqEs_ok {d : Nat} {eq : TypeId → Value → Value → Option Bool} (he : ∀ t x y x' y' r, eq t x y = some r → VR σ x x' → VR σ y y' → (Op.equalIn d t x' y').run P w = .ok r w) {xs ys xs' ys' : List Value} (hx : VRs σ xs xs') (hy : VRs σ ys ys') (e : TypeId) (n : Nat) :
    ∀ (is : List Nat) (r : Bool), eqEs P eq e n xs ys is = some r → (eqElems d e n xs'.toArray ys'.toArray is).run P w = .ok r w
  | [], r, h => by simp [eqEs] at h; subst h; simp [eqElems]
  | i :: is, r, h => by
    unfold eqEs at h
    unfold eqElems
    split at h
    · rename_i a b ha hb
      obtain ⟨a', ha1, ha2⟩ := partV_ok (w := w) ha hx
      obtain ⟨b', hb1, hb2⟩ := partV_ok (w := w) hb hy
      simp only [Sem.run_bind, ha1, hb1, Result.andThen_ok]
      split at h
      · rename_i he1
        rw [he _ _ _ _ _ _ he1 ha2 hb2]
        simpa using eqEs_ok he hx hy e n is r h
      · rename_i he1
        cases h
        rw [he _ _ _ _ _ _ he1 ha2 hb2]
        simp
      · cases h
    · cases h
theorem eqV_ok (hi : Inv P B σ s w) : ∀ (d : Nat) (t : TypeId) (x y x' y' : Value) (r : Bool), eqV P s.h d t x y = some r → VR σ x x' → VR σ y y' → (Op.equalIn d t x' y').run P w = .ok r w
  | 0, _, _, _, _, _, _, h, _, _ => by simp [eqV] at h
  | d + 1, t, x, y, x', y', r, h, hx, hy => by
    have ih := eqV_ok hi d
    unfold eqV at h
    split at h
    · rename_i a b hu
      cases hx; cases hy; cases h
      simp [Op.equalIn, run_underlying hu]
    · rename_i k a k' b hu
      cases hx; cases hy
      split at h
      · rename_i hk
        cases h; subst hk
        simp [Op.equalIn, run_underlying hu]
      · cases h
    · rename_i a b hu
      cases hx; cases hy; cases h
      simp [Op.equalIn, run_underlying hu]
    · rename_i b hu
      cases hx
      cases h
      cases hy <;> simp [Op.equalIn, run_underlying hu]
    · rename_i e a hu
      cases hx; cases hy
      cases h
      simp [Op.equalIn, run_underlying hu]
    · rename_i e a o b q hu
      cases hx with
      | ptr _ _ g κ hg =>
      cases hy with
      | ptr _ _ g' κ' hg' =>
      split at h
      · rename_i i hti
        split at h
        · cases h
        · rename_i hz
          have key : (sameAddr ⟨g, o, none⟩ ⟨g', q, none⟩).run P w = .ok r w := by
            split at h
            · rename_i hab
              obtain ⟨rfl, rfl⟩ := hab
              rw [hg] at hg'
              cases hg'; cases h
              exact run_sameAddr_same _ _
            · rename_i hab
              split at h
              · rename_i c1 e1 m1 c2 e2 m2 h1 h2
                cases h
                obtain ⟨b1, k1, p1, _, cur1, p2, _⟩ := hi.live _ _ h1
                obtain ⟨b2, k2, p3, _, cur2, p4, _⟩ := hi.live _ _ h2
                rw [hg] at p1; cases p1
                rw [hg'] at p3; cases p3
                refine run_sameAddr_other _ (fun he => hab ?_) p2 p4
                have he1 : g = g' := congrArg Addr.block he
                have he2 : o = q := congrArg Addr.off he
                subst he1
                exact ⟨hi.inj _ _ _ _ _ _ _ h1 h2 hg hg', he2⟩
              · cases h
          simp [Op.equalIn, run_underlying hu, info_run hti, hz, key]
      · cases h
    · rename_i fs xs ys hu
      obtain ⟨xs', rfl, hxs⟩ := hx.of_agg
      obtain ⟨ys', rfl, hys⟩ := hy.of_agg
      split at h
      · cases h
      · rename_i hst
        have hf : P.fieldsOf t = fs := by simp [Program.fieldsOf, hu]
        rw [run_equalIn_struct w d t xs' ys' (by rw [hf]; exact hu) (by simpa using hst), hf]
        simpa using eqFs_ok (w := w) ih hxs hys _ _ h
    · rename_i n e xs ys hu
      obtain ⟨xs', rfl, hxs⟩ := hx.of_agg
      obtain ⟨ys', rfl, hys⟩ := hy.of_agg
      split at h
      · rename_i i hti
        rw [run_equalIn_array w d t e n i.size xs' ys' hu (fun w => info_run hti)]
        simpa using eqEs_ok (w := w) ih hxs hys e i.size _ _ h
      · cases h
    · rename_i hu
      cases hx
      cases h
      cases hy <;> simp [Op.equalIn, run_underlying hu]
    · rename_i hu
      cases h
      cases hx <;> cases hy <;> simp [Op.equalIn, run_underlying hu]
    · rename_i hu
      cases hx
      cases h
      cases hy <;> simp [Op.equalIn, run_underlying hu]
    · rename_i hu
      cases h
      cases hx; cases hy
      simp [Op.equalIn, run_underlying hu]
    · rename_i hu
      cases hx; cases hy; cases h
      simp [Op.equalIn, run_underlying hu]
    · rename_i hu
      cases hx; cases hy; cases h
      simp [Op.equalIn, run_underlying hu]
    · rename_i hu
      cases hx; cases hy; cases h
      simp [Op.equalIn, run_underlying hu]
    · cases h
end
end
end Go.Proofs.YtimlldedpbbeoaaGreat
