/- Calls that were run apart, their states laid down: a greater run goes by them. -/
import Derived.Test.YtimlldedpbbeoaaGreatXQ
namespace Go.Proofs.YtimlldedpbbeoaaGreat
open Go.RowKit
noncomputable section

/-- Does all of the one stand in the other? -/
def subTr : Tr AObj → Tr AObj → Bool
  | .leaf, _ => true
  | .node none l r, .node _ m q => subTr l m && subTr r q
  | .node (some u) l r, .node (some v) m q => aeq u v && (subTr l m && subTr r q)
  | .node none l r, .leaf => subTr l .leaf && subTr r .leaf
  | _, _ => false
theorem subTr_getB : ∀ (s t : Tr AObj) (k : List Bool) (o : AObj), subTr s t = true → s.getB k = some o → t.getB k = some o
  | .leaf, _, _, _, _, h => nomatch h
  | .node none l r, .node v m q, [], o, hs, h => nomatch h
  | .node none l r, .node v m q, true :: k, o, hs, h => by
    simp only [subTr, Bool.and_eq_true] at hs
    exact subTr_getB l m k o hs.1 h
  | .node none l r, .node v m q, false :: k, o, hs, h => by
    simp only [subTr, Bool.and_eq_true] at hs
    exact subTr_getB r q k o hs.2 h
  | .node (some u) l r, .node (some v) m q, [], o, hs, h => by
    simp only [subTr, Bool.and_eq_true] at hs
    simp only [Tr.getB] at h ⊢
    rw [← aeq_eq hs.1]
    exact h
  | .node (some u) l r, .node (some v) m q, true :: k, o, hs, h => by
    simp only [subTr, Bool.and_eq_true] at hs
    exact subTr_getB l m k o hs.2.1 h
  | .node (some u) l r, .node (some v) m q, false :: k, o, hs, h => by
    simp only [subTr, Bool.and_eq_true] at hs
    exact subTr_getB r q k o hs.2.2 h
  | .node none l r, .leaf, [], o, hs, h => nomatch h
  | .node none l r, .leaf, true :: k, o, hs, h => by
    simp only [subTr, Bool.and_eq_true] at hs
    exact subTr_getB l .leaf k o hs.1 h
  | .node none l r, .leaf, false :: k, o, hs, h => by
    simp only [subTr, Bool.and_eq_true] at hs
    exact subTr_getB r .leaf k o hs.2 h
  | .node (some u) l r, .leaf, _, _, hs, _ => nomatch hs
  | .node (some u) l r, .node none m q, _, _, hs, _ => nomatch hs
theorem subTr_get {s t : Tr AObj} (h : subTr s t = true) (x : Nat) (o : AObj) (hx : s.get x = some o) : t.get x = some o := by
  unfold Tr.get at *
  rw [Tr.getR_eq] at *
  exact subTr_getB s t _ o h hx
def overO (a b c : Option AObj) : Option AObj := match c with
  | some o => some o
  | none => match b with
    | some _ => none
    | none => a
def kidsL : Tr AObj → Option AObj × Tr AObj × Tr AObj
  | .leaf => (none, .leaf, .leaf)
  | .node v l r => (v, l, r)
/-- What was there (h), less what a call began with (s), and what it left (t). -/
def overTr : Tr AObj → Tr AObj → Tr AObj → Tr AObj
  | h, .leaf, .leaf => h
  | .leaf, _, t => t
  | .node v l r, s, .leaf => match s with
    | .leaf => .node v l r
    | .node u sl sr => .node (overO v u none) (overTr l sl .leaf) (overTr r sr .leaf)
  | .node v l r, .leaf, .node w tl tr => .node (overO v none w) (overTr l .leaf tl) (overTr r .leaf tr)
  | .node v l r, .node u sl sr, .node w tl tr => .node (overO v u w) (overTr l sl tl) (overTr r sr tr)
theorem overTr_getB : ∀ (h s t : Tr AObj) (k : List Bool) (o : AObj), (overTr h s t).getB k = some o → t.getB k = some o ∨ (t.getB k = none ∧ s.getB k = none ∧ h.getB k = some o)
  | .leaf, .leaf, .leaf, k, o, q => nomatch q
  | .leaf, .leaf, .node w tl tr, k, o, q => .inl (by simpa [overTr] using q)
  | .leaf, .node u sl sr, .leaf, k, o, q => by simp [overTr, Tr.getB] at q
  | .leaf, .node u sl sr, .node w tl tr, k, o, q => .inl (by simpa [overTr] using q)
  | .node v l r, .leaf, .leaf, k, o, q => .inr ⟨rfl, rfl, by simpa [overTr] using q⟩
  | .node v l r, .node u sl sr, .leaf, [], o, q => by
    simp only [overTr, Tr.getB, overO] at q ⊢
    cases u with
    | some x => simp at q
    | none => exact .inr ⟨by trivial, rfl, q⟩
  | .node v l r, .node u sl sr, .leaf, true :: k, o, q => by
    rcases overTr_getB l sl .leaf k o (by simpa [overTr, Tr.getB] using q) with h | h
    · exact nomatch h
    · exact .inr h
  | .node v l r, .node u sl sr, .leaf, false :: k, o, q => by
    rcases overTr_getB r sr .leaf k o (by simpa [overTr, Tr.getB] using q) with h | h
    · exact nomatch h
    · exact .inr h
  | .node v l r, .leaf, .node w tl tr, [], o, q => by
    simp only [overTr, Tr.getB, overO] at q ⊢
    cases w with
    | some x => exact .inl q
    | none => exact .inr ⟨rfl, by trivial, q⟩
  | .node v l r, .leaf, .node w tl tr, true :: k, o, q => by
    rcases overTr_getB l .leaf tl k o (by simpa [overTr, Tr.getB] using q) with h | h
    · exact .inl h
    · exact .inr h
  | .node v l r, .leaf, .node w tl tr, false :: k, o, q => by
    rcases overTr_getB r .leaf tr k o (by simpa [overTr, Tr.getB] using q) with h | h
    · exact .inl h
    · exact .inr h
  | .node v l r, .node u sl sr, .node w tl tr, [], o, q => by
    simp only [overTr, Tr.getB, overO] at q ⊢
    cases w with
    | some x => exact .inl q
    | none =>
      cases u with
      | some x => simp at q
      | none => exact .inr ⟨rfl, rfl, q⟩
  | .node v l r, .node u sl sr, .node w tl tr, true :: k, o, q => by
    rcases overTr_getB l sl tl k o (by simpa [overTr, Tr.getB] using q) with h | h
    · exact .inl h
    · exact .inr h
  | .node v l r, .node u sl sr, .node w tl tr, false :: k, o, q => by
    rcases overTr_getB r sr tr k o (by simpa [overTr, Tr.getB] using q) with h | h
    · exact .inl h
    · exact .inr h
theorem overTr_get {h s t : Tr AObj} {x : Nat} {o : AObj} (q : (overTr h s t).get x = some o) : t.get x = some o ∨ (t.get x = none ∧ s.get x = none ∧ h.get x = some o) := by
  unfold Tr.get at *
  simp only [Tr.getR_eq] at *
  exact overTr_getB h s t _ o q
/-- A heap out of its things. -/
def ofL : List (Nat × AObj) → Tr AObj
  | [] => .leaf
  | x :: r => (ofL r).set 40 x.1 (some x.2)
/-- A call, and what it comes to. -/
structure Lit where
  f : Nat
  args : List Value
  s : St
  v : Value
  t : St
def ovLit (L : Lit) : OvF := fun f args s => if f = L.f then (if veqs (veq 40) args L.args && (subTr L.s.h s.h && Nat.ble s.next L.s.next) then some (L.v, ⟨L.t.next, overTr s.h L.s.h L.t.h⟩) else none) else none
/-- Does a run come to what is laid down? -/
def litOK (L : Lit) (r : Option (List (Value × St))) : Bool := match r with
  | some l => l.all fun x => veq 40 L.v x.1 && (Nat.ble x.2.next L.t.next && subTr L.t.h x.2.h)
  | none => false
theorem frame_stp {P : Program} {B : Ctx} {σ τ : Sg} {s s1 s2 : St} {w w' : World} (hi : Inv P B σ s w) (hsub : ∀ x o, s1.h.get x = some o → s.h.get x = some o) (hn : s.next ≤ s1.next) (k : Stp P B σ s1 w τ s2 w') : Stp P B σ s w τ ⟨s2.next, overTr s.h s1.h s2.h⟩ w' := by
  have i1 : Inv P B σ s1 w := hi.drop hsub (fun x hx => hi.dom x (by omega))
  have hle := k.le i1
  have hfoot : ∀ b, Foot σ s1 b → Foot σ s b := fun b ⟨x, o, κ, h1, h2⟩ => ⟨x, o, κ, hsub x o h1, h2⟩
  have lt : ∀ {x o}, s.h.get x = some o → x < s.next := fun {x o} h => by
    obtain ⟨b, κ, q1, _⟩ := hi.live x o h
    by_cases hx : x < s.next
    · exact hx
    · rw [hi.dom x (by omega)] at q1; cases q1
  have same : ∀ {x o}, s.h.get x = some o → τ x = σ x := fun h => k.old _ (by have := lt h; omega)
  have apart : ∀ {x o b κ}, s.h.get x = some o → s1.h.get x = none → σ x = some (b, κ) → ¬ Foot σ s1 b := by
    rintro x o b κ h1 h2 h3 ⟨y, o', κ', h4, h5⟩
    have := hi.inj y x _ _ b κ' κ (hsub y o' h4) h1 h5 h3
    subst this
    rw [h2] at h4; cases h4
  refine ⟨⟨k.inv.base, k.inv.own, k.inv.dom, fun x o h => ?_, fun x y o o' b κ κ' h1 h2 h3 h4 => ?_⟩, fun x hx => k.old x (by omega), by have := k.nle; show s.next ≤ s2.next; omega, ⟨k.fr.os, k.fr.tape, k.fr.output, k.fr.size, fun b hb hf => k.fr.block b hb fun hf1 => hf (hfoot b hf1)⟩, fun b hb hf => ?_, fun x hx hn1 => ?_, k.ext⟩
  · rcases overTr_get h with h | ⟨_, h1, h2⟩
    · exact k.inv.live x o h
    · obtain ⟨b, κ, q1, q2, q3⟩ := hi.live x o h2
      refine ⟨b, κ, by rw [same h2]; exact q1, q2, ?_⟩
      rw [k.fr.block b (hi.lt h2 q1) (apart h2 h1 q1)]
      exact q3.mono hle
  · have mixed : ∀ {x y o o' b κ κ'}, s2.h.get x = some o → s1.h.get y = none → s.h.get y = some o' → τ x = some (b, κ) → τ y = some (b, κ') → False := by
      intro x y o o' b κ κ' g1 g2 g3 g4 g5
      rw [same g3] at g5
      exact apart g3 g2 g5 (k.sub b (hi.lt g3 g5) ⟨x, o, κ, g1, g4⟩)
    rcases overTr_get h1 with h1 | ⟨_, h1, h1'⟩
    · rcases overTr_get h2 with h2 | ⟨_, h2, h2'⟩
      · exact k.inv.inj x y o o' b κ κ' h1 h2 h3 h4
      · exact (mixed h1 h2 h2' h3 h4).elim
    · rcases overTr_get h2 with h2 | ⟨_, h2, h2'⟩
      · exact (mixed h2 h1 h1' h4 h3).elim
      · rw [same h1'] at h3
        rw [same h2'] at h4
        exact hi.inj x y o o' b κ κ' h1' h2' h3 h4
  · obtain ⟨x, o, κ, h1, h2⟩ := hf
    rcases overTr_get h1 with h1 | ⟨_, h1, h1'⟩
    · exact hfoot b (k.sub b hb ⟨x, o, κ, h1, h2⟩)
    · exact ⟨x, o, κ, h1', by rw [← same h1']; exact h2⟩
  · cases hc : (overTr s.h s1.h s2.h).get x with
    | none => rfl
    | some o =>
      rcases overTr_get hc with h | ⟨_, _, h⟩
      · have hs1 : s1.h.get x = none := by
          cases hq : s1.h.get x with
          | none => rfl
          | some o' => rw [hsub x o' hq] at hn1; cases hn1
        rw [k.keep x (by omega) hs1] at h; cases h
      · rw [hn1] at h; cases h
theorem ovLit_ok {P : Program} {B : Ctx} {draw : DrawF} (hdraw : DrawOK P draw) {ov : OvF} (hov : OvOK P B ov) {fuel d : Nat} {L : Lit} (h : litOK L (funcS ov draw P fuel d (.func L.f) L.args L.s) = true) : OvOK P B (ovLit L) := by
  refine ⟨fun g args s v s' hc σ w args' hi hargs => ?_⟩
  unfold ovLit at hc
  split at hc
  · rename_i hg
    subst hg
    split at hc
    · rename_i hcond
      cases hc
      simp only [Bool.and_eq_true] at hcond
      obtain ⟨c1, c2, c3⟩ := hcond
      have c1 := veqs_eq (veq_eq 40) _ _ c1
      subst c1
      have c3 := Nat.le_of_ble_eq_true c3
      have hsub := subTr_get c2
      unfold litOK at h
      split at h
      · rename_i l hl
        have i1 : Inv P B σ L.s w := hi.drop hsub (fun x hx => hi.dom x (by omega))
        refine ((func_ok hov hdraw fuel d).func L.f L.args L.s l hl σ w args' i1 hargs).mono ?_
        rintro e w' ⟨x, hx, hr⟩
        have := List.all_eq_true.1 h x hx
        simp only [Bool.and_eq_true] at this
        obtain ⟨q1, q2, q3⟩ := this
        have hcov : Cov (L.v, L.t) x := ⟨fun σ v' h => by rw [show L.v = x.1 from veq_eq _ _ _ q1]; exact h, Nat.le_of_ble_eq_true q2, subTr_get q3⟩
        obtain ⟨v', τ, rfl, r1, r2⟩ := CallR.cov hcov hr
        exact ⟨v', τ, rfl, r1, frame_stp hi hsub c3 r2⟩
      · cases h
    · cases hc
  · cases hc
end
end Go.Proofs.YtimlldedpbbeoaaGreat
