/- The abstract run: copies, clears, calls: any operation as one step. -/
import Derived.Test.YtimlldedpbbeoaaGreatXT
import Derived.RangeFuncIn
import Derived.RangeFuncLeaves
namespace Go.Proofs.YtimlldedpbbeoaaGreat
open Go.RowKit
noncomputable section

section
variable {P : Program} {B : Ctx} {σ : Sg} {s : St} {w : World}
def copyS (P : Program) (s : St) (ts : List TypeId) (v u : Value) : Option (Value × St) :=
  match ts with
  | t :: _ => match P.underlying t with
    | some (.slice e) => match P.info? e with
      | some i => match v, u with
        | .slice A n c, .slice A2 m c2 => match srcV s.h i.size (.slice A2 (min m n) c2) with
          | some (k, cs) => if k = 0 then some (.int .i64 0, s) else match A with
            | some ⟨x, o, none⟩ => if anyMark ≤ c then none else match s.h.get x with
              | some (.row ds e' room) => if o + cs.length ≤ ds.length ∧ cs.all (·.oneCell') = true then some (.int .i64 k, ⟨s.next, s.h.set 40 x (some (.row (splice ds o cs) e' room))⟩) else none
              | _ => none
            | _ => none
          | none => none
        | _, _ => none
      | none => none
    | _ => none
  | [] => none
theorem copyS_ok (hi : Inv P B σ s w) {ts : Array TypeId} {ty : TypeId} {v u v' u' r : Value} {s' : St} (h : copyS P s ts.toList v u = some (r, s')) (hv : VR σ v v') (hu : VR σ u u') :
    ∃ w', (Builtin.copy_ ts ty #[v', u']).run P w = .ok r w' ∧ VR σ r r ∧ Stp P B σ s w σ s' w' := by
  unfold copyS at h
  split at h
  · rename_i t tr hts
    have ht0 : ts[0]? = some t := by rw [← Array.getElem?_toList, hts]; rfl
    split at h
    · rename_i e hut
      split at h
      · rename_i i hti
        split at h
        · rename_i A n c A2 m c2
          have hle : min m n ≤ m := Nat.min_le_left _ _
          have hmin : Nat.min m n = min m n := rfl
          generalize min m n = j at h hle hmin
          split at h
          · rename_i k cs hsrc
            have hkm : k = j := by
              unfold srcV at hsrc
              split at hsrc
              · rename_i heq; cases heq; cases hsrc; omega
              · rename_i heq
                cases heq
                split at hsrc
                · cases hsrc; omega
                · split at hsrc
                  · cases hsrc
                  · split at hsrc
                    · cases hsrc; rfl
                    · cases hsrc
              · cases hsrc
            obtain ⟨A1, c1, rfl⟩ : ∃ A1 c1, v' = .slice A1 n c1 := by cases hv <;> exact ⟨_, _, rfl⟩
            obtain ⟨A3, c3, rfl, hu2⟩ : ∃ A3 c3, u' = .slice A3 m c3 ∧ VR σ (.slice A2 j c2) (.slice A3 j c3) := by
              cases hu with
              | nils => exact ⟨_, _, rfl, .nils _ _⟩
              | sl x o n b κ c' _ h hc hn hl => exact ⟨_, _, rfl, .sl _ _ _ _ _ _ _ h (by unfold CapR at hc ⊢; rw [if_neg (by omega)] at hc ⊢; exact hc) hn (by omega)⟩
              | empty a a' c c' hc =>
                obtain rfl : j = 0 := by omega
                exact ⟨_, _, rfl, .empty _ _ _ _ hc⟩
            obtain ⟨A4, c4, cs', he, hcs, hcl, hm0, hfirst, _⟩ := srcV_ok hi hsrc hu2
            cases he
            have hf2 : (Builtin.firstCells i.size j (.slice A3 m c3)).run P w = .ok cs'.toArray w := by
              cases A3 <;> exact hfirst
            split at h
            · rename_i hk
              cases h
              subst hk
              have hnil : cs' = [] := List.eq_nil_of_length_eq_zero (by rw [← hcs.1, hm0 rfl]; rfl)
              subst hnil
              refine ⟨w, ?_, .int _ _, Stp.refl hi⟩
              cases A1 <;> simp [Builtin.copy_, ht0, run_underlying hut, lenOf_slice, info_run hti, hmin, hf2, goInt, storeCells]
            · rename_i hk
              split at h
              · rename_i x o
                split at h
                · cases h
                · rename_i hany
                  cases hv with
                  | empty _ _ _ _ hc => exact absurd hc hany
                  | sl _ _ _ _ b κ c' hx hc _ hn =>
                  split at h
                  · rename_i ds e' room hg
                    split at h
                    · rename_i hb
                      cases h
                      refine ⟨w.setCells b o cs', ?_, .int _ _, write_stp hi hg hx hcs hb.1⟩
                      have hr := write_run hi hg hx hcs hb.1 hb.2
                      simp [Builtin.copy_, ht0, run_underlying hut, lenOf_slice, info_run hti, hmin, hf2, goInt, hr]
                    · cases h
                  · cases h
              · cases h
          · cases h
        · cases h
      · cases h
    · cases h
  · cases h
/-- What a call leaves. -/
def CallR (P : Program) (B : Ctx) (σ : Sg) (s : St) (w : World) (v : Value) (s' : St) (e : Ending) (w' : World) : Prop := ∃ v' τ, e = .returned v' ∧ VR τ v v' ∧ Stp P B σ s w τ s' w'
/-- One of these. -/
def CallRs (P : Program) (B : Ctx) (σ : Sg) (s : St) (w : World) (L : List (Value × St)) (e : Ending) (w' : World) : Prop := ∃ x ∈ L, CallR P B σ s w x.1 x.2 e w'
theorem CallR.cov {x y : Value × St} (hc : Cov y x) {e : Ending} {w' : World} (h : CallR P B σ s w x.1 x.2 e w') : CallR P B σ s w y.1 y.2 e w' := by
  obtain ⟨v', τ, rfl, h1, h2⟩ := h
  exact ⟨v', τ, rfl, hc.1 _ _ h1, h2.cov hc.2.2 hc.2.1⟩
abbrev CallF := Fn → List Value → St → Option (List (Value × St))
/-- The fence that lets all in, in a round or not. -/
def FR (ρ : Option Nat) : Fence := { Fence.wide with round := ρ }
/-- Calls that keep to what is reckoned. -/
structure CallOK (P : Program) (B : Ctx) (call : CallF) : Prop where
  func : ∀ g args s L, call (.func g) args s = some L → ∀ (σ : Sg) (w : World) (args' : Array Value), Inv P B σ s w → VRs σ args args'.toList → Calls P g args' w (CallRs P B σ s w L)
  yield : ∀ x args s L, call (.yield x) args s = some L → ∀ (σ : Sg) (w : World) (args' : Array Value) (b κ : Nat), Inv P B σ s w → σ x = some (b, κ) → VRs σ args args'.toList →
    ∃ fn tmps assign body, (Instr.yield b args').run P w = .ok (.round b fn tmps assign body) w ∧ RoundIn Fence.wide 0 P b fn tmps assign body w (CallRs P B σ s w L)
def clearS (P : Program) (s : St) (ts : List TypeId) (v : Value) : Option (Value × St) :=
  match ts, v with
  | t :: _, .slice (some ⟨x, o, none⟩) n c => if n = 0 then (if (P.underlying t).isSome then some (.tuple #[], s) else none) else match P.underlying t with
    | some (.slice e) => match zeroOf P e with
      | some (z, _, _) => if anyMark ≤ c then none else match s.h.get x with
        | some (.row ds e' room) =>
          let vs := (Builtin.zeroCells z.toArray n).toList
          if o + vs.length ≤ ds.length ∧ vs.all (·.oneCell') = true ∧ 0 < z.length then some (.tuple #[], ⟨s.next, s.h.set 40 x (some (.row (splice ds o vs) e' room))⟩) else none
        | _ => none
      | none => none
    | _ => none
  | _, _ => none
theorem clearS_ok (hi : Inv P B σ s w) {ts : Array TypeId} {ty : TypeId} {v v' r : Value} {s' : St} (h : clearS P s ts.toList v = some (r, s')) (hv : VR σ v v') :
    ∃ w', (Builtin.clear_ ts ty #[v']).run P w = .ok r w' ∧ VR σ r r ∧ Stp P B σ s w σ s' w' := by
  unfold clearS at h
  split at h
  · rename_i t tr x o n c hts
    have ht0 : ts[0]? = some t := by rw [← Array.getElem?_toList, hts]; rfl
    split at h
    · rename_i hn0
      split at h
      · rename_i hd
        obtain ⟨d, hd⟩ := Option.isSome_iff_exists.1 hd
        cases h
        subst hn0
        refine ⟨w, ?_, .tuple _ _ rfl (fun i v v' h => by simp at h), Stp.refl hi⟩
        cases hv <;> simp [Builtin.clear_, ht0, run_underlying hd]
      · cases h
    · rename_i hn0
      split at h
      · rename_i e hut
        split at h
        · rename_i z n1 n2 hz
          obtain ⟨i, zv, g1, g2, g3, g4, g5, g6⟩ := zeroOf_spec hz
          split at h
          · cases h
          · rename_i hany
            cases hv with
            | empty _ _ _ _ hc => exact absurd hc hany
            | sl _ _ _ _ b κ c' hx hc _ hn =>
            split at h
            · rename_i ds e' room hg
              simp only [] at h
              split at h
              · rename_i hb
                cases h
                have hvs : VRs σ (Builtin.zeroCells z.toArray n).toList (Builtin.zeroCells z.toArray n).toList := vrs_map_range z (g6 σ) hb.2.2 _
                refine ⟨_, ?_, .tuple _ _ rfl (fun i v v' h => by simp at h), write_stp hi hg hx hvs hb.1⟩
                have hr := write_run hi hg hx hvs hb.1 hb.2.1
                have hzz : z.toArray = zv.cells := by rw [← g3]
                rw [hzz] at hr ⊢
                have hne : n ≠ 0 := hn0
                cases n with
                | zero => exact absurd rfl hne
                | succ n => simp [Builtin.clear_, ht0, run_underlying hut, zeroValue, typeInfo, g1, g2, hr]
              · cases h
            · cases h
        · cases h
      · cases h
  · cases h
end
end
end Go.Proofs.YtimlldedpbbeoaaGreat
