/- The abstract run: code, and functions. -/
import Derived.Test.YtghhmannenjchaaXJ
import Derived.LoopN
import Derived.Scope
namespace Go.Proofs.Ytghhmannenjchaa
open Go.RowKit

abbrev CallF := Nat → List Value → St → Option (Value × St)
abbrev DrawF := CallF → Nat → Array Oper → Tr Value → St → Option (Tr Value × St)
inductive Ex where
  | normal
  | exit (id : Nat)
  | ret
def Ex.to : Ex → Exit
  | .normal => .normal
  | .exit id => .exit id
  | .ret => .ret
def DrawOK (P : Program) (draw : DrawF) : Prop := ∀ (call : CallF), CallOK P call → ∀ (N : Nat) (id : Nat) (ops : Array Oper) (T : Tr Value) (s : St) (T' : Tr Value) (s' : St), draw call N ops T s = some (T', s') →
  ∀ (B : Nat) (σ : Sg) (w : World) (a : Act) (Q : Exit → Act → World → Prop), Inv P B σ s w → TR σ N T a → (∀ a' w', Left P B σ s w N T' s' a' w' → Q .normal a' w') → (Code.region id ops true).wp P Q a w
def codeS (draw : DrawF) (call : CallF) (P : Program) (N : Nat) : Nat → Code → Tr Value → St → Option (Ex × Tr Value × St)
  | 0, _, _, _ => none
  | k + 1, c, T, s =>
    match c with
    | .skip => some (.normal, T, s)
    | .region _ ops false => match seqS call P N ops ops.toList T s with
      | some (T', s') => some (.normal, T', s')
      | none => none
    | .region _ ops true => match draw call N ops T s with
      | some (T', s') => some (.normal, T', s')
      | none => none
    | .seq x y => match codeS draw call P N k x T s with
      | some (.normal, T', s') => codeS draw call P N k y T' s'
      | r => r
    | .cond c x y => match ev T c with
      | some (.bool true) => codeS draw call P N k x T s
      | some (.bool false) => codeS draw call P N k y T s
      | _ => none
    | .block id x => match codeS draw call P N k x T s with
      | some (.exit id', T', s') => if id' = id then some (.normal, T', s') else some (.exit id', T', s')
      | r => r
    | .loop x => match codeS draw call P N k x T s with
      | some (.normal, T', s') => codeS draw call P N k (.loop x) T' s'
      | r => r
    | .scope x => codeS draw call P N k x T s
    | .label _ => some (.normal, T, s)
    | .exit id => some (.exit id, T, s)
    | .ret => some (.ret, T, s)
    | _ => none
section
variable {P : Program} {B : Nat}
theorem code_ok {draw : DrawF} (hdraw : DrawOK P draw) {call : CallF} (hcall : CallOK P call) {N : Nat} : ∀ (k : Nat),
    (∀ (c : Code) {σ : Sg} {s : St} {w : World} {T : Tr Value} {a : Act} {ex : Ex} {T' : Tr Value} {s' : St} {Q : Exit → Act → World → Prop}, codeS draw call P N k c T s = some (ex, T', s') → Inv P B σ s w → TR σ N T a →
      (∀ a' w', Left P B σ s w N T' s' a' w' → Q ex.to a' w') → c.wp P Q a w) ∧
    (∀ (c : Code) {σ : Sg} {s : St} {w : World} {T : Tr Value} {a : Act} {ex : Ex} {T' : Tr Value} {s' : St} {Q : Exit → Act → World → Prop}, codeS draw call P N k (.loop c) T s = some (ex, T', s') → Inv P B σ s w → TR σ N T a →
      (∀ a' w', Left P B σ s w N T' s' a' w' → Q ex.to a' w') → Code.rounds P c Q k a w)
  | 0 => ⟨fun c => fun h => (nomatch h), fun c => fun h => (nomatch h)⟩
  | k + 1 => by
    have ih := code_ok hdraw hcall (N := N) k
    have loop : ∀ (c : Code) {σ : Sg} {s : St} {w : World} {T : Tr Value} {a : Act} {ex : Ex} {T' : Tr Value} {s' : St} {Q : Exit → Act → World → Prop}, codeS draw call P N (k + 1) (.loop c) T s = some (ex, T', s') → Inv P B σ s w → TR σ N T a →
        (∀ a' w', Left P B σ s w N T' s' a' w' → Q ex.to a' w') → Code.rounds P c Q (k + 1) a w := by
      intro c σ s w T a ex T' s' Q h hi ht hQ
      rw [rounds_succ]
      simp only [codeS] at h
      split at h
      · rename_i T1 s1 h1
        refine ih.1 c h1 hi ht fun a1 w1 hl => ?_
        obtain ⟨τ, q1, q2⟩ := hl
        refine ih.2 c h q2.inv q1 fun a' w' hl => ?_
        obtain ⟨υ, r1, r2⟩ := hl
        exact hQ a' w' ⟨υ, r1, q2.trans r2⟩
      · rename_i hne
        refine ih.1 c h hi ht fun a1 w1 hl => ?_
        cases ex with
        | normal => exact absurd h (hne _ _)
        | exit id => exact hQ a1 w1 hl
        | ret => exact hQ a1 w1 hl
    refine ⟨?_, loop⟩
    intro c σ s w T a ex T' s' Q h hi ht hQ
    cases c with
    | skip => cases h; exact wp_skip (hQ _ _ ⟨σ, ht, Stp.refl hi⟩)
    | region id ops draw =>
      cases draw with
      | false =>
        simp only [codeS] at h
        split at h
        · rename_i T1 s1 h1
          cases h
          exact wp_region_list (seq_ok hcall _ hi ht h1 hQ)
        · cases h
      | true =>
        simp only [codeS] at h
        split at h
        · rename_i T1 s1 h1
          cases h
          exact hdraw call hcall N id ops T s _ _ h1 B σ w a Q hi ht hQ
        · cases h
    | seq x y =>
      refine wp_seq ?_
      simp only [codeS] at h
      split at h
      · rename_i T1 s1 h1
        refine ih.1 x h1 hi ht fun a1 w1 hl => ?_
        obtain ⟨τ, q1, q2⟩ := hl
        refine ih.1 y h q2.inv q1 fun a' w' hl => ?_
        obtain ⟨υ, r1, r2⟩ := hl
        exact hQ a' w' ⟨υ, r1, q2.trans r2⟩
      · rename_i hne
        refine ih.1 x h hi ht fun a1 w1 hl => ?_
        cases ex with
        | normal => exact absurd h (hne _ _)
        | exit id => exact hQ a1 w1 hl
        | ret => exact hQ a1 w1 hl
    | cond c x y =>
      simp only [codeS] at h
      split at h
      · rename_i hc
        have q := ev_ok ht hc
        have hv : a.eval c = .bool true := by
          generalize a.eval c = v at q ⊢
          cases q; rfl
        exact wp_cond_true hv (ih.1 x h hi ht hQ)
      · rename_i hc
        have q := ev_ok ht hc
        have hv : a.eval c = .bool false := by
          generalize a.eval c = v at q ⊢
          cases q; rfl
        exact wp_cond_false hv (ih.1 y h hi ht hQ)
      · cases h
    | block id x =>
      refine wp_block ?_
      simp only [codeS] at h
      split at h
      · rename_i id' T1 s1 h1
        refine ih.1 x h1 hi ht fun a1 w1 hl => ?_
        split at h
        · rename_i he
          cases h
          simp only [Ex.to, Exit.inBlock, he, if_true]
          exact hQ a1 w1 hl
        · rename_i he
          cases h
          simp only [Ex.to, Exit.inBlock, he, if_false]
          exact hQ a1 w1 hl
      · rename_i hne
        refine ih.1 x h hi ht fun a1 w1 hl => ?_
        cases ex with
        | normal => exact hQ a1 w1 hl
        | exit id => exact absurd h (hne _ _ _)
        | ret => exact hQ a1 w1 hl
    | loop x => exact wp_loop_rounds (k + 1) (loop x h hi ht hQ)
    | exit id => cases h; exact wp_exit (hQ _ _ ⟨σ, ht, Stp.refl hi⟩)
    | ret => cases h; exact wp_ret (hQ _ _ ⟨σ, ht, Stp.refl hi⟩)
    | scope x =>
      refine wp_scope_straight ?_
      simp only [codeS] at h
      refine ih.1 x h hi ht fun a1 w1 hl => ?_
      cases ex <;> exact hQ a1 w1 hl
    | label l => cases h; exact wp_label (hQ _ _ ⟨σ, ht, Stp.refl hi⟩)
    | _ => cases h
/-- What a function hands back. -/
def resV (P : Program) (T : Tr Value) (h : Tr AObj) : List ResultVar → Option (List Value)
  | [] => some []
  | .tmp t :: r => match T.get t, resV P T h r with
    | some v, some vs => some (v :: vs)
    | _, _ => none
  | .cell p t :: r => match T.get p with
    | some (.pointer (some a)) => match loadV P h t (.pointer (some a)), resV P T h r with
      | some v, some vs => some (v :: vs)
      | _, _ => none
    | _ => none
def outV : List Value → Value
  | [v] => v
  | vs => .tuple vs.toArray
def args0 : Nat → List Value → Tr Value
  | _, [] => .leaf
  | i, v :: r => (args0 (i + 1) r).set 40 i (some v)
def funcS (draw : DrawF) (P : Program) (fuel : Nat) : Nat → CallF
  | 0, _, _, _ => none
  | d + 1, f, args, s =>
    match P.funcs[f]? with
    | some fn => match fn.body with
      | some c =>
        if fn.ntmps < args.length then none else
        match codeS draw (funcS draw P fuel d) P fn.ntmps fuel c (args0 0 args) s with
        | some (.normal, T, s') | some (.ret, T, s') => match resV P T s'.h fn.results.toList with
          | some vs => some (outV vs, s')
          | none => none
        | _ => none
      | none => none
    | none => none
theorem args0_get : ∀ (l : List Value) (i t : Nat), (args0 i l).get t = if i ≤ t then l[t - i]? else none
  | [], i, t => by simp [args0, Tr.get]
  | v :: r, i, t => by
    unfold args0
    rw [Tr.get_set, args0_get r (i + 1) t]
    by_cases h : t = i
    · subst h; simp
    · rw [if_neg h]
      by_cases h2 : i ≤ t
      · rw [if_pos h2, if_pos (by omega), show t - i = (t - (i + 1)) + 1 by omega, List.getElem?_cons_succ]
      · rw [if_neg h2, if_neg (by omega)]
theorem args0_ok {σ : Sg} {l : List Value} {args : Array Value} (h : VRs σ l args.toList) {N : Nat} (hN : l.length ≤ N) : TR σ N (args0 0 l) { tmps := args ++ Array.replicate (N - args.size) undef, defers := [] } := by
  have hs : l.length = args.size := by have := h.1; simpa using this
  refine ⟨by simp; omega, rfl, fun t v hv => ?_⟩
  rw [args0_get, if_pos (Nat.zero_le _), Nat.sub_zero] at hv
  obtain ⟨v', h1, h2⟩ := h.get hv
  have ht : t < args.size := by
    have := (List.getElem?_eq_some_iff.1 h1).1
    simpa using this
  refine ⟨v', ?_, h2⟩
  rw [Array.getElem?_append_left ht, ← Array.getElem?_toList]
  exact h1
def resSem (tmps : Array Value) : ResultVar → Sem Value
  | .tmp t => pure (tmps.getD t undef)
  | .cell p t => do loadVar t (← asAddr (tmps.getD p undef))
theorem results_eq (fn : Func) (tmps : Array Value) : results fn tmps = (do
    let vs ← fn.results.mapM (resSem tmps)
    pure (if h : vs.size = 1 then vs[0] else .tuple vs)) := by
  have : (fun x => match x with | ResultVar.tmp t => (pure (tmps.getD t undef) : Sem Value) | .cell a t => do loadVar t (← asAddr (tmps.getD a undef))) = resSem tmps := by
    funext x; cases x <;> rfl
  unfold results
  rw [← this]
  rfl
theorem resV_ok {σ : Sg} {s : St} {w : World} (hi : Inv P B σ s w) {N : Nat} {T : Tr Value} {a : Act} (ht : TR σ N T a) : ∀ {l : List ResultVar} {vs : List Value}, resV P T s.h l = some vs →
    ∃ vs', (l.mapM (resSem a.tmps)).run P w = .ok vs' w ∧ VRs σ vs vs'
  | [], vs, h => by
    cases h
    exact ⟨[], by simp, VRs.nil _⟩
  | .tmp t :: r, vs, h => by
    unfold resV at h
    split at h
    · rename_i v vs1 h1 h2
      cases h
      obtain ⟨vs', q1, q2⟩ := resV_ok hi ht h2
      obtain ⟨v', q3, q4⟩ := ht.at_ t v h1
      have e : a.tmps.getD t undef = v' := by simp [Array.getD_eq_getD_getElem?, q3]
      refine ⟨v' :: vs', ?_, VRs.cons q4 q2⟩
      rw [List.mapM_cons, Sem.run_bind]
      simp only [resSem, Sem.run_pure, Result.andThen_ok, Sem.run_bind, e]
      rw [q1]
      rfl
    · cases h
  | .cell p t :: r, vs, h => by
    unfold resV at h
    split at h
    · rename_i ad h0
      split at h
      · rename_i v vs1 h1 h2
        cases h
        obtain ⟨vs', q1, q2⟩ := resV_ok hi ht h2
        obtain ⟨p', q3, q4⟩ := ht.at_ p _ h0
        obtain ⟨v', q5, q6⟩ := loadV_ok hi h1 q4
        have e : a.tmps.getD p undef = p' := by simp [Array.getD_eq_getD_getElem?, q3]
        refine ⟨v' :: vs', ?_, VRs.cons q6 q2⟩
        rw [List.mapM_cons, Sem.run_bind]
        cases q4 with
        | ptr x o b c hx =>
          have q5' : (loadVar t ⟨b, o, none⟩).run P w = .ok v' w := q5
          have e2 : (asAddr (Value.pointer (some ⟨b, o, none⟩))).run P w = .ok ⟨b, o, none⟩ w := rfl
          simp only [resSem, e, Sem.run_bind, e2, Result.andThen_ok, q5', Sem.run_pure]
          rw [q1]
          rfl
      · cases h
    · cases h
theorem outV_ok {σ : Sg} {vs : List Value} {vs' : List Value} (h : VRs σ vs vs') : VR σ (outV vs) (if h : vs'.toArray.size = 1 then vs'.toArray[0] else .tuple vs'.toArray) := by
  cases vs with
  | nil =>
    have : vs' = [] := List.eq_nil_of_length_eq_zero h.1.symm
    subst this
    exact .tuple _ _ rfl (fun i v v' h => by simp at h)
  | cons v r =>
    obtain ⟨v', r', rfl, h1, h2⟩ := h.uncons
    cases r with
    | nil =>
      have : r' = [] := List.eq_nil_of_length_eq_zero h2.1.symm
      subst this
      exact h1
    | cons u r2 =>
      have hl := h2.1
      rw [dif_neg (by simp at hl ⊢; intro e; rw [e] at hl; simp at hl)]
      exact VR.tuple' (VRs.cons h1 h2)
theorem func_ok {draw : DrawF} (hdraw : DrawOK P draw) (fuel : Nat) : ∀ d : Nat, CallOK P (funcS draw P fuel d)
  | 0 => fun f args s v s' h => nomatch h
  | d + 1 => by
    intro f args s v s' h B σ w args' hi hargs
    unfold funcS at h
    split at h
    · rename_i fn hf
      split at h
      · rename_i c hb
        split at h
        · cases h
        · rename_i hN
          have hN : args.length ≤ fn.ntmps := by omega
          refine calls_of_wp hf hb ?_
          have fin : ∀ {T : Tr Value} {s1 : St} {vs : List Value}, resV P T s1.h fn.results.toList = some vs → outV vs = v → s1 = s' → ∀ a' w', Left P B σ s w fn.ntmps T s1 a' w' → a'.defers = [] ∧ ∃ v1, (results fn a'.tmps).run P w' = .ok v1 w' ∧ ∃ v' τ, Ending.returned v1 = .returned v' ∧ VR τ v v' ∧ Stp P B σ s w τ s' w' := by
            rintro T s1 vs hr rfl rfl a' w' ⟨τ, q1, q2⟩
            obtain ⟨vs', r1, r2⟩ := resV_ok q2.inv q1 hr
            refine ⟨q1.defers, _, ?_, _, τ, rfl, outV_ok r2, q2⟩
            rw [results_eq, Sem.run_bind, Array.mapM_eq_mapM_toList, Sem.run_map, r1]
            rfl
          split at h
          · rename_i T s1 hc
            split at h
            · rename_i vs hr
              cases h
              exact (code_ok hdraw (func_ok hdraw fuel d) fuel).1 c hc hi (args0_ok hargs hN) (fin hr rfl rfl)
            · cases h
          · rename_i T s1 hc
            split at h
            · rename_i vs hr
              cases h
              exact (code_ok hdraw (func_ok hdraw fuel d) fuel).1 c hc hi (args0_ok hargs hN) (fin hr rfl rfl)
            · cases h
          · cases h
      · cases h
    · cases h
/-- A call without arguments, in any world. -/
theorem closed_call {draw : DrawF} (hdraw : DrawOK P draw) {fuel d f : Nat} {v : Value} {s' : St} (h : funcS draw P fuel d f [] ⟨0, .leaf⟩ = some (v, s')) (w : World) :
    Calls P f #[] w fun e w' => ∃ v' τ, e = .returned v' ∧ VR τ v v' ∧ Below w.heap.size w w' := by
  have hi : Inv P w.heap.size (fun _ => none) ⟨0, .leaf⟩ w := ⟨Nat.le_refl _, fun _ _ => rfl, fun x o h => (nomatch h), fun x y o o' b κ κ' h => (nomatch h)⟩
  refine (func_ok hdraw fuel d f [] _ v s' h _ _ w #[] hi (VRs.nil _)).mono ?_
  rintro e w' ⟨v', τ, rfl, h1, h2⟩
  exact ⟨v', τ, rfl, h1, h2.fr.below (Nat.le_refl _) (fun k _ hf => by obtain ⟨x, o, κ, h3, _⟩ := hf; cases h3)⟩
theorem closed_true {draw : DrawF} (hdraw : DrawOK P draw) {fuel d f : Nat} (h : (match funcS draw P fuel d f [] ⟨0, .leaf⟩ with | some (.bool b, _) => b | _ => false) = true) (w : World) :
    Calls P f #[] w fun e w' => e = .returned (.bool true) ∧ Below w.heap.size w w' := by
  split at h
  · rename_i b s' hf
    subst h
    refine (closed_call hdraw hf w).mono ?_
    rintro e w' ⟨v', τ, rfl, h1, h2⟩
    cases h1
    exact ⟨rfl, h2⟩
  · cases h
end
end Go.Proofs.Ytghhmannenjchaa
