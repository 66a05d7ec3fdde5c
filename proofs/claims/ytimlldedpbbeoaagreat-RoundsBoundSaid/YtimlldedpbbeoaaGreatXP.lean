/- The abstract run from the midst of a function on; rows that stand there already. -/
import Derived.Test.YtimlldedpbbeoaaGreatXO
namespace Go.Proofs.YtimlldedpbbeoaaGreat
open Go.RowKit
noncomputable section

def retTrue (r : Nat) (T : Tr Value) : Bool := match T.get r with
  | some (.bool b) => b
  | _ => false
def tailOK (r : Nat) (x : Option (List (Ex × Tr Value × St))) : Bool := match x with
  | some l => l.all fun q => match q.1 with
    | .exit _ => false
    | _ => retTrue r q.2.1
  | none => false
section
variable {P : Program} {B : Ctx} {σ : Sg} {s : St} {w : World}
/-- What is left of a function hands back true. -/
theorem tail_wp {ov : OvF} (hov : OvOK P B ov) {fn : Func} {r : Nat} (hres : fn.results = #[.tmp r]) {fuel d N : Nat} {T : Tr Value} {a : Act} {c : Code} (h : tailOK r (codeS false (drawS P) (funcS ov (drawS P) P fuel d) P N none 0 fuel [] c T s) = true) (hi : Inv P B σ s w) (ht : TR [] σ N T a)
    {R : Ending → World → Prop} (hR : ∀ w', Below B.w.heap.size B.w w' → R (.returned (.bool true)) w') : c.wp P (bodyPost P fn R) a w := by
  have fin : ∀ {T' : Tr Value} {s' : St}, retTrue r T' = true → ∀ a' w', LeftC P B false [] w.heap.size σ s w N T' s' a' w' → a'.defers = [] ∧ ∃ v, (results fn a'.tmps).run P w' = .ok v w' ∧ R (.returned v) w' := by
    rintro T' s' hr a' w' ⟨τ, ds, q1, _, q2, q3⟩
    unfold retTrue at hr
    split at hr
    · rename_i b hb
      subst hr
      obtain ⟨v', h1, h2⟩ := q1.at_ r _ hb
      cases h2
      have e : a'.tmps.getD r undef = .bool true := by simp [Array.getD_eq_getD_getElem?, h1]
      exact ⟨by rw [q1.defers, q3 rfl], .bool true, by rw [results_tmp hres, e], hR w' q2.inv.base⟩
    · cases hr
  unfold tailOK at h
  split at h
  · rename_i l hc
    refine (wpIn_wide (n := 0)).1 ((code_ok (draw_ok P) (func_ok hov (draw_ok P) fuel d) (rd := none) (ρ := none) (lo := w.heap.size) (fu := 0) fuel).1 [] c hc (fun h => (nomatch h)) hi ht Marks.nil (Nat.le_refl _) rfl fun q hq a' w' hl => ?_)
    have := List.all_eq_true.1 h q hq
    obtain ⟨ex, T', s'⟩ := q
    cases ex with
    | exit id => simp at this
    | normal => exact fin this a' w' hl
    | ret => exact fin this a' w' hl
  · cases h
theorem inv_none {ext : Nat → Value} {w0 w : World} {rd : Rds ext w0} (hB : Below w0.heap.size w0 w) : Inv P (ctx0 ext w0 rd) (ctx0 ext w0 rd).σ ⟨0, .leaf⟩ w := ⟨hB, Sg.le_refl _, fun _ _ => rfl, fun _ _ h => (nomatch h), fun _ _ _ _ _ _ _ h => (nomatch h)⟩
/-- A row that stands there already, under a new name. -/
theorem inv_row (hi : Inv P B σ s w) {b : Nat} {cs : List Value} {cs' : Array Value} {e : TypeId} (hb : w.heap[b]? = some (.cells cs' e (0, 0))) (hB : B.w.heap.size ≤ b) (hnew : ∀ x o κ, s.h.get x = some o → σ x ≠ some (b, κ)) (hv : VRs (σ.put s.next b 0) cs cs'.toList) :
    Inv P B (σ.put s.next b 0) ⟨s.next + 1, s.h.set 40 s.next (some (rowOf cs e))⟩ w := by
  have hx := hi.dom s.next (Nat.le_refl _)
  refine ⟨hi.base, Sg.le_trans hi.own (Sg.le_put hx), fun y hy => ?_, fun y o h => ?_, fun y z o o' b1 κ1 κ2 h1 h2 h3 h4 => ?_⟩
  · rw [Sg.put_other (by simp only [] at hy; omega)]; exact hi.dom y (by simp only [] at hy; omega)
  · simp only [Tr.get_set] at h
    split at h
    · rename_i he
      subst he
      cases h
      refine ⟨b, 0, Sg.put_same .., hB, ?_⟩
      have := rowOf_ok (P := P) hv e
      rw [hb]
      simpa using this
    · rename_i hne
      obtain ⟨b1, κ1, q1, q2, q3⟩ := hi.live y o h
      exact ⟨b1, κ1, by rw [Sg.put_other hne]; exact q1, q2, q3.mono (Sg.le_put hx)⟩
  · simp only [Tr.get_set] at h1 h2
    by_cases hy : y = s.next
    · subst hy
      rw [Sg.put_same] at h3
      simp only [Option.some.injEq, Prod.mk.injEq] at h3
      obtain ⟨rfl, rfl⟩ := h3
      by_cases hz : z = s.next
      · exact hz.symm
      · rw [if_neg hz] at h2
        rw [Sg.put_other hz] at h4
        exact absurd h4 (hnew z _ κ2 h2)
    · rw [if_neg hy] at h1
      rw [Sg.put_other hy] at h3
      by_cases hz : z = s.next
      · subst hz
        rw [Sg.put_same] at h4
        simp only [Option.some.injEq, Prod.mk.injEq] at h4
        obtain ⟨rfl, rfl⟩ := h4
        exact absurd h3 (hnew y _ κ1 h1)
      · rw [if_neg hz] at h2
        rw [Sg.put_other hz] at h4
        exact hi.inj y z _ _ b1 κ1 κ2 h1 h2 h3 h4
def junk (n : Nat) : List Value := List.replicate n (.chan none)
theorem junk_vrs (τ : Sg) {n : Nat} {cs : List Value} (hl : cs.length = n) (h : ∀ v ∈ cs, v.oneCell' = true) : VRs τ (junk n) cs := by
  refine ⟨by simp [junk, hl], fun i v v' a b => ?_⟩
  unfold junk at a
  rw [List.getElem?_replicate] at a
  split at a
  · cases a
    exact .any v' (h v' (List.mem_of_getElem? b))
  · cases a
/-- Two rows of which nothing is looked at. -/
theorem inv_two {ext : Nat → Value} {w0 w : World} {rd : Rds ext w0} {b0 b1 n0 n1 : Nat} {c0 c1 : Array Value} {e0 e1 : TypeId} (h0 : w.heap[b0]? = some (.cells c0 e0 (0, 0))) (h1 : w.heap[b1]? = some (.cells c1 e1 (0, 0))) (hB0 : w0.heap.size ≤ b0) (hB1 : w0.heap.size ≤ b1) (hne : b0 ≠ b1) (l0 : c0.size = n0) (l1 : c1.size = n1) (o0 : ∀ v ∈ c0.toList, v.oneCell' = true) (o1 : ∀ v ∈ c1.toList, v.oneCell' = true) (hB : Below w0.heap.size w0 w) :
    Inv P (ctx0 ext w0 rd) (Sg.put (Sg.put (ctx0 ext w0 rd).σ 0 b0 0) 1 b1 0) ⟨2, ((Tr.leaf : Tr AObj).set 40 0 (some (rowOf (junk n0) e0))).set 40 1 (some (rowOf (junk n1) e1))⟩ w := by
  have i0 := inv_none (P := P) (ext := ext) (rd := rd) hB
  have i1 := inv_row i0 h0 hB0 (fun x o κ h => nomatch h) (junk_vrs _ (by simpa using l0) o0)
  exact inv_row i1 h1 hB1 (fun x o κ h he => by
    by_cases hx : x = 0
    · subst hx
      simp [Sg.put] at he
      exact hne he.1
    · simp [Sg.put, hx, ctx0] at he) (junk_vrs _ (by simpa using l1) o1)
end
/-- Slots that are known. -/
def slots (l : List (Nat × Value)) : Tr Value := l.foldr (fun x T => T.set 40 x.1 (some x.2)) .leaf
theorem slots_tr {σ : Sg} {N : Nat} {a : Act} (hs : a.tmps.size = N) (hd : a.defers = []) : ∀ {l : List (Nat × Value)}, (∀ x ∈ l, ∃ v', a.tmps[x.1]? = some v' ∧ VR σ x.2 v') → TR [] σ N (slots l) a
  | [], _ => ⟨hs, hd, fun t v h => nomatch h⟩
  | x :: l, h => by
    have ih := slots_tr hs hd (l := l) fun y hy => h y (List.mem_cons_of_mem _ hy)
    refine ⟨hs, hd, fun t v hv => ?_⟩
    simp only [slots, List.foldr_cons, Tr.get_set] at hv
    split at hv
    · rename_i he
      subst he
      cases hv
      exact h x List.mem_cons_self
    · exact ih.at_ t v hv
end
end Go.Proofs.YtimlldedpbbeoaaGreat
