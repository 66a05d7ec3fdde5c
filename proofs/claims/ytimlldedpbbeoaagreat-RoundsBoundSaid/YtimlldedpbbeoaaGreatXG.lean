/- The abstract run: what makes a block, what writes cells. -/
import Derived.Test.YtimlldedpbbeoaaGreatXF
import Derived.Test.YtimlldedpbbeoaaGreatCE
import Derived.Laws.MakeOwn
namespace Go.Proofs.YtimlldedpbbeoaaGreat
open Go.RowKit
noncomputable section

def Sg.put (σ : Sg) (x b κ : Nat) : Sg := ⟨fun y => if y = x then some (b, κ) else σ y, σ.ext⟩
theorem Sg.put_same (σ : Sg) (x b κ : Nat) : σ.put x b κ x = some (b, κ) := by simp [Sg.put]
theorem Sg.put_other {σ : Sg} {x y b κ : Nat} (h : y ≠ x) : σ.put x b κ y = σ y := by simp [Sg.put, h]
theorem Sg.le_put {σ : Sg} {x b κ : Nat} (h : σ x = none) : σ.le (σ.put x b κ) := by
  refine ⟨fun y v q => ?_, rfl⟩
  by_cases hy : y = x
  · subst hy; rw [h] at q; cases q
  · rw [Sg.put_other hy]; exact q
section
variable {P : Program} {B : Ctx} {σ : Sg} {s : St} {w : World}
theorem Inv.lt (hi : Inv P B σ s w) {x : Nat} {o : AObj} (h : s.h.get x = some o) {b κ : Nat} (hx : σ x = some (b, κ)) : b < w.heap.size := by
  obtain ⟨b1, κ1, q1, _, q2⟩ := hi.live x o h
  rw [hx] at q1; cases q1
  cases o with
  | row cs e room => obtain ⟨cur, q3, _⟩ := q2; exact lt_of_block q3
  | map es c => obtain ⟨cur, q3, _⟩ := q2; exact lt_of_block q3
  | iter m since seen last => obtain ⟨cur, q3, _⟩ := q2; exact lt_of_block q3
  | chan cp buf => obtain ⟨cur, _, _, q3, _⟩ := q2; exact lt_of_block q3
  | loop st pend T f rp => obtain ⟨cur, _, _, _, _, q3, _⟩ := q2; exact lt_of_block q3
/-- A new block under a fresh name. -/
theorem inv_add (hi : Inv P B σ s w) {x : Nat} (hx : σ x = none) {ob : AObj} {obj : Obj} {κ : Nat} (ho : ObjR P (σ.put x w.heap.size κ) κ ob (some obj)) {t : St} (hg : ∀ y, t.h.get y = if y = x then some ob else s.h.get y) (hn : s.next ≤ t.next) (hxn : x < t.next) :
    Inv P B (σ.put x w.heap.size κ) t (w.alloc obj) := by
  refine ⟨hi.base.alloc hi.base.size _, Sg.le_trans hi.own (Sg.le_put hx), fun y hy => ?_, fun y o h => ?_, fun y z o o' b κ1 κ2 h1 h2 h3 h4 => ?_⟩
  · rw [Sg.put_other (by omega)]; exact hi.dom y (by omega)
  · rw [hg] at h
    split at h
    · rename_i he
      subst he
      cases h
      exact ⟨w.heap.size, κ, Sg.put_same .., hi.base.size, by rw [alloc_new]; exact ho⟩
    · rename_i hne
      obtain ⟨b, κ1, q1, q2, q3⟩ := hi.live y o h
      refine ⟨b, κ1, by rw [Sg.put_other hne]; exact q1, q2, ?_⟩
      have : (w.alloc obj).heap[b]? = w.heap[b]? := Below.heap_alloc _ _ _ (hi.lt h q1)
      rw [this]
      exact q3.mono (Sg.le_put hx)
  · rw [hg] at h1 h2
    by_cases hy : y = x
    · subst hy
      rw [Sg.put_same] at h3
      cases h3
      by_cases hz : z = y
      · exact hz.symm
      · rw [if_neg hz] at h2
        rw [Sg.put_other hz] at h4
        have := hi.lt h2 h4
        omega
    · rw [if_neg hy] at h1
      rw [Sg.put_other hy] at h3
      by_cases hz : z = x
      · subst hz
        rw [Sg.put_same] at h4
        cases h4
        have := hi.lt h1 h3
        omega
      · rw [if_neg hz] at h2
        rw [Sg.put_other hz] at h4
        exact hi.inj y z o o' b κ1 κ2 h1 h2 h3 h4
theorem stp_add (hi : Inv P B σ s w) {ob : AObj} {obj : Obj} {κ : Nat} (ho : ObjR P (σ.put s.next w.heap.size κ) κ ob (some obj)) :
    Stp P B σ s w (σ.put s.next w.heap.size κ) ⟨s.next + 1, s.h.set 40 s.next (some ob)⟩ (w.alloc obj) := by
  have hx := hi.dom s.next (Nat.le_refl _)
  refine ⟨inv_add hi hx ho (fun y => Tr.get_set 40 _ _ _ _) (Nat.le_succ _) (Nat.lt_succ_self _), fun y hy => Sg.put_other (by omega), Nat.le_succ _, (Fr.refl _ _).alloc _, fun b hb hf => ?_, fun x hx hn => by simp only [Tr.get_set]; rw [if_neg (by omega)]; exact hn, rfl⟩
  obtain ⟨y, o, κ1, h1, h2⟩ := hf
  simp only [Tr.get_set] at h1
  split at h1
  · rename_i he
    subst he
    rw [Sg.put_same] at h2
    cases h2
    exact absurd hb (Nat.lt_irrefl _)
  · rename_i hne
    rw [Sg.put_other hne] at h2
    exact ⟨y, o, κ1, h1, h2⟩
/-- What an allocation makes, under the name x. -/
def zeroOf (P : Program) (e : TypeId) : Option (List Value × Nat × Nat) :=
  match P.info? e with
  | some i => match i.zero with
    | some z => if flat 9 (.agg z.cells) then some (z.cells.toList, i.size, i.bytes) else none
    | none => none
  | none => none
theorem zeroOf_spec {e : TypeId} {z : List Value} {n m : Nat} (h : zeroOf P e = some (z, n, m)) : ∃ i v, P.info? e = some i ∧ i.zero = some v ∧ v.cells.toList = z ∧ i.size = n ∧ i.bytes = m ∧ ∀ σ : Sg, VRs σ z z := by
  unfold zeroOf at h
  split at h
  · rename_i i hi
    split at h
    · rename_i v hv
      split at h
      · rename_i hf
        cases h
        refine ⟨i, v, hi, hv, rfl, rfl, rfl, fun σ => ?_⟩
        obtain ⟨c', h1, h2⟩ := (flat_vr (σ := σ) 9 _ hf).of_agg
        cases h1; exact h2
      · cases h
    · cases h
  · cases h
def zeroC (P : Program) (e : TypeId) : Option (List Value) :=
  match P.info? e with
  | some i => match i.zero with
    | some z => if z.cells.toList.all flatC then some (z.cells.toList.map absC) else none
    | none => none
  | none => none
theorem zeroC_spec {e : TypeId} {z : List Value} (h : zeroC P e = some z) : ∃ i v, P.info? e = some i ∧ i.zero = some v ∧ ∀ σ : Sg, VRs σ z v.cells.toList := by
  unfold zeroC at h
  split at h
  · rename_i i hi
    split at h
    · rename_i v hv
      split at h
      · rename_i hf
        cases h
        exact ⟨i, v, hi, hv, fun σ => absC_vrs hf⟩
      · cases h
    · cases h
  · cases h
def rowOf (cs : List Value) (e : TypeId) : AObj := .row cs e (some cs.length)
theorem rowOf_ok {τ : Sg} {cs cs' : List Value} (h : VRs τ cs cs') (e : TypeId) : ObjR P τ 0 (rowOf cs e) (some (.cells cs'.toArray e (0, 0))) :=
  ⟨cs'.toArray, rfl, by simp [h.1], by rw [h.1]; simpa using h, Nat.zero_le _, by simp [h.1]⟩
def allocV (P : Program) (o : Op) (T : Tr Value) (x : Nat) : Option (Value × AObj) :=
  match o with
  | .alloc e => match zeroOf P e with
    | some (z, _, _) => some (.pointer (some ⟨x, 0, none⟩), rowOf z e)
    | none => match zeroC P e with
      | some z => some (.pointer (some ⟨x, 0, none⟩), rowOf z e)
      | none => none
  | .makeChan t l => match P.underlying t, ev T l with
    | some (.chan _ e), some (.int _ n) => match P.info? e with
      | some i => if 0 ≤ n ∧ n ≤ 9223372036854775807 ∧ (i.bytes : Int) * n ≤ 281474976710544 then some (.float .f32 (x + 1), .chan n.toNat []) else none
      | none => none
    | _, _ => none
  | .box e v => match ev T v with
    | some u => some (.pointer (some ⟨x, 0, none⟩), rowOf u.cells.toList e)
    | none => none
  | .buildSlice t len ps => match P.underlying t, evParts T ps.toList with
    | some (.slice e), some l => match zeroOf P e with
      | some (z, n, _) => if len * n > 2 ^ 24 ∨ grownMark ≤ len then none else
        match Instr.fill (fun i => some (i * n, n)) ((Array.range (len * n)).map (z.toArray[· % z.toArray.size]!)) l with
        | some cells => some (.slice (some ⟨x, 0, none⟩) len len, rowOf cells.toList e)
        | none => none
      | none => none
    | _, _ => none
  | .makeSlice t l c => match P.underlying t, ev T l, ev T c with
    | some (.slice e), some (.int _ l), some (.int _ c) => match zeroOf P e with
      | some (z, n, m) => if 0 ≤ l ∧ l ≤ c ∧ c.toNat * n ≤ 16777216 ∧ m * c ≤ 281474976710656 ∧ c ≤ 9223372036854775807 then some (.slice (some ⟨x, 0, none⟩) l.toNat c.toNat, rowOf (madeCells z.toArray (c.toNat * n)).toList e) else none
      | none => none
    | _, _, _ => none
  | .makeMap t r => match evo T r with
    | some none => some (.map (some x), .map [] 0)
    | some (some (.int _ _)) => match P.underlying t with
      | some (.map _ _) => some (.map (some x), .map [] 0)
      | _ => none
    | _ => none
  | _ => none
theorem vrs_map_range {σ : Sg} (z : List Value) (h : VRs σ z z) (hz : 0 < z.length) (n : Nat) : VRs σ ((Array.range n).map (z.toArray[· % z.toArray.size]!)).toList ((Array.range n).map (z.toArray[· % z.toArray.size]!)).toList := by
  refine ⟨rfl, fun i v v' a b => ?_⟩
  rw [a] at b; cases b
  rw [Array.getElem?_toList, Array.getElem?_map] at a
  cases hr : (Array.range n)[i]? with
  | none => rw [hr] at a; cases a
  | some j =>
    rw [hr] at a
    simp only [Option.map_some, Option.some.injEq] at a
    have hj : j % z.toArray.size < z.toArray.size := Nat.mod_lt _ (by simpa using hz)
    rw [getElem!_pos z.toArray _ hj] at a
    exact h.2 (j % z.toArray.size) v v (by rw [← a]; simp) (by rw [← a]; simp)
theorem alloc_ok {ds : List Deferred} {N : Nat} {T : Tr Value} {a : Act} (ht : TR ds σ N T a) {o : Oper} {x : Nat} {v : Value} {ob : AObj} (h : allocV P o.op T x = some (v, ob)) (w : World) :
    ∃ v' obj, (execOp a.eval o).run P w = .ok (.value v') (w.alloc obj) ∧ ∀ τ : Sg, σ.le τ → τ x = some (w.heap.size, 0) → VR τ v v' ∧ ObjR P τ 0 ob (some obj) := by
  unfold execOp
  generalize o.op = op at *
  cases op <;> simp only [allocV] at h <;> first | (cases h; done) | skip
  case alloc e =>
    split at h
    · rename_i z n m hz
      cases h
      obtain ⟨i, u, h1, h2, h3, h4, _, h5⟩ := zeroOf_spec hz
      refine ⟨.pointer (some ⟨w.heap.size, 0, none⟩), .cells u.cells e, ?_, fun τ _ hx => ⟨.ptr _ _ _ _ hx, ?_⟩⟩
      · simp [Instr.alloc, zeroValue, typeInfo, h1, h2, newVar, newRow]
      · have := rowOf_ok (P := P) (h5 τ) e
        rw [← h3] at this ⊢
        simpa using this
    · split at h
      · rename_i z hz
        cases h
        obtain ⟨i, u, h1, h2, h5⟩ := zeroC_spec hz
        refine ⟨.pointer (some ⟨w.heap.size, 0, none⟩), .cells u.cells e, ?_, fun τ _ hx => ⟨.ptr _ _ _ _ hx, ?_⟩⟩
        · simp [Instr.alloc, zeroValue, typeInfo, h1, h2, newVar, newRow]
        · have := rowOf_ok (P := P) (h5 τ) e
          simpa using this
      · cases h
  case makeChan t l =>
    split at h
    · rename_i d e k n hu hl
      split at h
      · rename_i i hi
        split at h
        · rename_i hb
          cases h
          have q := ev_ok ht hl
          dsimp only
          generalize a.eval l = vl at q ⊢
          cases q
          refine ⟨.chan (some w.heap.size), .chan n.toNat #[] false 0 0 false, ?_, fun τ _ hx => ⟨.chanr _ _ _ hx, #[], 0, 0, rfl, VRs.nil _⟩⟩
          have e1 : ¬ n < 0 := by omega
          have e3 : ¬ (9223372036854775807 < n ∨ 281474976710544 < (i.bytes : Int) * n) := by omega
          simp [Instr.makeChan, asInt, asIntOf, run_underlying hu, typeInfo, hi, e1, newObj, Sem.run]
          exact fun h => absurd h e3
        · cases h
      · cases h
    · cases h
  case box e y =>
    split at h
    · rename_i u hu
      cases h
      have q := ev_ok ht hu
      refine ⟨.pointer (some ⟨w.heap.size, 0, none⟩), .cells (a.eval y).cells e, ?_, fun τ hτ hx => ⟨.ptr _ _ _ _ hx, ?_⟩⟩
      · simp [Instr.box, newVar, newRow]
      · have := rowOf_ok (P := P) ((q.mono hτ).cells) e
        simpa using this
    · cases h
  case buildSlice t len ps =>
    split at h
    · rename_i e l hu hl
      split at h
      · rename_i z n m hz
        obtain ⟨i, u, h1, h2, h3, h4, _, h5⟩ := zeroOf_spec hz
        split at h
        · cases h
        · rename_i hb
          have hb1 : ¬ len * n > 2 ^ 24 := fun q => hb (.inl q)
          split at h
          · rename_i cells hf
            cases h
            have hps := evParts_ok ht hl
            have hzl : 0 < z.length ∨ z.length = 0 := by omega
            have hrow : VRs σ ((Array.range (len * n)).map (z.toArray[· % z.toArray.size]!)).toList ((Array.range (len * n)).map (z.toArray[· % z.toArray.size]!)).toList := by
              rcases hzl with hzl | hzl
              · exact vrs_map_range z (h5 σ) hzl _
              · have : z = [] := List.eq_nil_of_length_eq_zero hzl
                subst this
                refine ⟨rfl, fun i v v' p q => ?_⟩
                rw [p] at q; cases q
                rw [Array.getElem?_toList, Array.getElem?_map] at p
                cases hr : (Array.range (len * n))[i]? with
                | none => rw [hr] at p; cases p
                | some j =>
                  rw [hr] at p
                  simp at p
                  subst p
                  exact .bool false
            obtain ⟨cells', hf', hc'⟩ := fill_ok (σ := σ) _ _ _ _ _ _ hf (by simpa using hps) hrow
            refine ⟨.slice (some ⟨w.heap.size, 0, none⟩) len len, .cells cells' e, ?_, fun τ hτ hx => ⟨.sl _ _ _ _ _ 0 _ hx ?_ ?_ (Nat.le_refl _), ?_⟩⟩
            · rw [← h3] at hf'
              simp only [Array.toArray_toList] at hf'
              by_cases hb2 : len * n = 0
              · rw [hb2] at hf'
                have e0 : (Array.range 0).map (fun x => u.cells[x % u.cells.size]!) = (#[] : Array Value) := by simp
                have e1 : Array.range 0 = (#[] : Array Nat) := Array.eq_empty_of_size_eq_zero (by simp)
                rw [e0] at hf'
                simp [Instr.buildSlice, run_underlying hu, info_run h1, h4, hb2, hf', newRow, e1]
              · simp [Instr.buildSlice, run_underlying hu, info_run h1, h4, hb1, hb2, zeroValue, typeInfo, h1, h2, hf', newRow]
            · unfold CapR; rw [if_neg (fun q => hb (.inr (by unfold anyMark at q; unfold grownMark; omega))), if_neg (fun q => hb (.inr q))]
            · unfold anyMark; have : ¬ grownMark ≤ len := fun q => hb (.inr q); unfold grownMark at this; omega
            · have := rowOf_ok (P := P) (hc'.mono hτ) e
              simpa using this
          · cases h
      · cases h
    · cases h
  case makeSlice t l c =>
    split at h
    · rename_i e k1 l1 k2 c1 hu hl hc
      split at h
      · rename_i z n m hz
        obtain ⟨i, u, h1, h2, h3, h4, h6, h5⟩ := zeroOf_spec hz
        split at h
        · rename_i hb
          obtain ⟨b1, b2, b3, b4, b5⟩ := hb
          cases h
          have ql := ev_ok ht hl
          have qc := ev_ok ht hc
          dsimp only
          generalize a.eval l = vl at ql ⊢
          generalize a.eval c = vc at qc ⊢
          cases ql; cases qc
          refine ⟨.slice (some ⟨w.heap.size, 0, none⟩) l1.toNat c1.toNat, .cells (madeCells u.cells (c1.toNat * i.size)) e, ?_, fun τ hτ hx => ⟨.sl _ _ _ _ _ 0 _ hx ?_ ?_ (by omega), ?_⟩⟩
          · rw [Sem.run_bind, run_makeSlice (w := w) t e i u hu h1 h2 k1 k2 l1 c1 b1 b2 (by rw [h4]; exact b3) (by rw [h6]; exact b4) b5]
            rfl
          · unfold CapR anyMark grownMark; rw [if_neg (by omega), if_neg (by omega)]
          · unfold anyMark; omega
          · rw [h4]
            have hzz : VRs τ (madeCells z.toArray (c1.toNat * n)).toList (madeCells z.toArray (c1.toNat * n)).toList := by
              by_cases hzl : 0 < z.length
              · exact vrs_map_range z (h5 τ) hzl _
              · have : z = [] := List.eq_nil_of_length_eq_zero (by omega)
                subst this
                refine ⟨rfl, fun i v v' p q => ?_⟩
                rw [p] at q; cases q
                unfold madeCells at p
                rw [Array.getElem?_toList, Array.getElem?_map] at p
                cases hr : (Array.range (c1.toNat * n))[i]? with
                | none => rw [hr] at p; cases p
                | some j =>
                  rw [hr] at p
                  simp at p
                  subst p
                  exact .bool false
            have := rowOf_ok (P := P) hzz e
            have hzu : z.toArray = u.cells := by rw [← h3]
            rw [hzu] at this ⊢
            simpa using this
        · cases h
      · cases h
    · cases h
  case makeMap t r =>
    split at h
    · rename_i hr
      cases h
      have q := evo_ok ht hr
      dsimp only
      cases r with
      | some y => exact q.elim
      | none =>
        refine ⟨.map (some w.heap.size), .map #[] 0, ?_, fun τ hτ hx => ⟨.map _ _ _ hx, #[], rfl, rfl, fun i x x' p => by simp at p⟩⟩
        rfl
    · rename_i k n hr
      split at h
      · rename_i kt et hu
        cases h
        have q := evo_ok ht hr
        dsimp only
        cases r with
        | none => exact q.elim
        | some y =>
          have q : VR σ (.int k n) (a.eval y) := q
          simp only [Option.map_some]
          generalize a.eval y = vy at q ⊢
          cases q
          refine ⟨.map (some w.heap.size), .map #[] 0, ?_, fun τ hτ hx => ⟨.map _ _ _ hx, #[], rfl, rfl, fun i x x' p => by simp at p⟩⟩
          simp only [Instr.makeMap, Sem.run_bind, run_underlying hu, Result.andThen_ok, asInt, asIntOf]
          rfl
      · cases h
    · cases h
end
end
end Go.Proofs.YtimlldedpbbeoaaGreat
