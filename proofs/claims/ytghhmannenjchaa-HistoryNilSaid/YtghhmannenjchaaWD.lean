/- Structs of many cells: loaded from a row's middle, stored into the block that was made last, as one step. -/
import Derived.Deep.MidRow
import Derived.Deep.WholeRow
import Derived.Test.YtghhmannenjchaaMM
namespace Go.Proofs.Ytghhmannenjchaa
open Go.RowKit

theorem wp_store_new {P : Program} {op : Oper} {a : Act} {w : World} {K : Act → World → Prop} {Q : Exit → Act → World → Prop} (ty : TypeId) (x y : Operand) (ho : op.op = .store ty x y)
    (c c' : Array Value) (hx : a.eval x = .pointer (some ⟨w.heap.size, 0, none⟩)) (hy : a.eval y = .agg c') (hi : (P.info? ty).map (·.size) = some c'.size) (hs : c.size = c'.size) (h1 : c'.all (·.oneCell') = true)
    (h : K (a.put op.dst undef) (w.alloc (.cells c' ty))) : op.wp P a (w.alloc (.cells c ty)) K Q := by
  unfold Oper.wp execOp
  simp only [ho, hx, hy, Instr.storeAt, Instr.sureAddr, Sem.run_bind, Sem.run_pure, Result.andThen_ok, run_storeVar_new w ty c c' hi hs h1]
  exact h
theorem wpList_store_new {P : Program} {ops : Array Oper} {rest : List Oper} {op : Oper} {a : Act} {w : World} {Q : Exit → Act → World → Prop} (hgd : op.guard = none) (ty : TypeId) (x y : Operand) (ho : op.op = .store ty x y)
    (c c' : Array Value) (hx : a.eval x = .pointer (some ⟨w.heap.size, 0, none⟩)) (hy : a.eval y = .agg c') (hi : (P.info? ty).map (·.size) = some c'.size) (hs : c.size = c'.size) (h1 : c'.all (·.oneCell') = true)
    (h : wpList P ops Q rest (a.put op.dst undef) (w.alloc (.cells c' ty))) : wpList P ops Q (op :: rest) a (w.alloc (.cells c ty)) :=
  wpList_plain hgd fun _ hK => wp_store_new ty x y ho c c' hx hy hi hs h1 (hK _ _ h)
theorem range_of {w : World} {g o : Nat} {cs : List Value} (h : ∀ i u, cs[i]? = some u → w.cell? ⟨g, o + i, none⟩ = some u) : w.rangeAt g o cs := h
theorem fold_all : ∀ (l : List Value) (k : Nat) (c : Array Value), k + l.length = c.size → ((l.zipIdx k).foldl (fun cs (x : Value × Nat) => cs.setIfInBounds x.2 x.1) c).toList = c.toList.take k ++ l
  | [], k, c, h => by
    simp at h
    rw [List.append_nil, List.take_of_length_le (by simp; omega)]
    rfl
  | v :: l, k, c, h => by
    simp only [List.length_cons] at h
    have := fold_all l (k + 1) (c.setIfInBounds k v) (by simp; omega)
    simp only [List.zipIdx_cons, List.foldl_cons]
    have hkc : k < c.toList.length := by simp; omega
    rw [this, Array.toList_setIfInBounds, List.take_set, List.take_succ_eq_append_getElem hkc]
    have hk : k < (c.toList.take k ++ [c.toList[k]]).length := by simp; omega
    have : (c.toList.take k ++ [c.toList[k]]).set k v = c.toList.take k ++ [v] := by
      have hl : (c.toList.take k).length = k := by simp; omega
      rw [List.set_append_right _ _ (by omega), hl]
      simp
    rw [this]
    simp
theorem slice1_run {P : Program} (w : World) (t e : TypeId) (i : TypeInfo) (z : Value) (c : Array Value) (ht : P.underlying t = some (.slice e)) (hi : P.info? e = some i) (hz : i.zero = some z) (hc : c.size = i.size) (h0 : 0 < c.size) (h1 : c.size ≤ 1000) :
    (Instr.buildSlice t 1 #[(0, .agg c)]).run P w = .ok (.slice (some ⟨w.heap.size, 0, none⟩) 1 1) (w.alloc (.cells c e)) := by
  have hsz : (sizeOf e).run P w = .ok i.size w := by simp [sizeOf, typeInfo, hi]
  have hfill : Instr.fill (fun j => some (j * i.size, i.size)) ((Array.range (1 * i.size)).map (z.cells[· % z.cells.size]!)) [(0, .agg c)] = some c := by
    have hs : ((Array.range (1 * i.size)).map (z.cells[· % z.cells.size]!)).size = i.size := by simp
    unfold Instr.fill
    have hv : (Value.agg c).cells = c := rfl
    rw [hv]
    simp only [Nat.zero_mul, Nat.zero_add]
    rw [if_neg (by simp [hc])]
    unfold Instr.fill
    congr 1
    apply Array.toList_inj.1
    have := fold_all c.toList 0 ((Array.range (1 * i.size)).map (z.cells[· % z.cells.size]!)) (by simp [hc])
    rw [← Array.foldl_toList, Array.toList_zipIdx]
    simpa using this
  have e1 : ¬ (1 * i.size > 2 ^ 24) := by omega
  have e2 : ¬ (1 * i.size = 0) := by omega
  simp only [Instr.buildSlice, Sem.run_bind, run_underlying ht, Result.andThen_ok, hsz, e1, e2, if_false, zeroValue, typeInfo, run_program, hi]
  simp only [Nat.one_mul] at hfill
  simp [hz, newRow]
  simp [hfill]
theorem wpList_slice1 {P : Program} {ops : Array Oper} {rest : List Oper} {op : Oper} {a : Act} {w : World} {Q : Exit → Act → World → Prop} (hgd : op.guard = none) (t : TypeId) (x : Operand) (ho : op.op = .buildSlice t 1 #[(0, x)]) (e : TypeId) (i : TypeInfo) (z : Value) (c : Array Value) (hx : a.eval x = .agg c)
    (ht : P.underlying t = some (.slice e)) (hi : P.info? e = some i) (hz : i.zero = some z) (hc : c.size = i.size) (h0 : 0 < c.size) (h1 : c.size ≤ 1000)
    (h : wpList P ops Q rest (a.put op.dst (.slice (some ⟨w.heap.size, 0, none⟩) 1 1)) (w.alloc (.cells c e))) : wpList P ops Q (op :: rest) a w :=
  wpList_plain hgd fun _ hK => by
    unfold Oper.wp execOp
    rw [ho]
    have : (#[((0 : Nat), x)] : Array (Nat × Operand)).map (fun (i, x) => (i, a.eval x)) = #[(0, .agg c)] := by simp [hx]
    simp only [this, Sem.run_bind, slice1_run w t e i z c ht hi hz hc h0 h1, Result.andThen_ok]
    exact hK _ _ h
end Go.Proofs.Ytghhmannenjchaa
