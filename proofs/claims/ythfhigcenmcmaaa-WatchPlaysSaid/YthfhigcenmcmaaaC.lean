/- The walk through Clone: another block that holds the same; and a law: a whole struct stored into a new block. -/
import Derived.Test.YthfhigcenmcmaaaX
namespace Go.Proofs.Ythfhigcenmcmaaa
open Go.RowKit

theorem run_storeCells_new {P : Program} (w : World) (t : TypeId) (vs : List Value) (h1c : ∀ v ∈ vs, v.oneCell' = true) : ∀ (i : Nat) (c : Array Value), c.size = i + vs.length →
    (storeCells ⟨w.heap.size, 0, none⟩ vs i).run P (w.alloc (.cells c t)) = .ok () (w.alloc (.cells (c.toList.take i ++ vs).toArray t)) := by
  induction vs with
  | nil =>
    intro i c hc
    simp only [storeCells, Sem.run_pure]
    congr 3
    apply Array.ext'
    simp only [List.length_nil, Nat.add_zero] at hc
    subst hc
    simp only [List.append_nil]
    exact (List.take_of_length_le (by simp)).symm
  | cons v vs ih =>
    intro i c hc
    have hi : i < c.size := by simp at hc; omega
    have hadd : (⟨w.heap.size, 0, none⟩ : Addr).add i = ⟨w.heap.size, i, none⟩ := by unfold Addr.add; split <;> simp_all
    have hs : (store ⟨w.heap.size, i, none⟩ v).run P (w.alloc (.cells c t)) = .ok () (w.alloc (.cells (c.setIfInBounds i v) t)) := by
      have h1 := cell_of_block (alloc_new w (.cells c t)) i
      rw [Array.getElem?_eq_getElem hi] at h1
      have h2 := free_of_block (alloc_new w (.cells c t)) i
      rw [run_store _ _ _ _ _ (h1c v List.mem_cons_self), h1]
      simp only [h2, Bool.false_eq_true, if_false]
      rw [World.setCell_alloc_at _ _ _ _ _ rfl]
    simp only [storeCells, hadd, Sem.run_bind, hs, Result.andThen_ok]
    rw [ih (fun u hu => h1c u (List.mem_cons_of_mem _ hu)) (i + 1) (c.setIfInBounds i v) (by simp at hc ⊢; omega)]
    congr 3
    apply Array.ext'
    simp only [Array.toList_setIfInBounds]
    rw [List.take_succ_eq_append_getElem (by simpa using hi)]
    simp [List.take_set_of_le]
theorem wpList_store_new {P : Program} {ops : Array Oper} {rest : List Oper} {o : Oper} {a : Act} {w0 : World} {Q : Exit → Act → World → Prop} (hgd : o.guard = none) (ty : TypeId) (x y : Operand) (ho : o.op = .store ty x y)
    (c cs : Array Value) (t : TypeId) (hx : a.eval x = .pointer (some ⟨w0.heap.size, 0, none⟩)) (hy : a.eval y = .agg cs) (hc : c.size = cs.size) (h1c : ∀ v ∈ cs.toList, v.oneCell' = true) (hi : (P.info? ty).map (·.size) = some cs.size)
    (h : wpList P ops Q rest (a.put o.dst undef) (w0.alloc (.cells cs t))) : wpList P ops Q (o :: rest) a (w0.alloc (.cells c t)) :=
  wpList_plain hgd fun _ hK => by
    cases hq : P.info? ty with
    | none => simp [hq] at hi
    | some i =>
      have hs : i.size = cs.size := by simpa [hq] using hi
      have hrun := run_storeCells_new (P := P) w0 t cs.toList h1c 0 c (by simpa using hc)
      simp only [List.take_zero, List.nil_append, Array.toArray_toList] at hrun
      unfold Oper.wp execOp
      simp only [ho, hx, hy, Instr.storeAt, Instr.sureAddr, Sem.run_bind, Sem.run_pure, Result.andThen_ok, storeVar, Value.cells, sizeOf, typeInfo]
      simp [hq, hs, hrun, Oper.upon]
      exact hK _ _ h

set_option maxRecDepth 100000 in
set_option maxHeartbeats 1000000 in
theorem clone_any (b : Nat) (s : WS) (w : World) (h : IsW w b s) :
    Calls Try.prog 19 #[.pointer (some ⟨b, 0, none⟩)] w fun e w' => e = .returned (.pointer (some ⟨w.heap.size, 0, none⟩)) ∧ IsW w' w.heap.size s ∧ Below w.heap.size w w' := by
  have hc := h.n
  have h0 := h.wf.1
  have h1 : (s.N == 0) = false := beq_eq_false_iff_ne.2 (by omega)
  have hz := zeroW_run
  have H := Lib.hid h
  clear h
  go_enter Try.func19, Try.ntmps19
  go_wp2_with (first
    | (refine wpList_load_row rfl 53 _ rfl b rfl 53 _ (0, 0) _ H.out.at_ Try.underlying53 rfl (by kernel_rfl) ?_)
    | (refine wpList_store_new rfl 53 _ _ rfl _ _ _ rfl rfl ?s1 ?s2 (by kernel_rfl) ?_))
  case s1 => simp [zeroW]
  case s2 =>
    intro v hv
    simp only [Array.toList_ofFn, List.mem_ofFn] at hv
    obtain ⟨i, rfl⟩ := hv
    unfold cellW
    split
    · rfl
    · split
      · rfl
      · split <;> rfl
  go_ret
  exact ⟨rfl, ⟨H.out.wf, alloc_new w _⟩, (Below.refl _ _).alloc (Nat.le_refl _) _⟩
end Go.Proofs.Ythfhigcenmcmaaa
