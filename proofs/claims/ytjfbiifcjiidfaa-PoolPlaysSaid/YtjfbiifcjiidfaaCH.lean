/- Regions that send or select, in one goroutine: rules for the walk. -/
import Derived.Conc.LoneCalls
import Derived.Conc.LoneSelect
import Derived.Test.YtjfbiifcjiidfaaMM
namespace Go.Proofs.Ytjfbiifcjiidfaa
open Go.RowKit Go.Conc

def OpsTo (P : Program) (ops : Array Oper) (Q : Exit → Act → World → Prop) (l : List Nat) (a : Act) (w : World) : Prop :=
  ∀ (b : Frame) (k : List Item) (cs : List Frame), ∃ e a' w', Q e a' w' ∧ Arrives P (lone (b.at a (.inRegion ops l :: k)) cs w) b k cs e a' w'
section
variable {P : Program} {ops : Array Oper} {Q : Exit → Act → World → Prop} {a : Act} {w w' : World} {i : Nat} {rest : List Nat} {o : Oper}
theorem wp_region_to {id : Nat} (h : OpsTo P ops Q (List.range ops.size) a w) : (Code.region id ops false).wp P Q a w := by
  intro b k cs
  obtain ⟨e, a', w', hq, harr⟩ := h b k cs
  exact ⟨e, a', w', hq, .of_steps (.one step_region) harr⟩
theorem OpsTo.of_ops {l : List Nat} (h : wpOps P ops Q l a w) : OpsTo P ops Q l a w := fun b k cs => wp_ops l a w h b k cs
theorem OpsTo.nil (h : Q .normal a w) : OpsTo P ops Q [] a w := .of_ops h
theorem OpsTo.value {v : Value} (ho : ops[i]? = some o) (hg : o.guard = none) (hr : (execOp a.eval o).run P w = .ok (.value v) w') (h : OpsTo P ops Q rest (a.put o.dst v) w') : OpsTo P ops Q (i :: rest) a w := by
  intro b k cs
  obtain ⟨e, a', w'', hq, harr⟩ := h b k cs
  refine ⟨e, a', w'', hq, .of_steps (.one (step_lone_go ?_)) harr⟩
  have hfin : (b.at a (.inRegion ops (i :: rest) :: k)).finish v = b.at (a.put o.dst v) (.inRegion ops rest :: k) := by rw [Frame.finish_at, ho]; rfl
  rw [stepG_op ho (by simp [Region.wanted, hg]), ← hfin]; simp [stepG.apply, hr]
theorem stepG_comm_any {b : Frame} {k : List Item} {cs : List Frame} {cases : Array CommCase} {blocking : Bool} {shape : CommShape} (ho : ops[i]? = some o) (hg : o.guard = none) (hr : (execOp a.eval o).run P w = .ok (.comm cases blocking shape) w') :
    ∃ es, stepG P true (G (b.at a (.inRegion ops (i :: rest) :: k)) cs) w = .comm (G (b.at a (.inRegion ops (i :: rest) :: k)) cs) cases blocking shape w' es := by
  have hh := stepG_op (P := P) (b := b) (a := a) (k := k) (cs := cs) (w := w) (rest := rest) ho (by simp [Region.wanted, hg])
  unfold G
  rw [hh]
  simp [stepG.apply, hr, GStep.after, Frame.at]
theorem OpsTo.send {c cap s r : Nat} {buf : Array Value} {tm : Bool} {v z : Value} (ho : ops[i]? = some o) (hg : o.guard = none) (hr : (execOp a.eval o).run P w = .ok (.comm #[scase c v z] true .send) w')
    (hc : w'.heap[c]? = some (.chan cap buf false s r tm)) (hroom : buf.size < cap) (h : OpsTo P ops Q rest (a.put o.dst undef) (w'.setChan c cap (buf.push v) false (s + 1) r tm)) : OpsTo P ops Q (i :: rest) a w := by
  intro b k cs
  obtain ⟨e, a', w'', hq, harr⟩ := h b k cs
  obtain ⟨es, he⟩ := stepG_comm_any (P := P) (b := b) (k := k) (cs := cs) (rest := rest) ho hg hr
  refine ⟨e, a', w'', hq, .of_steps (.one ?_) harr⟩
  have hs := step_lone_send_room he hc hroom
  rw [Frame.finish_at, ho] at hs
  exact hs
theorem OpsTo.recv {c cap s r : Nat} {buf : Array Value} {tm cl : Bool} {z : Value} (ho : ops[i]? = some o) (hg : o.guard = none) (hr : (execOp a.eval o).run P w = .ok (.comm #[rcase c z] false .select) w')
    (hc : w'.heap[c]? = some (.chan cap buf cl s r tm)) (hsome : 0 < buf.size) (h : OpsTo P ops Q rest (a.put o.dst (.tuple #[goInt 0, .bool true, buf.getD 0 undef])) (w'.setChan c cap (buf.extract 1 buf.size) cl s (r + 1) tm)) : OpsTo P ops Q (i :: rest) a w := by
  intro b k cs
  obtain ⟨e, a', w'', hq, harr⟩ := h b k cs
  obtain ⟨es, he⟩ := stepG_comm_any (P := P) (b := b) (k := k) (cs := cs) (rest := rest) ho hg hr
  refine ⟨e, a', w'', hq, .of_steps (.one ?_) harr⟩
  have hs := step_lone_select_recv_buf he hc hsome
  rw [Frame.finish_at, ho] at hs
  exact hs
theorem OpsTo.default {c cap s r : Nat} {tm : Bool} {z : Value} (ho : ops[i]? = some o) (hg : o.guard = none) (hr : (execOp a.eval o).run P w = .ok (.comm #[rcase c z] false .select) w')
    (hc : w'.heap[c]? = some (.chan cap #[] false s r tm)) (h : OpsTo P ops Q rest (a.put o.dst (.tuple #[goInt (-1), .bool false, z])) w') : OpsTo P ops Q (i :: rest) a w := by
  intro b k cs
  obtain ⟨e, a', w'', hq, harr⟩ := h b k cs
  obtain ⟨es, he⟩ := stepG_comm_any (P := P) (b := b) (k := k) (cs := cs) (rest := rest) ho hg hr
  refine ⟨e, a', w'', hq, .of_steps (.one ?_) harr⟩
  have hs := step_lone_select_default he hc
  rw [Frame.finish_at, ho] at hs
  exact hs
end
end Go.Proofs.Ytjfbiifcjiidfaa
