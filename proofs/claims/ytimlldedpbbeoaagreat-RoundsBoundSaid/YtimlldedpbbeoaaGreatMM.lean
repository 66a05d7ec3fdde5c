/- Blocks and cells over a frame, behind an alloc, behind a store elsewhere. -/
import Derived.Test.YtimlldedpbbeoaaGreatG
namespace Go.Proofs.YtimlldedpbbeoaaGreat
open Go.RowKit

theorem block_kept {w w' : World} {b : Nat} {o : Obj} (h : w.heap[b]? = some o) (hb : Below w.heap.size w w') : w'.heap[b]? = some o := (hb.block b (lt_of_block h)).trans h
theorem block_alloc {w : World} {b : Nat} {o : Obj} (h : w.heap[b]? = some o) (o' : Obj) : (w.alloc o').heap[b]? = some o := (Below.heap_alloc w o' _ (lt_of_block h)).trans h
theorem cell_kept {w w' : World} {p : Addr} {v : Value} (hb : Below w.heap.size w w') (h : w.cell? p = some v) : w'.cell? p = some v := (hb.cell (World.block_lt_of_cell? w p h)).trans h
theorem blk_conv {w : World} {b : Nat} {c c' : Array Value} {t : TypeId} (h : w.heap[b]? = some (.cells c t (0, 0))) (e : c = c') : w.heap[b]? = some (.cells c' t (0, 0)) := e ▸ h
theorem block_set_other {w : World} {g b i : Nat} (h : g ≠ b) (v : Value) : (w.setCell ⟨b, i, none⟩ v).heap[g]? = w.heap[g]? := by
  simp only [World.setCell, Array.getElem?_modify]
  rw [if_neg (fun e => h e.symm)]
theorem cell_set_other {w : World} {g b i j : Nat} (h : g ≠ b) (v : Value) : (w.setCell ⟨b, i, none⟩ v).cell? ⟨g, j, none⟩ = w.cell? ⟨g, j, none⟩ :=
  World.cell?_of_block (block_set_other h v)
theorem later_set_other {w : World} {g b i : Nat} {x : Option Obj} {v : Value} (hne : g ≠ b) (h : w.heap[g]? = x) : (w.setCell ⟨b, i, none⟩ v).heap[g]? = x := (block_set_other hne v).trans h
theorem later_new {w : World} {b : Nat} {o : Obj} (hb : b = w.heap.size) : (w.alloc o).heap[b]? = some o := hb ▸ alloc_new w o
theorem rd_new {w : World} {n c : Nat} {vs : List Value} {o : Obj} {t : TypeId} {A : Option Addr} (hA : A = some ⟨w.heap.size, 0, none⟩) (ho : o = .cells vs.toArray t) : Rd (w.alloc o) (.slice A n c) n vs := by
  subst hA ho
  refine .inr ⟨_, 0, c, rfl, by simp, fun j u hj => ?_⟩
  rw [Nat.zero_add, cell_of_block (alloc_new w _)]
  simpa using hj
theorem fr_block {S : Nat → Prop} {w w' : World} {b : Nat} {o : Obj} (h : w.heap[b]? = some o) (hf : Fr S w w') (hS : ¬ S b) : w'.heap[b]? = some o := (hf.block b (lt_of_block h) hS).trans h
theorem Fr.join {S T U : Nat → Prop} {a b c : World} (h : Fr S a b) (k : Fr T b c) (hS : ∀ j, j < a.heap.size → S j → U j) (hT : ∀ j, j < a.heap.size → T j → U j) : Fr U a c := (h.mono hS).trans k hT
theorem Rd.fr {S : Nat → Prop} {w w' : World} {v : Value} {n : Nat} {cs : List Value} (h : Rd w v n cs) (hf : Fr S w w') (hS : ∀ g, v.ownBlock = some g → ¬ S g) : Rd w' v n cs := by
  rcases h with h | ⟨g, o, c, rfl, hg, hc⟩
  · exact .inl h
  · exact .inr ⟨g, o, c, rfl, Nat.lt_of_lt_of_le hg hf.size, fun j u hj => (hf.cell (p := ⟨g, o + j, none⟩) hg (hS g rfl)).trans (hc j u hj)⟩
end Go.Proofs.YtimlldedpbbeoaaGreat
