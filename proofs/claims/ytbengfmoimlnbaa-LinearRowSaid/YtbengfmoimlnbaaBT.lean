/- Rows of truths; what a way says of its items; what the walk through LinearTold holds. -/
import Derived.Deep.DeepCutAuto
import Derived.Deep.CutBlock
import Derived.Deep.RegionHeld3
import Derived.Deep.RegionLaw
import Derived.StillTailTactics
import Derived.Test.YtbengfmoimlnbaaKW
namespace Go.Proofs.Ytbengfmoimlnbaa
open Go.RowKit

/-! ### rows of truths -/
def bitsA (n m : Nat) : Array Value := Array.ofFn (n := n) fun j => .bool (m.testBit j)
theorem bitsA_at {n m i : Nat} (h : i < n) : (bitsA n m)[i]? = some (.bool (m.testBit i)) := by simp [bitsA, h]
theorem bitsA_set {n m i : Nat} : (bitsA n m).setIfInBounds i (.bool true) = bitsA n (m ||| 2 ^ i) := by
  unfold bitsA
  refine set_ofFn (fun j => .bool (m.testBit j)) (fun j => .bool ((m ||| 2 ^ i).testBit j)) i _ (by simp) (fun j _ hne => ?_)
  have : i ≠ j := fun e => hne e.symm
  simp [this]
theorem info_bool : (Try.prog.info? 4).map (fun i => (i.zero, i.size, i.bytes)) = some (some (.bool false), 1, 1) := by kernel_rfl
theorem bitsA_zero (n : Nat) : madeCells #[.bool false] n = bitsA n 0 := by
  unfold madeCells bitsA
  apply Array.ext
  · simp
  · intro i h1 h2
    simp only [Array.getElem_map, Array.getElem_range, Array.getElem_ofFn, Nat.zero_testBit]
    have : i % (#[Value.bool false] : Array Value).size = 0 := Nat.mod_one i
    rw [this]; rfl
theorem make_bits (n : Nat) (hn : n ≤ 24) (w : World) :
    (Instr.makeSlice 64 (.int .i64 (n : Int)) (.int .i64 (n : Int))).run Try.prog w = .ok (.slice (some ⟨w.heap.size, 0, none⟩) n n) (w.alloc (.cells (bitsA n 0) 4)) := by
  rw [← bitsA_zero]
  exact Go.run_make_row' 64 4 (.bool false) 1 Try.underlying64 info_bool rfl .i64 .i64 n (by omega) (by omega) w

/-- What the law holds while it goes over what was told: what lay before is as it was; what it has seen; the state. -/
structure TS (w0 wm : World) (n m : Nat) (s : St) (W : World) : Prop where
  base : Below w0.heap.size w0 wm
  below : Below wm.heap.size wm W
  seen : W.heap[wm.heap.size]? = some (.cells (bitsA n m) 4 (0, 0))
  st : W.heap[wm.heap.size + 1]? = some (.cells (stC s) 44 (0, 0))
theorem TS.of_below {w0 wm : World} {n m : Nat} {s : St} {W W' : World} (h : TS w0 wm n m s W) (hb : Below W.heap.size W W') : TS w0 wm n m s W' :=
  ⟨h.base, h.below.trans (hb.mono h.below.size), block_kept h.seen hb, block_kept h.st hb⟩
theorem TS.all {w0 wm : World} {n m : Nat} {s : St} {W : World} (h : TS w0 wm n m s W) : Below w0.heap.size w0 W := h.base.trans (h.below.mono h.base.size)
theorem block_set_other {w : World} {g b i : Nat} (h : g ≠ b) (v : Value) : (w.setCell ⟨b, i, none⟩ v).heap[g]? = w.heap[g]? := by
  simp only [World.setCell, Array.getElem?_modify]
  rw [if_neg (fun e => h e.symm)]
theorem cell_set_other {w : World} {g b i j : Nat} (h : g ≠ b) (v : Value) : (w.setCell ⟨b, i, none⟩ v).cell? ⟨g, j, none⟩ = w.cell? ⟨g, j, none⟩ :=
  World.cell?_of_block (block_set_other h v)
theorem TS.set {w0 wm : World} {n m : Nat} {s : St} {W : World} (h : TS w0 wm n m s W) (k : Nat) : TS w0 wm n (m ||| 2 ^ k) s (W.setCell ⟨wm.heap.size, k, none⟩ (.bool true)) :=
  ⟨h.base, h.below.setCell (p := ⟨wm.heap.size, k, none⟩) (Nat.le_refl _) _, by rw [block_setCell h.seen, bitsA_set], (block_set_other (by omega) _).trans h.st⟩
theorem TS.put {w0 wm : World} {n m : Nat} {s : St} {W : World} (h : TS w0 wm n m s W) (s' : St) : TS w0 wm n m s' ((W.setCell ⟨wm.heap.size + 1, 0, none⟩ (.int .i64 s'.ver)).setCell ⟨wm.heap.size + 1, 1, none⟩ (.string s'.val)) := by
  refine ⟨h.base, (h.below.setCell (p := ⟨wm.heap.size + 1, 0, none⟩) (by simp) _).setCell (p := ⟨wm.heap.size + 1, 1, none⟩) (by simp) _, (block_set_other (by omega) _).trans ((block_set_other (by omega) _).trans h.seen), ?_⟩
  rw [block_setCell (block_setCell h.st _) _]
  rfl
theorem cell_kept {w w' : World} {p : Addr} {v : Value} (hb : Below w.heap.size w w') (h : w.cell? p = some v) : w'.cell? p = some v := (hb.cell (World.block_lt_of_cell? w p h)).trans h
theorem keep6 {B : Nat} {w0 w w' : World} {p1 p2 p3 p4 p5 : Addr} {v1 v2 v3 v4 v5 : Value} (hp : p1.block < B ∧ p2.block < B ∧ p3.block < B ∧ p4.block < B ∧ p5.block < B) (hb : Below B w w')
    (h : Below B w0 w ∧ w.cell? p1 = some v1 ∧ w.cell? p2 = some v2 ∧ w.cell? p3 = some v3 ∧ w.cell? p4 = some v4 ∧ w.cell? p5 = some v5) :
    Below B w0 w' ∧ w'.cell? p1 = some v1 ∧ w'.cell? p2 = some v2 ∧ w'.cell? p3 = some v3 ∧ w'.cell? p4 = some v4 ∧ w'.cell? p5 = some v5 :=
  ⟨h.1.trans hb, (hb.cell hp.1).trans h.2.1, (hb.cell hp.2.1).trans h.2.2.1, (hb.cell hp.2.2.1).trans h.2.2.2.1, (hb.cell hp.2.2.2.1).trans h.2.2.2.2.1, (hb.cell hp.2.2.2.2).trans h.2.2.2.2.2⟩
theorem keep6call {B : Nat} {w0 w w' : World} {p1 p2 p3 p4 p5 : Addr} {v1 v2 v3 v4 v5 : Value} (hp : p1.block < B ∧ p2.block < B ∧ p3.block < B ∧ p4.block < B ∧ p5.block < B) (hBw : B ≤ w0.heap.size) (hb : Below w.heap.size w w')
    (h : Below B w0 w ∧ w.cell? p1 = some v1 ∧ w.cell? p2 = some v2 ∧ w.cell? p3 = some v3 ∧ w.cell? p4 = some v4 ∧ w.cell? p5 = some v5) :
    Below B w0 w' ∧ w'.cell? p1 = some v1 ∧ w'.cell? p2 = some v2 ∧ w'.cell? p3 = some v3 ∧ w'.cell? p4 = some v4 ∧ w'.cell? p5 = some v5 :=
  keep6 hp (hb.mono (Nat.le_trans hBw h.1.size)) h
theorem keep5 {B : Nat} {w0 w w' : World} {p1 p2 p3 p4 : Addr} {v1 v2 v3 v4 : Value} (hp : p1.block < B ∧ p2.block < B ∧ p3.block < B ∧ p4.block < B) (hb : Below B w w')
    (h : Below B w0 w ∧ w.cell? p1 = some v1 ∧ w.cell? p2 = some v2 ∧ w.cell? p3 = some v3 ∧ w.cell? p4 = some v4) :
    Below B w0 w' ∧ w'.cell? p1 = some v1 ∧ w'.cell? p2 = some v2 ∧ w'.cell? p3 = some v3 ∧ w'.cell? p4 = some v4 :=
  ⟨h.1.trans hb, (hb.cell (hp.1)).trans h.2.1, (hb.cell (hp.2.1)).trans h.2.2.1, (hb.cell (hp.2.2.1)).trans h.2.2.2.1, (hb.cell (hp.2.2.2)).trans h.2.2.2.2⟩
theorem keep5call {B : Nat} {w0 w w' : World} {p1 p2 p3 p4 : Addr} {v1 v2 v3 v4 : Value} (hp : p1.block < B ∧ p2.block < B ∧ p3.block < B ∧ p4.block < B) (hBw : B ≤ w0.heap.size) (hb : Below w.heap.size w w')
    (h : Below B w0 w ∧ w.cell? p1 = some v1 ∧ w.cell? p2 = some v2 ∧ w.cell? p3 = some v3 ∧ w.cell? p4 = some v4) :
    Below B w0 w' ∧ w'.cell? p1 = some v1 ∧ w'.cell? p2 = some v2 ∧ w'.cell? p3 = some v3 ∧ w'.cell? p4 = some v4 :=
  keep5 hp (hb.mono (Nat.le_trans hBw h.1.size)) h
theorem blk_conv {w : World} {b : Nat} {c c' : Array Value} {t : TypeId} (h : w.heap[b]? = some (.cells c t (0, 0))) (e : c = c') : w.heap[b]? = some (.cells c' t (0, 0)) := e ▸ h
theorem later_set_other {w : World} {g b i : Nat} {x : Option Obj} {v : Value} (hne : g ≠ b) (h : w.heap[g]? = x) : (w.setCell ⟨b, i, none⟩ v).heap[g]? = x := (block_set_other hne v).trans h
theorem later_new {w : World} {b : Nat} {o : Obj} (hb : b = w.heap.size) : (w.alloc o).heap[b]? = some o := hb ▸ alloc_new w o
theorem natV_at {q : List Nat} {p : Nat} (h : p < q.length) : (natV q)[p]? = some (.int .i64 (q[p] : Nat)) := by simp [natV, h]

theorem toList_loop (b : ByteArray) : ∀ (n i : Nat) (r : List UInt8), b.size - i = n → ByteArray.toList.loop b i r = r.reverse ++ b.data.toList.drop i := by
  intro n
  induction n with
  | zero =>
    intro i r h
    rw [ByteArray.toList.loop, if_neg (by omega), List.drop_eq_nil_of_le (by have : b.size = b.data.size := rfl; simp; omega), List.append_nil]
  | succ n ih =>
    intro i r h
    have hi : i < b.data.toList.length := by have : b.size = b.data.size := rfl; simp; omega
    rw [ByteArray.toList.loop, if_pos (by omega), ih _ _ (by omega), List.drop_eq_getElem_cons hi, List.reverse_cons, List.append_assoc]
    have : b.get! i = b.data.toList[i] := by
      unfold ByteArray.get!
      simp at hi ⊢
      rw [getElem!_pos b.data i hi]
    rw [this]; rfl
theorem toList_eq {a b : ByteArray} (h : a.toList = b.toList) : a = b := by
  unfold ByteArray.toList at h
  rw [toList_loop a _ 0 [] rfl, toList_loop b _ 0 [] rfl] at h
  simp at h
  cases a; cases b; simp_all

/-- What a way says of its first item. -/
theorem way_cons {l : List It} {m : Nat} {s : St} {k : Nat} {q : List Nat} (h : Way l m s (k :: q)) : k < l.length ∧ m.testBit k = false ∧ (∀ j, j < l.length → m.testBit j = false → j ≠ k → ahead (itm l j) (itm l k) = false) ∧ ((itm l k).open_ = true ∨ doesA s (itm l k).kind = (itm l k).ans) ∧ Way l (m ||| 2 ^ k) (play l s k) q := by
  cases h with
  | step _ _ _ _ hi hc hw =>
    unfold can at hc
    simp only [Bool.and_eq_true, Bool.not_eq_true'] at hc
    obtain ⟨⟨h1, h2⟩, h3⟩ := hc
    refine ⟨hi, h1, ?_, ?_, hw⟩
    · intro j hj hm hne
      unfold before at h2
      rw [List.any_eq_false] at h2
      have := h2 j (List.mem_range.2 hj)
      rw [hm] at this
      simpa [aheadP, hne] using this
    · unfold fits at h3
      simp only [Bool.or_eq_true] at h3
      refine h3.imp id fun h => ?_
      unfold anEq at h
      simp only [Bool.and_eq_true, beq_iff_eq] at h
      obtain ⟨e1, e2, e3, e4⟩ := h
      have e3' : (doesA s (itm l k).kind).value = (itm l k).ans.value := toList_eq e3
      cases h1 : doesA s (itm l k).kind
      cases h2 : (itm l k).ans
      rw [h1, h2] at e1 e2 e3' e4
      simp_all
theorem way_nil {l : List It} {m : Nat} {s : St} (h : Way l m s []) : ∀ i, i < l.length → (itm l i).open_ = false → m.testBit i = true := by
  cases h with
  | done _ _ hl =>
    intro i hi ho
    unfold left at hl
    rw [List.any_eq_false] at hl
    have := hl i (List.mem_range.2 hi)
    simpa [mustP, ho] using this
end Go.Proofs.Ytbengfmoimlnbaa
