/- The walk through LinearDoes. -/
import Derived.Deep.DeepCutAuto
import Derived.Deep.CutBlock
import Derived.Deep.RegionHeld3
import Derived.Deep.RegionLaw
import Derived.Test.YtbengfmoimlnbaaKW
namespace Go.Proofs.Ytbengfmoimlnbaa
open Go.RowKit

/-- What the answer of the law is read from. -/
structure DF (w0 : World) (p10 p11 p13 p14 p15 p16 g : Nat) (a b : It) (x : An) (s : St) (w : World) : Prop where
  hB : Below w0.heap.size w0 w
  h10 : w.heap[p10]? = some (.cells (itC a) 40 (0, 0))
  h11 : w.heap[p11]? = some (.cells (itC b) 40 (0, 0))
  h13 : w.heap[p13]? = some (.cells (anC x) 42 (0, 0))
  h14 : w.heap[p14]? = some (.cells (stC s) 44 (0, 0))
  h15 : w.heap[p15]? = some (.cells (anC x) 38 (0, 0))
  h16 : w.heap[p16]? = some (.cells (stC s) 47 (0, 0))
  lt : g < w.heap.size
  hg : ∀ j u, (a.enc ++ b.enc)[j]? = some u → w.cell? ⟨g, j, none⟩ = some u
theorem DF.below {w0 : World} {p10 p11 p13 p14 p15 p16 g : Nat} {a b : It} {x : An} {s : St} {w w' : World} (h : DF w0 p10 p11 p13 p14 p15 p16 g a b x s w) (hb : Below w.heap.size w w') : DF w0 p10 p11 p13 p14 p15 p16 g a b x s w' :=
  ⟨h.hB.trans (hb.mono h.hB.size), block_kept h.h10 hb, block_kept h.h11 hb, block_kept h.h13 hb, block_kept h.h14 hb, block_kept h.h15 hb, block_kept h.h16 hb, Nat.lt_of_lt_of_le h.lt hb.size, fun j u hj => (hb.cell (p := ⟨g, j, none⟩) h.lt).trans (h.hg j u hj)⟩
theorem DF.cells {w0 : World} {p10 p11 p13 p14 p15 p16 g : Nat} {a b : It} {x : An} {s : St} {w : World} (h : DF w0 p10 p11 p13 p14 p15 p16 g a b x s w) :
    w.cell? ⟨p10, 0, none⟩ = some (.int .i64 a.kind) ∧ w.cell? ⟨p10, 1, none⟩ = some (.int .i64 a.begin_) ∧ w.cell? ⟨p10, 2, none⟩ = some (.int .i64 a.end_) ∧ w.cell? ⟨p10, 3, none⟩ = some (.bool a.open_) ∧ w.cell? ⟨p10, 4, none⟩ = some (.string a.value) ∧ w.cell? ⟨p10, 5, none⟩ = some (.int .i64 a.ans.e) ∧ w.cell? ⟨p10, 6, none⟩ = some (.bool a.ans.found) ∧ w.cell? ⟨p10, 7, none⟩ = some (.string a.ans.value) ∧ w.cell? ⟨p10, 8, none⟩ = some (.int .i64 a.ans.ver) ∧ w.cell? ⟨p11, 0, none⟩ = some (.int .i64 b.kind) ∧ w.cell? ⟨p11, 1, none⟩ = some (.int .i64 b.begin_) ∧ w.cell? ⟨p11, 2, none⟩ = some (.int .i64 b.end_) ∧ w.cell? ⟨p11, 3, none⟩ = some (.bool b.open_) ∧ w.cell? ⟨p11, 4, none⟩ = some (.string b.value) ∧ w.cell? ⟨p11, 5, none⟩ = some (.int .i64 b.ans.e) ∧ w.cell? ⟨p11, 6, none⟩ = some (.bool b.ans.found) ∧ w.cell? ⟨p11, 7, none⟩ = some (.string b.ans.value) ∧ w.cell? ⟨p11, 8, none⟩ = some (.int .i64 b.ans.ver) ∧ w.cell? ⟨p13, 0, none⟩ = some (.int .i64 x.e) ∧ w.cell? ⟨p13, 1, none⟩ = some (.bool x.found) ∧ w.cell? ⟨p13, 2, none⟩ = some (.string x.value) ∧ w.cell? ⟨p13, 3, none⟩ = some (.int .i64 x.ver) ∧ w.cell? ⟨p14, 0, none⟩ = some (.int .i64 s.ver) ∧ w.cell? ⟨p14, 1, none⟩ = some (.string s.val) ∧ w.cell? ⟨p15, 0, none⟩ = some (.int .i64 x.e) ∧ w.cell? ⟨p15, 1, none⟩ = some (.bool x.found) ∧ w.cell? ⟨p15, 2, none⟩ = some (.string x.value) ∧ w.cell? ⟨p15, 3, none⟩ = some (.int .i64 x.ver) ∧ w.cell? ⟨p16, 0, none⟩ = some (.int .i64 s.ver) ∧ w.cell? ⟨p16, 1, none⟩ = some (.string s.val) ∧ w.cell? ⟨g, 0, none⟩ = some (.int .i64 a.kind) ∧ w.cell? ⟨g, 1, none⟩ = some (.int .i64 a.begin_) ∧ w.cell? ⟨g, 2, none⟩ = some (.int .i64 a.end_) ∧ w.cell? ⟨g, 3, none⟩ = some (.bool a.open_) ∧ w.cell? ⟨g, 4, none⟩ = some (.string a.value) ∧ w.cell? ⟨g, 5, none⟩ = some (.int .i64 a.ans.e) ∧ w.cell? ⟨g, 6, none⟩ = some (.bool a.ans.found) ∧ w.cell? ⟨g, 7, none⟩ = some (.string a.ans.value) ∧ w.cell? ⟨g, 8, none⟩ = some (.int .i64 a.ans.ver) ∧ w.cell? ⟨g, 9, none⟩ = some (.int .i64 b.kind) ∧ w.cell? ⟨g, 10, none⟩ = some (.int .i64 b.begin_) ∧ w.cell? ⟨g, 11, none⟩ = some (.int .i64 b.end_) ∧ w.cell? ⟨g, 12, none⟩ = some (.bool b.open_) ∧ w.cell? ⟨g, 13, none⟩ = some (.string b.value) ∧ w.cell? ⟨g, 14, none⟩ = some (.int .i64 b.ans.e) ∧ w.cell? ⟨g, 15, none⟩ = some (.bool b.ans.found) ∧ w.cell? ⟨g, 16, none⟩ = some (.string b.ans.value) ∧ w.cell? ⟨g, 17, none⟩ = some (.int .i64 b.ans.ver) :=
  have ⟨_, h10, h11, h13, h14, h15, h16, _, hg⟩ := h
  ⟨cell_of_block h10 0, cell_of_block h10 1, cell_of_block h10 2, cell_of_block h10 3, cell_of_block h10 4, cell_of_block h10 5, cell_of_block h10 6, cell_of_block h10 7, cell_of_block h10 8, cell_of_block h11 0, cell_of_block h11 1, cell_of_block h11 2, cell_of_block h11 3, cell_of_block h11 4, cell_of_block h11 5, cell_of_block h11 6, cell_of_block h11 7, cell_of_block h11 8, cell_of_block h13 0, cell_of_block h13 1, cell_of_block h13 2, cell_of_block h13 3, cell_of_block h14 0, cell_of_block h14 1, cell_of_block h15 0, cell_of_block h15 1, cell_of_block h15 2, cell_of_block h15 3, cell_of_block h16 0, cell_of_block h16 1, hg 0 _ rfl, hg 1 _ rfl, hg 2 _ rfl, hg 3 _ rfl, hg 4 _ rfl, hg 5 _ rfl, hg 6 _ rfl, hg 7 _ rfl, hg 8 _ rfl, hg 9 _ rfl, hg 10 _ rfl, hg 11 _ rfl, hg 12 _ rfl, hg 13 _ rfl, hg 14 _ rfl, hg 15 _ rfl, hg 16 _ rfl, hg 17 _ rfl⟩

set_option maxHeartbeats 4000000 in
theorem does_flat (w : World) (ver : Int) (_ : (Lit.int .i64 ver).wf = true) (was : ByteArray) (_ : was.size ≤ 140737488351232) (kind : Int) (_ : (Lit.int .i64 kind).wf = true) (value : ByteArray) (_ : value.size ≤ 140737488351232) (a b : It) :
    Calls Try.prog 4 #[.int .i64 ver, .string was, .int .i64 kind, .string value, .agg a.enc.toArray, .agg b.enc.toArray] w fun e w' => e = .returned (.bool true) ∧ Below w.heap.size w w' := by
  unfold D_gleberef24_Item.enc
  have hW : ∀ n, List.length [a, b] = n → n = 2 := fun n h => by simpa using h.symm
  obtain ⟨x, hx⟩ : ∃ x, doesA ⟨ver, was⟩ kind = x := ⟨_, rfl⟩
  obtain ⟨s, hs⟩ : ∃ s, doesS ⟨ver, was⟩ kind value = s := ⟨_, rfl⟩
  have hx := Lib.hid hx
  have hs := Lib.hid hs
  cases hbig : decide ((300 : Int) < (was.size : Int) + (value.size : Int))
  · go_enter Try.func4, Try.ntmps4
    go_wp2_with (fail)
    have P0 := block_alloc (block_alloc (alloc_new w (.cells (itC a) 40)) (.cells (itC b) 40)) (.cells (a.enc ++ b.enc).toArray 40)
    have P1 := block_alloc (alloc_new (w.alloc (.cells (itC a) 40)) (.cells (itC b) 40)) (.cells (a.enc ++ b.enc).toArray 40)
    refine (light_any _ 2 [a, b] 2 _ (rd_new (by simp) rfl)).mono ?_
    rintro e w1 ⟨⟨light, rfl, _⟩, hb1⟩
    have Q0 := block_kept P0 hb1
    have Q1 := block_kept P1 hb1
    have hB : Below w.heap.size w w1 := (((Below.refl _ w).alloc (Nat.le_refl _) _).alloc (by simp) _ |>.alloc (by simp <;> omega) _).trans (hb1.mono (by simp <;> omega))
    have hs1 := hb1.size
    clear P0 P1 hb1
    simp only [World.size_alloc] at Q0 Q1 hs1
    by_cases hother : light = false ∨ ver < 0 ∨ (1099511627776 : Int) < ver
    · cases light
      · go_wp2_with (go_at_call 9; refine (knows_any _).mono ?_; rintro e w2 ⟨rfl, hbk⟩)
        go_ret
        exact ⟨rfl, hB.trans (hbk.mono hB.size)⟩
      · by_cases hneg : ver < 0
        · go_wp2_with (go_at_call 9; refine (knows_any _).mono ?_; rintro e w2 ⟨rfl, hbk⟩)
          go_ret
          exact ⟨rfl, hB.trans (hbk.mono hB.size)⟩
        · have hneg' : decide (ver < 0) = false := decide_eq_false hneg
          have hlarge : decide ((1099511627776 : Int) < ver) = true := decide_eq_true (by simp_all)
          go_wp2_with (go_at_call 9; refine (knows_any _).mono ?_; rintro e w2 ⟨rfl, hbk⟩)
          go_ret
          exact ⟨rfl, hB.trans (hbk.mono hB.size)⟩
    · obtain rfl : light = true := by cases light <;> simp_all
      have hneg : decide (ver < 0) = false := decide_eq_false (by omega)
      have hlarge : decide ((1099511627776 : Int) < ver) = false := decide_eq_false (by omega)
      go_wp2_with (go_at_call 15; refine (does_any ⟨ver, was⟩ kind value _).mono ?_; rw [hx.out, hs.out]; rintro e w2 ⟨rfl, hb2⟩; simp only [anC, stC])
      refine (rdoes_any ⟨ver, was⟩ kind value _).mono ?_
      rw [hx.out, hs.out]
      rintro e w3 ⟨rfl, hb3⟩
      simp only [anC, stC]
      have hB2 := hB.trans (hb2.mono hB.size)
      have hB3 : Below w.heap.size w w3 := ((hB2.alloc hB2.size _).alloc (by have := hB2.size; simp; omega) _).trans (hb3.mono (by have := hB2.size; simp; omega))
      have R10 := block_kept (block_alloc (block_alloc (block_kept Q0 hb2) (.cells (anC x) 42)) (.cells (stC s) 44)) hb3
      have R11 := block_kept (block_alloc (block_alloc (block_kept Q1 hb2) (.cells (anC x) 42)) (.cells (stC s) 44)) hb3
      have R13 := block_kept (block_alloc (alloc_new w2 (.cells (anC x) 42)) (.cells (stC s) 44)) hb3
      have R14 := block_kept (alloc_new (w2.alloc (.cells (anC x) 42)) (.cells (stC s) 44)) hb3
      simp only [World.size_alloc] at R14
      have hl0 := lt_of_block R10
      have hl1 := lt_of_block R11
      have c0 : w3.cell? ⟨w.heap.size, 0, none⟩ = some (.int .i64 a.kind) := cell_of_block R10 0
      have c1 : w3.cell? ⟨w.heap.size, 1, none⟩ = some (.int .i64 a.begin_) := cell_of_block R10 1
      have c2 : w3.cell? ⟨w.heap.size, 2, none⟩ = some (.int .i64 a.end_) := cell_of_block R10 2
      have c3 : w3.cell? ⟨w.heap.size, 3, none⟩ = some (.bool a.open_) := cell_of_block R10 3
      have c4 : w3.cell? ⟨w.heap.size, 4, none⟩ = some (.string a.value) := cell_of_block R10 4
      have c5 : w3.cell? ⟨w.heap.size, 5, none⟩ = some (.int .i64 a.ans.e) := cell_of_block R10 5
      have c6 : w3.cell? ⟨w.heap.size, 6, none⟩ = some (.bool a.ans.found) := cell_of_block R10 6
      have c7 : w3.cell? ⟨w.heap.size, 7, none⟩ = some (.string a.ans.value) := cell_of_block R10 7
      have c8 : w3.cell? ⟨w.heap.size, 8, none⟩ = some (.int .i64 a.ans.ver) := cell_of_block R10 8
      have d0 : w3.cell? ⟨w.heap.size + 1, 0, none⟩ = some (.int .i64 b.kind) := cell_of_block R11 0
      have d1 : w3.cell? ⟨w.heap.size + 1, 1, none⟩ = some (.int .i64 b.begin_) := cell_of_block R11 1
      have d2 : w3.cell? ⟨w.heap.size + 1, 2, none⟩ = some (.int .i64 b.end_) := cell_of_block R11 2
      have d3 : w3.cell? ⟨w.heap.size + 1, 3, none⟩ = some (.bool b.open_) := cell_of_block R11 3
      have d4 : w3.cell? ⟨w.heap.size + 1, 4, none⟩ = some (.string b.value) := cell_of_block R11 4
      have d5 : w3.cell? ⟨w.heap.size + 1, 5, none⟩ = some (.int .i64 b.ans.e) := cell_of_block R11 5
      have d6 : w3.cell? ⟨w.heap.size + 1, 6, none⟩ = some (.bool b.ans.found) := cell_of_block R11 6
      have d7 : w3.cell? ⟨w.heap.size + 1, 7, none⟩ = some (.string b.ans.value) := cell_of_block R11 7
      have d8 : w3.cell? ⟨w.heap.size + 1, 8, none⟩ = some (.int .i64 b.ans.ver) := cell_of_block R11 8
      replace Q0 := Lib.hid Q0
      replace Q1 := Lib.hid Q1
      replace R10 := Lib.hid R10
      replace R11 := Lib.hid R11
      replace R13 := Lib.hid R13
      replace R14 := Lib.hid R14
      go_wp2_with (fail)
      have hsz := hB3.size
      refine (own_any _ 2 [a, b] _ (rd_new (by simp) rfl) (by simp)).mono ?_
      rintro e w4 ⟨v4, rfl, hown4, hb4⟩
      obtain ⟨g, c, rfl, hgl, _, hcells⟩ := own_succ hown4 (by simp)
      have F : DF w w.heap.size (w.heap.size + 1) w2.heap.size (w2.heap.size + 1) w3.heap.size (w3.heap.size + 1) g a b x s w4 := by
        refine ⟨(((hB3.alloc hB3.size _).alloc (by simp; omega) _).alloc (by simp; omega) _).trans (hb4.mono (by simp; omega)), block_kept (block_alloc (block_alloc (block_alloc R10.out _) _) _) hb4, block_kept (block_alloc (block_alloc (block_alloc R11.out _) _) _) hb4, block_kept (block_alloc (block_alloc (block_alloc R13.out _) _) _) hb4, block_kept (block_alloc (block_alloc (block_alloc R14.out _) _) _) hb4, block_kept (block_alloc (block_alloc (alloc_new w3 _) _) _) hb4, ?_, own_lt hown4 _ rfl, ?_⟩
        · have := block_kept (block_alloc (alloc_new (w3.alloc (.cells (anC x) 38)) (.cells (stC s) 47)) (.cells (a.enc ++ b.enc).toArray 40)) hb4
          simp only [World.size_alloc] at this
          exact this
        · intro j u hj
          exact hcells j u (by simpa [itsV] using hj)
      have Fd := F.below (Below.refl _ w4).drew
      clear hW hsz hl0 hl1 R10 R11 R13 R14 Q0 Q1 hgl hcells c0 d0 c1 d1 c2 d2 c3 d3 c4 d4 c5 d5 c6 d6 c7 d7 c8 d8
      replace hown4 := Lib.hid hown4
      replace hb4 := Lib.hid hb4
      go_wp2_with (fail)
      go_region_held3 (fun W => W.cell? ⟨w.heap.size, 0, none⟩ = some (.int .i64 a.kind) ∧ W.cell? ⟨w.heap.size, 1, none⟩ = some (.int .i64 a.begin_) ∧ W.cell? ⟨w.heap.size, 2, none⟩ = some (.int .i64 a.end_) ∧ W.cell? ⟨w.heap.size, 3, none⟩ = some (.bool a.open_) ∧ W.cell? ⟨w.heap.size, 4, none⟩ = some (.string a.value) ∧ W.cell? ⟨w.heap.size, 5, none⟩ = some (.int .i64 a.ans.e) ∧ W.cell? ⟨w.heap.size, 6, none⟩ = some (.bool a.ans.found) ∧ W.cell? ⟨w.heap.size, 7, none⟩ = some (.string a.ans.value) ∧ W.cell? ⟨w.heap.size, 8, none⟩ = some (.int .i64 a.ans.ver) ∧ W.cell? ⟨w.heap.size + 1, 0, none⟩ = some (.int .i64 b.kind) ∧ W.cell? ⟨w.heap.size + 1, 1, none⟩ = some (.int .i64 b.begin_) ∧ W.cell? ⟨w.heap.size + 1, 2, none⟩ = some (.int .i64 b.end_) ∧ W.cell? ⟨w.heap.size + 1, 3, none⟩ = some (.bool b.open_) ∧ W.cell? ⟨w.heap.size + 1, 4, none⟩ = some (.string b.value) ∧ W.cell? ⟨w.heap.size + 1, 5, none⟩ = some (.int .i64 b.ans.e) ∧ W.cell? ⟨w.heap.size + 1, 6, none⟩ = some (.bool b.ans.found) ∧ W.cell? ⟨w.heap.size + 1, 7, none⟩ = some (.string b.ans.value) ∧ W.cell? ⟨w.heap.size + 1, 8, none⟩ = some (.int .i64 b.ans.ver) ∧ W.cell? ⟨w2.heap.size, 0, none⟩ = some (.int .i64 x.e) ∧ W.cell? ⟨w2.heap.size, 1, none⟩ = some (.bool x.found) ∧ W.cell? ⟨w2.heap.size, 2, none⟩ = some (.string x.value) ∧ W.cell? ⟨w2.heap.size, 3, none⟩ = some (.int .i64 x.ver) ∧ W.cell? ⟨w2.heap.size + 1, 0, none⟩ = some (.int .i64 s.ver) ∧ W.cell? ⟨w2.heap.size + 1, 1, none⟩ = some (.string s.val) ∧ W.cell? ⟨w3.heap.size, 0, none⟩ = some (.int .i64 x.e) ∧ W.cell? ⟨w3.heap.size, 1, none⟩ = some (.bool x.found) ∧ W.cell? ⟨w3.heap.size, 2, none⟩ = some (.string x.value) ∧ W.cell? ⟨w3.heap.size, 3, none⟩ = some (.int .i64 x.ver) ∧ W.cell? ⟨w3.heap.size + 1, 0, none⟩ = some (.int .i64 s.ver) ∧ W.cell? ⟨w3.heap.size + 1, 1, none⟩ = some (.string s.val) ∧ W.cell? ⟨g, 0, none⟩ = some (.int .i64 a.kind) ∧ W.cell? ⟨g, 1, none⟩ = some (.int .i64 a.begin_) ∧ W.cell? ⟨g, 2, none⟩ = some (.int .i64 a.end_) ∧ W.cell? ⟨g, 3, none⟩ = some (.bool a.open_) ∧ W.cell? ⟨g, 4, none⟩ = some (.string a.value) ∧ W.cell? ⟨g, 5, none⟩ = some (.int .i64 a.ans.e) ∧ W.cell? ⟨g, 6, none⟩ = some (.bool a.ans.found) ∧ W.cell? ⟨g, 7, none⟩ = some (.string a.ans.value) ∧ W.cell? ⟨g, 8, none⟩ = some (.int .i64 a.ans.ver) ∧ W.cell? ⟨g, 9, none⟩ = some (.int .i64 b.kind) ∧ W.cell? ⟨g, 10, none⟩ = some (.int .i64 b.begin_) ∧ W.cell? ⟨g, 11, none⟩ = some (.int .i64 b.end_) ∧ W.cell? ⟨g, 12, none⟩ = some (.bool b.open_) ∧ W.cell? ⟨g, 13, none⟩ = some (.string b.value) ∧ W.cell? ⟨g, 14, none⟩ = some (.int .i64 b.ans.e) ∧ W.cell? ⟨g, 15, none⟩ = some (.bool b.ans.found) ∧ W.cell? ⟨g, 16, none⟩ = some (.string b.ans.value) ∧ W.cell? ⟨g, 17, none⟩ = some (.int .i64 b.ans.ver)) (first | (exact DF.cells (by assumption)))
        (first
          | (go_at_call 17; refine (refans_any x _).mono ?_; rintro e w' ⟨rfl, hbw⟩; simp only [anC]; have F' := DF.below (by assumption) hbw)
          | (go_at_call 18; refine (ahead_any a b _).mono ?_; rintro e w' ⟨rfl, hbw⟩; have F' := DF.below (by assumption) hbw)
          | (go_at_call 19; refine (rahead_any a b _).mono ?_; rintro e w' ⟨rfl, hbw⟩; have F' := DF.below (by assumption) hbw)
          | (go_at_call 9; refine (knows_any _).mono ?_; rintro e w' ⟨rfl, hbw⟩; have F' := DF.below (by assumption) hbw)
          | fail)
      all_goals go_wp2
      all_goals go_ret
      all_goals exact ⟨rfl, DF.hB (by assumption)⟩
  · go_enter Try.func4, Try.ntmps4
    go_wp2_with (go_at_call 9; refine (knows_any _).mono ?_; rintro e w1 ⟨rfl, hbk⟩)
    go_ret
    exact ⟨rfl, ((Below.refl _ w).alloc (Nat.le_refl _) _ |>.alloc (by simp) _).trans (hbk.mono (by simp <;> omega))⟩
/-- The whole law. -/
theorem does_walk (w : World) (ver : Int) (h1 : (Lit.int .i64 ver).wf = true) (was : ByteArray) (h2 : was.size ≤ 140737488351232) (kind : Int) (h3 : (Lit.int .i64 kind).wf = true) (value : ByteArray) (h4 : value.size ≤ 140737488351232)
    (ca : Array Value) (a : It) (ha : D_gleberef24_Item.k.K w a ca.toList) (cb : Array Value) (b : It) (hb : D_gleberef24_Item.k.K w b cb.toList) :
    Calls Try.prog 4 #[.int .i64 ver, .string was, .int .i64 kind, .string value, .agg ca, .agg cb] w fun e w' => e = .returned (.bool true) ∧ Below w.heap.size w w' := by
  have ea : ca = a.enc.toArray := by rw [← D_gleberef24_Item.flat ha]
  have eb : cb = b.enc.toArray := by rw [← D_gleberef24_Item.flat hb]
  rw [ea, eb]
  exact does_flat w ver h1 was h2 kind h3 value h4 a b
end Go.Proofs.Ytbengfmoimlnbaa
