/- The walk through the law's Own. -/
import Derived.Test.YtjfbiifcjiidfaaKW
import Derived.Test.YtjfbiifcjiidfaaAP
namespace Go.Proofs.Ytjfbiifcjiidfaa
open Go.RowKit

theorem List.flatMap_singleton_eq {α β : Type} (f : α → β) : ∀ l : List α, l.flatMap (fun x => [f x]) = l.map f
  | [] => rfl
  | x :: l => by simp [List.flatMap_singleton_eq f l]
theorem RdK.rd_u8 {w : World} {v : Value} {l : List Int} (h : RdK (RK.int .u8) w v l) : Rd w v l.length (byV l) := by
  have := h.flat (fun n => [Value.int .u8 n]) (fun x cs hk => hk.1) (fun _ => rfl) (by decide)
  rwa [show l.flatMap (fun n => [Value.int .u8 n]) = byV l by
    rw [List.flatMap_singleton_eq]
    rfl] at this

set_option maxHeartbeats 2000000 in
theorem own_any (x : Pc) (A : Option Addr) (c : Nat) (w : World) (h : Rd w (.slice A x.b.length c) x.b.length (byV x.b)) (hn : x.b.length ≤ 1000000) :
    Calls Try.prog 18 #[.agg #[.int .i64 x.from_, .int .i64 x.to_, .slice A x.b.length c]] w fun e w' => ∃ v', e = .returned (.agg #[.int .i64 x.from_, .int .i64 x.to_, v']) ∧ w'.ownsRow w.heap.size 5 1 v' x.b.length (byV x.b) ∧ Below w.heap.size w w' := by
  obtain ⟨i0, hi, hz0, hz1, hz2⟩ := info_parts info_byte
  have hbb : Below w.heap.size w ((w.alloc (.cells #[.int .i64 x.from_, .int .i64 x.to_, .slice A x.b.length c] 32)).alloc (.cells #[.int .i64 0, .int .i64 0, .slice none 0 0] 37)) := ((Below.refl _ w).alloc (Nat.le_refl _) _).alloc (by simp) _
  have P0 := block_alloc (alloc_new w (.cells #[.int .i64 x.from_, .int .i64 x.to_, .slice A x.b.length c] 32)) (.cells #[.int .i64 0, .int .i64 0, .slice none 0 0] 37)
  have P1 := alloc_new (w.alloc (.cells #[.int .i64 x.from_, .int .i64 x.to_, .slice A x.b.length c] 32)) (.cells #[.int .i64 0, .int .i64 0, .slice none 0 0] 37)
  rw [World.size_alloc] at P1
  have hr := h.below hbb
  replace P0 := Lib.hid P0
  replace P1 := Lib.hid P1
  replace hbb := Lib.hid hbb
  replace hr := Lib.hid hr
  clear h
  go_enter Try.func18, Try.ntmps18
  go_wp2_with (fail)
  generalize ((w.alloc (.cells #[.int .i64 x.from_, .int .i64 x.to_, .slice A x.b.length c] 32)).alloc (.cells #[.int .i64 0, .int .i64 0, .slice none 0 0] 37)) = W at P0 P1 hbb hr ⊢
  have c0 : W.cell? ⟨w.heap.size, 0, none⟩ = some (.int .i64 x.from_) := cell_of_block P0.out 0
  have c1 : W.cell? ⟨w.heap.size, 1, none⟩ = some (.int .i64 x.to_) := cell_of_block P0.out 1
  have c2 : W.cell? ⟨w.heap.size, 2, none⟩ = some (.slice A x.b.length c) := cell_of_block P0.out 2
  have d0 : W.cell? ⟨w.heap.size + 1, 0, none⟩ = some (.int .i64 0) := cell_of_block P1.out 0
  have d1 : W.cell? ⟨w.heap.size + 1, 1, none⟩ = some (.int .i64 0) := cell_of_block P1.out 1
  have d2 : W.cell? ⟨w.heap.size + 1, 2, none⟩ = some (.slice none 0 0) := cell_of_block P1.out 2
  have hlt := lt_of_block P1.out
  have hmade := World.ownsRow_made (base := w.heap.size) (e := 5) (size := 1) W.drew #[] 0 (by show w.heap.size ≤ W.heap.size; omega) (by unfold maxLen; omega) rfl
  have hb3 : Below W.heap.size W (W.drew.alloc (.cells #[] 5)) := (Below.refl _ W).drew.alloc (Nat.le_refl _) _
  have hr3 := Lib.hid (hr.out.below hb3)
  have P03 := Lib.hid (block_kept P0.out hb3)
  have P13 := Lib.hid (block_kept P1.out hb3)
  have hown3 : (W.drew.alloc (.cells #[] 5)).ownsRow w.heap.size 5 1 (.slice (some ⟨W.heap.size, 0, none⟩) 0 0) 0 [] := by simpa using hmade
  replace hown3 := Lib.hid hown3
  replace hb3 := Lib.hid hb3
  clear hmade
  have sd1 : (byV x.b).length = x.b.length * 1 := by rw [byV_length]; omega
  have sd2 : 0 + x.b.length ≤ maxLen := by unfold maxLen; omega
  have sd3 : (0 + x.b.length) * 1 ≤ 140737488355328 := by omega
  have sd4 : w.heap.size ≤ (W.drew.alloc (.cells #[] 5)).heap.size := by simp; omega
  replace sd1 := Lib.hid sd1
  replace sd2 := Lib.hid sd2
  replace sd3 := Lib.hid sd3
  replace sd4 := Lib.hid sd4
  go_region_held3 (fun W' => W'.cell? ⟨w.heap.size, 0, none⟩ = some (.int .i64 x.from_) ∧ W'.cell? ⟨w.heap.size, 1, none⟩ = some (.int .i64 x.to_) ∧ W'.cell? ⟨w.heap.size, 2, none⟩ = some (.slice A x.b.length c)) (first | go_keep)
    (first
      | (refine step_append_rd rfl (.tmp 7) (.tmp 9) 30 rfl w.heap.size 5 i0 _ 1 1 Try.underlying30 hi hz0 hz1 hz2 rfl (by decide) _ 0 [] rfl hown3.out (.slice A x.b.length c) x.b.length (byV x.b) rfl hr3.out sd1.out (byV_one _) sd2.out sd3.out sd4.out ?_; intro v2 w2 hown2 hgr hat2; have hgb : ∀ g, g < W.heap.size → some g ≠ (Value.slice (some ⟨W.heap.size, 0, none⟩) 0 0).ownBlock := (fun g hg e => by have e2 : g = W.heap.size := Option.some.inj (show some g = some W.heap.size from e); omega); have Q0 := (hgr.block w.heap.size (lt_of_block P03.out) (hgb _ (by omega))).trans P03.out; have Q1 := (hgr.block (w.heap.size + 1) (lt_of_block P13.out) (hgb _ (by omega))).trans P13.out; have q0 : w2.cell? ⟨w.heap.size, 0, none⟩ = some (.int .i64 x.from_) := cell_of_block Q0 0; have q1 : w2.cell? ⟨w.heap.size, 1, none⟩ = some (.int .i64 x.to_) := cell_of_block Q0 1; have q2 : w2.cell? ⟨w.heap.size, 2, none⟩ = some (.slice A x.b.length c) := cell_of_block Q0 2; have e0 : w2.cell? ⟨w.heap.size + 1, 0, none⟩ = some (.int .i64 0) := cell_of_block Q1 0; have e1 : w2.cell? ⟨w.heap.size + 1, 1, none⟩ = some (.int .i64 0) := cell_of_block Q1 1; have e2 : w2.cell? ⟨w.heap.size + 1, 2, none⟩ = some (.slice none 0 0) := cell_of_block Q1 2; have f0 := free_of_block Q1 0; have f1 := free_of_block Q1 1; have f2 := free_of_block Q1 2; obtain ⟨A2, c2', rfl, _⟩ := own_slice hown2; replace hown2 := Lib.hid hown2; replace hgr := Lib.hid hgr; replace hat2 := Lib.hid hat2; replace hgb := Lib.hid hgb; replace Q0 := Lib.hid Q0; replace Q1 := Lib.hid Q1)
      | fail)
  go_wp2_with (fail)
  have hs3 := set3_fr w2 (w.heap.size + 1) (.int .i64 x.from_) (.int .i64 x.to_) (.slice A2 x.b.length c2')
  have hs3b := set3_block Q1.out (.int .i64 x.from_) (.int .i64 x.to_) (.slice A2 x.b.length c2')
  generalize ((w2.setCell ⟨w.heap.size + 1, 0, none⟩ (.int .i64 x.from_)).setCell ⟨w.heap.size + 1, 1, none⟩ (.int .i64 x.to_)).setCell ⟨w.heap.size + 1, 2, none⟩ (.slice A2 x.b.length c2') = W9 at hs3 hs3b ⊢
  have r0 : W9.cell? ⟨w.heap.size + 1, 0, none⟩ = some (.int .i64 x.from_) := cell_of_block hs3b 0
  have r1 : W9.cell? ⟨w.heap.size + 1, 1, none⟩ = some (.int .i64 x.to_) := cell_of_block hs3b 1
  have r2 : W9.cell? ⟨w.heap.size + 1, 2, none⟩ = some (.slice A2 x.b.length c2') := cell_of_block hs3b 2
  have hB2 : Below w.heap.size w w2 := (hbb.out.trans (((Below.refl W.heap.size W).alloc (Nat.le_refl _) _).drew.mono hbb.out.size)).grown hgr.out (by simp; omega) (fun k hk => by have e2 : W.heap.size = k := Option.some.inj (show some W.heap.size = some k from hk); omega)
  have hB9 : Below w.heap.size w W9 := hB2.trans (hs3.below hB2.size (fun k hk e => by omega))
  have hne : ∀ g, (Value.slice A2 x.b.length c2').ownBlock = some g → g ≠ w.heap.size + 1 := by
    intro g hg e
    have hat3 := hat2.out
    rw [Nat.zero_add] at hat3
    rcases hat3 with h | h
    · rw [hg] at h
      have e2 : g = W.heap.size := Option.some.inj (show some g = some W.heap.size from h)
      omega
    · rw [hg] at h
      have e2 : g = W.heap.size + 1 := by simpa using Option.some.inj h
      omega
  have hown4 := hown2.out
  rw [Nat.zero_add, List.nil_append] at hown4
  have hR9 := own_fr hown4 hs3 (fun g hg e => hne g hg e)
  refine bodyPost_ret (v := .agg #[.int .i64 x.from_, .int .i64 x.to_, .slice A2 x.b.length c2']) (by simp [results, Try.results18, go_sem, r0, r1, r2]) rfl ⟨_, rfl, ?_, hB9⟩
  exact hR9
end Go.Proofs.Ytjfbiifcjiidfaa
