/- The walk through the law's Light. -/
import Derived.Test.YtghhmannenjchaaLI
import Derived.Test.YtghhmannenjchaaWD
namespace Go.Proofs.Ytghhmannenjchaa
open Go.RowKit

theorem info_res : (Try.prog.info? 42).map (·.size) = some 19 := by kernel_rfl
theorem info_res_l (x : D_gleberef19_Result) (v : Value) : (Try.prog.info? 42).map (·.size) = some (D_gleberef19_Result.cs x v).length := info_res
theorem info_res_a (x : D_gleberef19_Result) (v : Value) : (Try.prog.info? 42).map (·.size) = some (D_gleberef19_Result.cs x v).toArray.size := info_res
theorem ActAt.range {w : World} {A : Option Addr} {k : Nat} {a : Ac} {g o : Nat} {rv : Value} (h : ActAt w A k a g o rv) : w.rangeAt g (o + k * 22 + 3) (D_gleberef19_Result.cs a.r rv) := fun j v hv => by
  have := h.c (3 + j) v (by rw [show D_glebelaw24_Act.cs a rv = .int .i64 a.kind :: .int .i64 a.node :: .int .i64 a.now :: D_gleberef19_Result.cs a.r rv from rfl, Nat.add_comm 3 j]; simpa using hv)
  rwa [← Nat.add_assoc] at this
theorem res_one (x : D_gleberef19_Result) (A : Option Addr) (n c : Nat) : (D_gleberef19_Result.cs x (.slice A n c)).toArray.all (·.oneCell') = true := by simp [D_gleberef19_Result.cs, Value.oneCell']
def LightAns (l : List Ac) (e : Ending) : Prop := ∃ r, e = .returned (.bool r) ∧ (r = true → l.length ≤ 40 ∧ ∀ a ∈ l, a.r.recs.length ≤ 20)
set_option maxHeartbeats 1000000 in
theorem light_any (A : Option Addr) (c : Nat) (l : List Ac) (w : World) (hv : RdK D_glebelaw24_Act.k w (.slice A l.length c) l) :
    Calls Try.prog 5 #[.slice A l.length c] w fun e w' => LightAns l e ∧ Below w.heap.size w w' := by
  have hat := fun k hk => act_at hv k hk
  replace hat := Lib.hid hat
  have hle : l.length ≤ 9223372036854775807 := by have := hv.le; unfold maxLen at this; omega
  go_enter Try.func5, Try.ntmps5
  go_wp2
  go_loopw [3] (fun i wr => ∃ k : Nat, k ≤ l.length ∧ k ≤ 50 ∧ i = .int .i64 k ∧ Hid ((∀ a ∈ l.take k, a.r.recs.length ≤ 20) ∧ Below w.heap.size w wr)) (fun i _ => 50 - (intOf i).toNat)
  case atStart => exact ⟨0, Nat.zero_le _, by omega, rfl, Lib.hid ⟨(fun a h => by simp at h), Below.refl _ _⟩⟩
  case round =>
    obtain ⟨k, hk, hk2, rfl, HA⟩ := hrel
    obtain ⟨hAll, hB⟩ := HA.out
    by_cases hlt : k < l.length ∧ k < 50
    · obtain ⟨hlt, hl2⟩ := hlt
      obtain ⟨g, o, rv, H0⟩ := hat.out k hlt
      have H := H0.below hB
      obtain rfl := H.A
      have hi0 : (k : Int) < (l.length : Int) := by omega
      have hi1 : decide (k < l.length) = true := decide_eq_true hlt
      have hi2 : decide ((k : Int) < 50) = true := decide_eq_true (by omega)
      have hsn : List.take (k + 1) l = List.take k l ++ [l[k]] := List.take_succ_eq_append_getElem hlt
      generalize l[k] = a at *
      have hrv := H.recs
      obtain ⟨Ar, cr, rfl⟩ := hrv.slice
      have hrng := H.range
      have hX := alloc_new wr (.cells (D_gleberef19_Result.cs a.r (.slice Ar a.r.recs.length cr)).toArray 42)
      have hbX : Below wr.heap.size wr (wr.alloc (.cells (D_gleberef19_Result.cs a.r (.slice Ar a.r.recs.length cr)).toArray 42)) := (Below.refl _ _).alloc (Nat.le_refl _) _
      have hrv1 := hrv.below hbX
      replace H := Lib.hid H
      replace H0 := Lib.hid H0
      replace hsn := Lib.hid hsn
      replace hX := Lib.hid hX
      replace hbX := Lib.hid hbX
      replace hrv := Lib.hid hrv
      replace hrv1 := Lib.hid hrv1
      replace hAll := Lib.hid hAll
      replace hB := Lib.hid hB
      replace hrng := Lib.hid hrng
      go_upto_region 5 with (first
        | (with_reducible (show wpList _ _ _ (⟨_, .load 42 _, _, _, _, _⟩ :: _) _ _); refine wpList_load_mid rfl 42 _ rfl g (o + k * 22 + 3) rfl (D_gleberef19_Result.cs a.r (.slice Ar a.r.recs.length cr)) _ hrng.out Try.underlying42 rfl (info_res_l _ _) ?_)
        | (with_reducible (show wpList _ _ _ (⟨_, .store 42 _ _, _, _, _, _⟩ :: _) _ _); refine wpList_store_new rfl 42 _ _ rfl _ (D_gleberef19_Result.cs a.r (.slice Ar a.r.recs.length cr)).toArray rfl rfl (info_res_a _ _) rfl (res_one _ _ _ _) ?_)
        | fail)
      generalize wr.alloc (.cells (D_gleberef19_Result.cs a.r (.slice Ar a.r.recs.length cr)).toArray 42) = W1 at *
      have q3 : W1.cell? ⟨wr.heap.size, 18, none⟩ = some (.slice Ar a.r.recs.length cr) := cell_of_block hX.out 18
      have hb1 := hB.out.trans (hbX.out.mono hB.out.size)
      replace hb1 := Lib.hid hb1
      go_wp2_with (fail)
      refine (light8_any Ar cr a.r.recs W1 hrv1.out).mono ?_
      rintro e w2 ⟨⟨r, rfl⟩, hb2⟩
      have hX2 := block_kept hX.out hb2
      have hb3 := hb1.out.trans (hb2.mono hb1.out.size)
      have z0 : w2.cell? ⟨wr.heap.size, 5, none⟩ = some (.string a.r.call.op.key) := cell_of_block hX2 5
      have z1 : w2.cell? ⟨wr.heap.size, 6, none⟩ = some (.string a.r.call.op.value) := cell_of_block hX2 6
      have z2 : w2.cell? ⟨wr.heap.size, 16, none⟩ = some (.string a.r.ans.value) := cell_of_block hX2 16
      have z3 : w2.cell? ⟨wr.heap.size, 18, none⟩ = some (.slice Ar a.r.recs.length cr) := cell_of_block hX2 18
      replace hb2 := Lib.hid hb2
      replace hb3 := Lib.hid hb3
      replace hX2 := Lib.hid hX2
      clear q3
      cases r
      · go_wp2_with (fail)
        go_ret
        exact ⟨⟨false, rfl, fun h => by cases h⟩, hb3.out⟩
      · cases hbig : decide ((20 : Int) < (a.r.recs.length : Int))
        · have hle2 : a.r.recs.length ≤ 20 := by simp at hbig; omega
          replace hle2 := Lib.hid hle2
          cases hsum : decide ((400 : Int) < wrap64 (wrap64 ((a.r.call.op.key.size : Int) + a.r.call.op.value.size) + a.r.ans.value.size))
          · go_wp2_with (fail)
            go_roundw
            case rel => exact ⟨k + 1, by omega, by omega, by go_num, Lib.hid ⟨by
              rw [hsn.out]
              intro b hb
              rcases List.mem_append.1 hb with hb | hb
              · exact hAll.out b hb
              · simp at hb; subst hb; exact hle2.out, hb3.out⟩⟩
            case measure => simp [intOf]; omega
          · go_wp2_with (fail)
            go_ret
            exact ⟨⟨false, rfl, fun h => by cases h⟩, hb3.out⟩
        · go_wp2_with (fail)
          go_ret
          exact ⟨⟨false, rfl, fun h => by cases h⟩, hb3.out⟩
    · by_cases hll : k < l.length
      · obtain rfl : k = 50 := by omega
        have hi0 : ((50 : Nat) : Int) < (l.length : Int) := by omega
        have hi1 : decide (50 < l.length) = true := decide_eq_true hll
        have hi2 : decide ((l.length : Int) ≤ 40) = false := decide_eq_false (by omega)
        go_wp2_with (fail)
        go_ret
        exact ⟨⟨false, rfl, fun h => by cases h⟩, hB⟩
      · obtain rfl : k = l.length := by omega
        rw [List.take_length] at hAll
        cases hl4 : decide ((l.length : Int) ≤ 40)
        · go_wp2_with (fail)
          go_ret
          exact ⟨⟨false, rfl, fun h => by cases h⟩, hB⟩
        · have h40 : l.length ≤ 40 := by simp at hl4; omega
          replace h40 := Lib.hid h40
          go_wp2_with (fail)
          go_ret
          exact ⟨⟨true, rfl, fun _ => ⟨h40.out, hAll⟩⟩, hB⟩

end Go.Proofs.Ytghhmannenjchaa
