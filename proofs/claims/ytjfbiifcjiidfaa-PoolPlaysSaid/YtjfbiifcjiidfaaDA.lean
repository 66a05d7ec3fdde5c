/- The walk through slices.Delete of one parcel. -/
import Derived.Test.YtjfbiifcjiidfaaDE
namespace Go.Proofs.Ytjfbiifcjiidfaa
open Go.RowKit

def delC (cur : Array Value) (n k : Nat) : Array Value := setL (setL cur (k * 3) ((cur.toList.take (n * 3)).drop ((k + 1) * 3))) ((n - 1) * 3) [.int .i64 0, .int .i64 0, .slice none 0 0]
set_option maxHeartbeats 2000000 in
theorem delete_any (g cap n k : Nat) (cur : Array Value) (w : World) (hh : w.heap[g]? = some (.cells cur 37 (0, 0))) (hcs : cur.size = cap * 3) (hone : ∀ u ∈ cur.toList.take (n * 3), u.oneCell' = true) (hnc : n ≤ cap) (hk : k < n) :
    Calls Try.prog 32 #[.slice (some ⟨g, 0, none⟩) n cap, .int .i64 k, .int .i64 ((k : Int) + 1)] w fun e w' => e = .returned (.slice (some ⟨g, 0, none⟩) (n - 1) cap) ∧ w'.heap[g]? = some (.cells (delC cur n k) 37 (0, 0)) ∧ Fr (fun j => j = g) w w' := by
  have h1 : (k : Int) ≤ (n : Int) := by omega
  have h2 : (k : Int) + 1 ≤ (n : Int) := by omega
  have h3 : (n : Int) ≤ (cap : Int) := by omega
  have h4 : ((k : Int) == (k : Int) + 1) = false := beq_eq_false_iff_ne.2 (by omega)
  have h6 : (0 : Int) ≤ (k : Int) + 1 := by omega
  have hic : k ≤ cap := by omega
  have hjc : k + 1 ≤ cap := by omega
  have hjn : k + 1 ≤ n := by omega
  obtain ⟨i0, hi, hz0, hz1, hz2⟩ := info_parts (show (Try.prog.info? 37).map (fun i => (i.zero, i.size, i.bytes)) = some (some (.agg #[.int .i64 0, .int .i64 0, .slice none 0 0]), 3, 40) by kernel_rfl)
  obtain ⟨news, hnews⟩ : ∃ news, news = (cur.toList.take (n * 3)).drop ((k + 1) * 3) := ⟨_, rfl⟩
  have hlen : news.length = (n - (k + 1)) * 3 := by rw [hnews, List.length_drop, List.length_take, Array.length_toList, hcs]; omega
  obtain ⟨A, hA, hsrc⟩ : ∃ A : Addr, (if cap = k + 1 then some (⟨g, 0, none⟩ : Addr) else some ⟨g, (k + 1) * 3, none⟩) = some A ∧ (∀ t u, news[t]? = some u → w.drew.cell? (A.add t) = some u) := by
    by_cases h : cap = k + 1
    · refine ⟨⟨g, 0, none⟩, by simp [h], fun t u hu => ?_⟩
      have h0 : news.length = 0 := by rw [hlen]; omega
      rw [List.length_eq_zero_iff.1 h0] at hu
      simp at hu
    · refine ⟨⟨g, (k + 1) * 3, none⟩, by simp [h], fun t u hu => ?_⟩
      rw [Addr.add_lit]
      show w.cell? _ = _
      rw [cell_of_block hh, ← Array.getElem?_toList]
      have ht := (List.getElem?_eq_some_iff.1 hu).1
      rw [hnews, List.getElem?_drop, List.getElem?_take_of_lt (by omega)] at hu
      exact hu
  have hones : ∀ u ∈ news, u.oneCell' = true := fun u hu => hone u (List.mem_of_mem_drop (hnews ▸ hu))
  have hsp : ∀ j, j < news.length → (w.drew.cell? ⟨g, 0 + k * 3 + j, none⟩).isSome = true ∧ w.drew.frozen? ⟨g, 0 + k * 3 + j, none⟩ = false := by
    intro j hj
    refine ⟨?_, free_of_block hh _⟩
    show (w.cell? _).isSome = true
    rw [cell_of_block hh, Array.getElem?_eq_getElem (by omega)]
    rfl
  obtain ⟨q, hq⟩ : ∃ q, q = k + (n - (k + 1)) := ⟨_, rfl⟩
  have hqn : q = n - 1 := by omega
  obtain ⟨W1, hW1⟩ : ∃ W1, W1 = w.drew.setCells g (0 + k * 3) news := ⟨_, rfl⟩
  have hB1 : W1.heap[g]? = some (.cells (setL cur (k * 3) news) 37 (0, 0)) := by rw [hW1, Nat.zero_add]; exact block_setCells (w := w.drew) _ _ hh
  have hF1 : Fr (fun j => j = g) w W1 := by rw [hW1]; exact fr_setCells (S := fun j => j = g) rfl _ _ ((Fr.refl _ w).drew)
  have hcl : ∀ ty, (Builtin.clear_ #[41] ty #[.slice (some ⟨g, (k + (n - (k + 1))) * 3, none⟩) (n - (k + (n - (k + 1)))) (cap - (k + (n - (k + 1))))]).run Try.prog W1 = .ok (.tuple #[]) (W1.setCells g ((k + (n - (k + 1))) * 3) [.int .i64 0, .int .i64 0, .slice none 0 0]) := by
    intro ty
    rw [← hq, show n - q = 1 by omega]
    refine run_clear_pc W1 ty g (q * 3) _ (fun j hj => ?_) (fun j hj => free_of_block hB1 _)
    rw [cell_of_block hB1, Array.getElem?_eq_getElem (by rw [setL_size, hcs]; omega)]
    rfl
  have hend : (W1.setCells g ((k + (n - (k + 1))) * 3) [.int .i64 0, .int .i64 0, .slice none 0 0]).heap[g]? = some (.cells (delC cur n k) 37 (0, 0)) := by
    rw [← hq, hqn]
    unfold delC
    rw [← hnews]
    exact block_setCells _ _ hB1
  have hF2 : Fr (fun j => j = g) w (W1.setCells g ((k + (n - (k + 1))) * 3) [.int .i64 0, .int .i64 0, .slice none 0 0]) := fr_setCells (S := fun j => j = g) rfl _ _ hF1
  have hret : k + (n - (k + 1)) = n - 1 := by omega
  have hcapne : ¬ cap = k + (n - (k + 1)) := by omega
  replace hend := Lib.hid hend
  replace hF2 := Lib.hid hF2
  replace hret := Lib.hid hret
  replace hW1 := Lib.hid hW1
  clear hB1 hF1 hq hqn
  replace hnews := Lib.hid hnews
  replace hsrc := Lib.hid hsrc
  replace hones := Lib.hid hones
  replace hsp := Lib.hid hsp
  replace hone := Lib.hid hone
  replace hh := Lib.hid hh
  go_enter Try.func32, Try.ntmps32
  go_wp2_with (fail)
  go_region_law (refine step_append_room rfl (.tmp 22) (.tmp 25) 41 rfl 37 i0 3 Try.underlying41 hi hz1 g 0 k cap (by simp [Act.eval, Act.put]) A (n - (k + 1)) (cap - (k + 1)) news (by simp [Act.eval, Act.put]) hlen hsrc.out hones.out (by omega) hsp.out ?_; rw [← hW1.out])
  go_wp2_with (fail)
  go_ret
  exact ⟨by rw [hret.out]; rfl, hend.out, hF2.out⟩

theorem delC_take (cur : Array Value) (cap n k : Nat) (hcs : cur.size = cap * 3) (hnc : n ≤ cap) (hk : k < n) :
    (delC cur n k).toList.take ((n - 1) * 3) = (cur.toList.take (n * 3)).take (k * 3) ++ (cur.toList.take (n * 3)).drop ((k + 1) * 3) := by
  have hl : (cur.toList.take (n * 3)).length = n * 3 := by rw [List.length_take, Array.length_toList, hcs]; omega
  have hs : (setL cur (k * 3) ((cur.toList.take (n * 3)).drop ((k + 1) * 3))).size = cap * 3 := by rw [setL_size, hcs]
  apply List.ext_getElem?
  intro j
  by_cases hj : j < (n - 1) * 3
  · rw [List.getElem?_take_of_lt hj, Array.getElem?_toList]
    unfold delC
    rw [setL_at _ _ _ _ (by rw [hs]; simp; omega), if_neg (by omega), setL_at _ _ _ _ (by rw [List.length_drop, hl, hcs]; omega)]
    by_cases h1 : j < k * 3
    · rw [if_neg (by omega), List.getElem?_append_left (by rw [List.length_take, hl]; omega), List.getElem?_take_of_lt h1, List.getElem?_take_of_lt (by omega), Array.getElem?_toList]
    · rw [if_pos (by rw [List.length_drop, hl]; omega), List.getElem?_append_right (by rw [List.length_take, hl]; omega), List.length_take, hl, Nat.min_eq_left (by omega)]
  · rw [List.getElem?_eq_none (by rw [List.length_take]; omega), List.getElem?_eq_none (by rw [List.length_append, List.length_take, List.length_drop, hl]; omega)]
theorem delete_own {base n : Nat} {v : Value} {xs : List Value} {w : World} (h : w.ownsRow base 37 3 v n xs) (hone : ∀ u ∈ xs, u.oneCell' = true) (k : Nat) (hk : k < n) :
    Calls Try.prog 32 #[v, .int .i64 k, .int .i64 ((k : Int) + 1)] w fun e w' => ∃ v', e = .returned v' ∧ v'.ownBlock = v.ownBlock ∧ w'.ownsRow base 37 3 v' (n - 1) (xs.take (k * 3) ++ xs.drop ((k + 1) * 3)) ∧ Fr (fun j => v.ownBlock = some j) w w' := by
  obtain ⟨hl, h⟩ := h
  rcases h with ⟨rfl, rfl⟩ | ⟨g, cap, cur, rfl, hb, hh, hc, hm, hs, ht⟩
  · omega
  · refine (delete_any g cap n k cur w hh hs (ht ▸ hone) hc hk).mono ?_
    rintro e w' ⟨rfl, hh', hf⟩
    refine ⟨_, rfl, rfl, ⟨?_, .inr ⟨g, cap, _, rfl, hb, hh', by omega, hm, ?_, ?_⟩⟩, hf.mono (fun i _ hi => by rw [hi]; rfl)⟩
    · rw [List.length_append, List.length_take, List.length_drop, hl]; omega
    · unfold delC; rw [setL_size, setL_size, hs]
    · rw [delC_take cur cap n k hs hc hk, ht]
end Go.Proofs.Ytjfbiifcjiidfaa
