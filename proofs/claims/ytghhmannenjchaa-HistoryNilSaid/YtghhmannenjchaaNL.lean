/- No history, and one that nobody made: HistoryNil. -/
import Derived.Test.YtghhmannenjchaaKW
import Derived.Test.YtghhmannenjchaaNE
import Derived.Test.YtghhmannenjchaaXP
namespace Go.Proofs.Ytghhmannenjchaa
open Go.RowKit

theorem info_act : (Try.prog.info? 44).map (fun i => (i.size, i.zero.isSome)) = some (22, true) := by kernel_rfl
theorem act_list_one (a : Ac) (A : Option Addr) (n c : Nat) : ∀ v ∈ D_glebelaw24_Act.cs a (.slice A n c), v.oneCell' = true := by
  have : (D_glebelaw24_Act.cs a (.slice A n c)).all (·.oneCell') = true := by simp [D_glebelaw24_Act.cs, Value.oneCell']
  exact List.all_eq_true.1 this
set_option maxHeartbeats 4000000 in
set_option maxRecDepth 100000 in
theorem nil_walk (w : World) (cs : Array Value) (a : Ac) (hx : D_glebelaw24_Act.k.K w a cs.toList) :
    Calls Try.prog 4 #[.agg cs] w fun e w' => e = .returned (.bool true) ∧ Below w.heap.size w w' := by
  obtain ⟨rv, hcs, hrv, _⟩ := D_glebelaw24_Act.cells hx
  obtain ⟨Ar, cr, rfl⟩ := hrv.slice
  obtain ⟨i0, hi0, hi1⟩ : ∃ i, Try.prog.info? 44 = some i ∧ (i.size, i.zero.isSome) = (22, true) := by
    have := info_act
    cases h : Try.prog.info? 44 with
    | none => rw [h] at this; cases this
    | some i => rw [h] at this; exact ⟨i, rfl, by simpa using this⟩
  obtain ⟨hi1, hi2⟩ := Prod.mk.inj hi1
  have hi1 : i0.size = 22 := hi1
  obtain ⟨z0, hz0⟩ := Option.isSome_iff_exists.1 hi2
  have hR0 : D_glebelaw24_Act.cs a (.slice Ar a.r.recs.length cr) = [.int .i64 a.kind, .int .i64 a.node, .int .i64 a.now] ++ D_gleberef19_Result.cs a.r (.slice Ar a.r.recs.length cr) ++ [] := by simp [D_glebelaw24_Act.cs, D_gleberef19_Result.cs]
  have hone := act_list_one a Ar a.r.recs.length cr
  have hlen : (D_glebelaw24_Act.cs a (.slice Ar a.r.recs.length cr)).length = 22 := rfl
  generalize D_glebelaw24_Act.cs a (.slice Ar a.r.recs.length cr) = L at *
  obtain rfl : cs = L.toArray := Array.ext' (by simpa using hcs)
  have hb0 : Below w.heap.size w (w.alloc (.cells L.toArray 44)) := (Below.refl _ w).alloc (Nat.le_refl _) _
  have hbox := alloc_new w (.cells L.toArray 44)
  have hrg : (w.alloc (.cells L.toArray 44)).rangeAt w.heap.size 0 L := range_mid [] L [] (by simpa using hbox)
  have hR : RdK D_glebelaw24_Act.k ((w.alloc (.cells L.toArray 44)).alloc (.cells L.toArray 44)) (.slice (some ⟨w.heap.size + 1, 0, none⟩) [a].length 1) [a] := by
    refine .inr ⟨w.heap.size + 1, 0, 1, rfl, Nat.le_refl _, by unfold maxLen; omega, by simp, fun j x hj => ?_⟩
    obtain ⟨rfl, rfl⟩ : j = 0 ∧ a = x := by
      cases j with
      | zero => exact ⟨rfl, by simpa using hj⟩
      | succ j => simp at hj
    refine ⟨L, by rw [hlen]; rfl, D_glebelaw24_Act.k.below ((hb0.mono (Nat.le_refl _)).trans ((Below.refl _ _).alloc (by simp) _)) (by simpa using hx), fun i u hu => ?_⟩
    have hn := alloc_new (w.alloc (.cells L.toArray 44)) (.cells L.toArray 44)
    rw [World.size_alloc] at hn
    rw [cell_of_block hn]
    simpa using hu
  have hl1 := light_any (some ⟨w.heap.size + 1, 0, none⟩) 1 [a] _ hR
  have hbox2 := block_alloc hbox (.cells L.toArray 44)
  have hb1 := hb0.alloc (by simp) (.cells L.toArray 44)
  have hrv1 := hrv.below hb1
  generalize hW0 : w.alloc (.cells L.toArray 44) = W0 at *
  have hs0 : W0.heap.size = w.heap.size + 1 := by rw [← hW0]; simp
  replace hl1 := Lib.hid hl1
  replace hone := Lib.hid hone
  replace hbox2 := Lib.hid hbox2
  replace hb1 := Lib.hid hb1
  replace hrv1 := Lib.hid hrv1
  replace hR0 := Lib.hid hR0
  replace hrg := Lib.hid hrg
  replace hs0 := Lib.hid hs0
  replace hlen := Lib.hid hlen
  replace hi1 := Lib.hid hi1
  clear hx hcs hrv hbox hb0 hR hi2
  go_enter Try.func4, Try.ntmps4
  go_wp2_with (first
    | ((with_reducible (show wpList _ _ _ (⟨_, .load 44 _, _, _, _, _⟩ :: _) _ _)); refine wpList_load_mid rfl 44 _ rfl w.heap.size 0 rfl L _ hrg.out Try.underlying44 rfl (by rw [hi0]; simp [hi1.out, hlen.out]) ?_)
    | ((with_reducible (show wpList _ _ _ (⟨_, .buildSlice 22 _ _, _, _, _, _⟩ :: _) _ _)); refine wpList_slice1 rfl 22 _ rfl 44 i0 z0 L.toArray rfl Try.underlying22 hi0 hz0 (by simp [hi1.out, hlen.out]) (by simp [hlen.out]) (by simp [hlen.out]) ?_)
    | fail)
  trace "1"
  rw [hs0.out]
  refine hl1.out.mono ?_
  rintro e w1 ⟨⟨r, rfl, hl⟩, hb2⟩
  have hb3 := hb1.out.trans (hb2.mono hb1.out.size)
  have hbox3 := block_kept hbox2.out hb2
  have hrv2 := hrv1.out.below hb2
  have hrg2 : w1.rangeAt w.heap.size 0 L := range_mid [] L [] (by simpa using hbox3)
  replace hb2 := Lib.hid hb2
  replace hb3 := Lib.hid hb3
  replace hbox3 := Lib.hid hbox3
  replace hrv2 := Lib.hid hrv2
  replace hrg2 := Lib.hid hrg2
  cases r
  · clear hl
    go_wp2_with (go_at_call 6; refine (knows_any _).mono ?_; rintro e w2 ⟨rfl, hB2⟩; replace hB2 := Lib.hid hB2)
    go_ret
    exact ⟨rfl, hb3.out.trans (hB2.out.mono hb3.out.size)⟩
  have hrecs : a.r.recs.length ≤ 1000 := by have := (hl rfl).2 a (by simp); omega
  clear hl
  have hrg3 : w1.rangeAt w.heap.size 3 (D_gleberef19_Result.cs a.r (.slice Ar a.r.recs.length cr)) := by
    have := hbox3.out
    rw [hR0.out] at this
    exact range_mid [.int .i64 a.kind, .int .i64 a.node, .int .i64 a.now] _ [] this
  replace hrg3 := Lib.hid hrg3
  have hlw := lt_of_block hbox3.out
  go_wp2_with (first
    | ((with_reducible (show wpList _ _ _ (⟨_, .load 42 _, _, _, _, _⟩ :: _) _ _)); refine wpList_load_mid rfl 42 _ rfl w.heap.size 3 rfl (D_gleberef19_Result.cs a.r (.slice Ar a.r.recs.length cr)) _ hrg3.out Try.underlying42 rfl (info_res_l _ _) ?_)
    | fail)
  trace "2"
  refine (own_any a.r Ar cr w1 hrv2.out hrecs).mono ?_
  rintro e w2 ⟨v', rfl, hown, hb4⟩
  obtain ⟨A2, c2, rfl, _⟩ := own_slice hown
  have hbox4 := block_kept hbox3.out hb4
  have hb5 := hb3.out.trans (hb4.mono hb3.out.size)
  have hlw2 := lt_of_block hbox4
  have hone2 := res_one a.r A2 a.r.recs.length c2
  have hlen2 : (D_gleberef19_Result.cs a.r (.slice A2 a.r.recs.length c2)).toArray.size = 19 := rfl
  generalize (D_gleberef19_Result.cs a.r (.slice A2 a.r.recs.length c2)).toArray = C2 at *
  have hinf : (Try.prog.info? 53).map (·.size) = some 19 := by kernel_rfl
  have hX := alloc_new w2 (.cells C2 53)
  have hB6 := hb5.alloc hb5.size (.cells C2 53)
  have hinv := inv_two (P := Try.prog) (B := w.heap.size) (w2.alloc (.cells C2 53)) (block_alloc hbox4 (.cells C2 53)) hX (Nat.le_refl _) (by have := hb5.size; omega) (by omega) (by simp [hlen.out] : L.toArray.size = 22) hlen2 (by simpa using hone.out) (fun v hv => List.all_eq_true.1 (by rw [Array.all_toList]; exact hone2 : C2.toList.all (·.oneCell') = true) v hv) hB6.size
  replace hinv := Lib.hid hinv
  replace hB6 := Lib.hid hB6
  replace hone2 := Lib.hid hone2
  replace hlen2 := Lib.hid hlen2
  clear hown hb4 hX hb5 hbox4
  go_wp2_with (first
    | ((with_reducible (show wpList _ _ _ (⟨_, .store 53 _ _, _, _, _, _⟩ :: _) _ _)); refine wpList_store_new rfl 53 _ _ rfl _ C2 rfl rfl (hinf.trans (congrArg some hlen2.out.symm)) (Eq.trans rfl hlen2.out.symm) hone2.out ?_; refine wpList_nil ?_; refine (by assumption : ∀ (a : Act) (w : World), _ → _) _ _ ?_; refine Hid.out (?_ : Hid _))
    | fail)
  refine Lib.hid ?_
  refine tail_wp (r := 2) Try.results4 (fuel := 100000) (d := 60) (N := 69) (T := slots [(1, .pointer (some ⟨0, 0, none⟩)), (2, .bool false), (3, .pointer none), (4, .pointer (some ⟨1, 0, none⟩))]) (by kernel_rfl) hinv.out ?_ ?_
  · refine slots_tr ?_ ?_ (fun x hx => ?_)
    · rfl
    · rfl
    simp only [List.mem_cons, List.not_mem_nil, or_false] at hx
    rcases hx with rfl | rfl | rfl | rfl
    · exact ⟨_, rfl, .ptr _ _ _ 0 rfl⟩
    · exact ⟨_, rfl, .bool _⟩
    · exact ⟨_, rfl, .nilp⟩
    · exact ⟨_, rfl, .ptr _ _ _ 0 rfl⟩
  · intro w' hb
    exact ⟨rfl, hB6.out.trans (hb.mono (by have := hB6.out.size; omega))⟩
end Go.Proofs.Ytghhmannenjchaa
