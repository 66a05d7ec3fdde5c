/- Which configurations may be, and which nodes there are: NodeConfigs, the numbers in classes. Printed by mkconfigs.py. -/
import Derived.Test.YtcllmbmgchhigaaGreatM0
import Derived.Test.YtcllmbmgchhigaaGreatM1
import Derived.Test.YtcllmbmgchhigaaGreatM2
import Derived.Test.YtcllmbmgchhigaaGreatM3
import Derived.Test.YtcllmbmgchhigaaGreatM4
import Derived.Test.YtcllmbmgchhigaaGreatM5
import Derived.Test.YtcllmbmgchhigaaGreatM6
import Derived.Test.YtcllmbmgchhigaaGreatM7
namespace Go.Proofs.YtcllmbmgchhigaaGreat
open Go.RowKit

theorem configs_walk (w : World) (k : Int) (hk : (Lit.int .i64 k).wf = true) (h : Int) (hh : (Lit.int .i64 h).wf = true) (a : Int) (ha : (Lit.int .i64 a).wf = true) (l : Int) (hl : (Lit.int .i64 l).wf = true) (n : Int) (hn : (Lit.int .i64 n).wf = true) (m : Int) (hm : (Lit.int .i64 m).wf = true) (f : Bool) :
    Calls Tryz.prog 3 #[.int .i64 k, .int .i64 h, .int .i64 a, .int .i64 l, .int .i64 n, .int .i64 m, .bool f] w fun e w' => e = .returned (.bool true) ∧ Below w.heap.size w w' := by
  have hk := wf_i64 hk
  have hh := wf_i64 hh
  have ha := wf_i64 ha
  have hl := wf_i64 hl
  have hn := wf_i64 hn
  have hm := wf_i64 hm
  have go : ∀ {v0 v1 v2 v3 v4 v5 v6 : Value}, goC [v0, v1, v2, v3, v4, v5, v6] = true → (∀ σ : Sg, VR σ v0 (.int .i64 k) ∧ VR σ v1 (.int .i64 h) ∧ VR σ v2 (.int .i64 a) ∧ VR σ v3 (.int .i64 l) ∧ VR σ v4 (.int .i64 n) ∧ VR σ v5 (.int .i64 m) ∧ VR σ v6 (.bool f)) → Calls Tryz.prog 3 #[.int .i64 k, .int .i64 h, .int .i64 a, .int .i64 l, .int .i64 n, .int .i64 m, .bool f] w fun e w' => e = .returned (.bool true) ∧ Below w.heap.size w w' := fun hr hv =>
    run_trueD (fun _ => undef) (fun _ _ _ _ h => nomatch h) (ovTrue_ok knows_any) (by
      obtain ⟨q0, q1, q2, q3, q4, q5, q6⟩ := hv (ctx0 (fun _ => undef) w (fun _ _ _ _ h => nomatch h)).σ
      exact VRs.cons q0 (VRs.cons q1 (VRs.cons q2 (VRs.cons q3 (VRs.cons q4 (VRs.cons q5 (VRs.cons q6 (VRs.nil _)))))))) hr
  have num : ∀ {σ : Sg} {lo hi x : Int}, -9223372036854775808 ≤ lo ∧ lo ≤ x ∧ x ≤ hi → VR σ (numA lo hi) (.int .i64 x) := fun q => VR.num q.1 q.2.1 q.2.2
  by_cases c0low : k ≤ 0
  · exact go run_k_low fun σ => ⟨num (by omega), num (by omega), num (by omega), num (by omega), num (by omega), num (by omega), .ub _⟩
  by_cases c0top : 17 ≤ k
  · exact go run_k_top fun σ => ⟨num (by omega), num (by omega), num (by omega), num (by omega), num (by omega), num (by omega), .ub _⟩
  by_cases c1low : h ≤ -1
  · exact go run_h_low fun σ => ⟨num (by omega), num (by omega), num (by omega), num (by omega), num (by omega), num (by omega), .ub _⟩
  by_cases c1top : 5 ≤ h
  · exact go run_h_top fun σ => ⟨num (by omega), num (by omega), num (by omega), num (by omega), num (by omega), num (by omega), .ub _⟩
  by_cases c2low : a ≤ 0
  · exact go run_a_low fun σ => ⟨num (by omega), num (by omega), num (by omega), num (by omega), num (by omega), num (by omega), .ub _⟩
  by_cases c2top : 1048577 ≤ a
  · by_cases cl : l ≤ 0
    · exact go run_a_top_low fun σ => ⟨num (by omega), num (by omega), num (by omega), num (by omega), num (by omega), num (by omega), .ub _⟩
    · exact go run_a_top_top fun σ => ⟨num (by omega), num (by omega), num (by omega), num (by omega), num (by omega), num (by omega), .ub _⟩
  by_cases c3low : l ≤ 0
  · exact go run_l_low fun σ => ⟨num (by omega), num (by omega), num (by omega), num (by omega), num (by omega), num (by omega), .ub _⟩
  by_cases c3top : 1048577 ≤ l
  · exact go run_l_top fun σ => ⟨num (by omega), num (by omega), num (by omega), num (by omega), num (by omega), num (by omega), .ub _⟩
  by_cases c4low : n ≤ 0
  · exact go run_n_low fun σ => ⟨num (by omega), num (by omega), num (by omega), num (by omega), num (by omega), num (by omega), .ub _⟩
  by_cases c4top : 9 ≤ n
  · exact go run_n_top fun σ => ⟨num (by omega), num (by omega), num (by omega), num (by omega), num (by omega), num (by omega), .ub _⟩
  by_cases cm : m ≤ -1
  · exact go run_m_low fun σ => ⟨num (by omega), num (by omega), num (by omega), num (by omega), num (by omega), num (by omega), .ub _⟩
  by_cases cn : n ≤ m
  · have : n = 1 ∨ n = 2 ∨ n = 3 ∨ n = 4 ∨ n = 5 ∨ n = 6 ∨ n = 7 ∨ n = 8 := by omega
    rcases this with rfl | rfl | rfl | rfl | rfl | rfl | rfl | rfl
    · exact go run_m_top1 fun σ => ⟨num (by omega), num (by omega), num (by omega), num (by omega), .int _ _, num (by omega), .ub _⟩
    · exact go run_m_top2 fun σ => ⟨num (by omega), num (by omega), num (by omega), num (by omega), .int _ _, num (by omega), .ub _⟩
    · exact go run_m_top3 fun σ => ⟨num (by omega), num (by omega), num (by omega), num (by omega), .int _ _, num (by omega), .ub _⟩
    · exact go run_m_top4 fun σ => ⟨num (by omega), num (by omega), num (by omega), num (by omega), .int _ _, num (by omega), .ub _⟩
    · exact go run_m_top5 fun σ => ⟨num (by omega), num (by omega), num (by omega), num (by omega), .int _ _, num (by omega), .ub _⟩
    · exact go run_m_top6 fun σ => ⟨num (by omega), num (by omega), num (by omega), num (by omega), .int _ _, num (by omega), .ub _⟩
    · exact go run_m_top7 fun σ => ⟨num (by omega), num (by omega), num (by omega), num (by omega), .int _ _, num (by omega), .ub _⟩
    · exact go run_m_top8 fun σ => ⟨num (by omega), num (by omega), num (by omega), num (by omega), .int _ _, num (by omega), .ub _⟩
  have : m = 0 ∨ m = 1 ∨ m = 2 ∨ m = 3 ∨ m = 4 ∨ m = 5 ∨ m = 6 ∨ m = 7 := by omega
  rcases this with rfl | rfl | rfl | rfl | rfl | rfl | rfl | rfl
  · cases f with
    | true => exact go run_fine_0_true fun σ => ⟨num (by omega), num (by omega), num (by omega), num (by omega), num (by omega), .int _ _, .bool _⟩
    | false => exact go run_fine_0_false fun σ => ⟨num (by omega), num (by omega), num (by omega), num (by omega), num (by omega), .int _ _, .bool _⟩
  · cases f with
    | true => exact go run_fine_1_true fun σ => ⟨num (by omega), num (by omega), num (by omega), num (by omega), num (by omega), .int _ _, .bool _⟩
    | false => exact go run_fine_1_false fun σ => ⟨num (by omega), num (by omega), num (by omega), num (by omega), num (by omega), .int _ _, .bool _⟩
  · cases f with
    | true => exact go run_fine_2_true fun σ => ⟨num (by omega), num (by omega), num (by omega), num (by omega), num (by omega), .int _ _, .bool _⟩
    | false => exact go run_fine_2_false fun σ => ⟨num (by omega), num (by omega), num (by omega), num (by omega), num (by omega), .int _ _, .bool _⟩
  · cases f with
    | true => exact go run_fine_3_true fun σ => ⟨num (by omega), num (by omega), num (by omega), num (by omega), num (by omega), .int _ _, .bool _⟩
    | false => exact go run_fine_3_false fun σ => ⟨num (by omega), num (by omega), num (by omega), num (by omega), num (by omega), .int _ _, .bool _⟩
  · cases f with
    | true => exact go run_fine_4_true fun σ => ⟨num (by omega), num (by omega), num (by omega), num (by omega), num (by omega), .int _ _, .bool _⟩
    | false => exact go run_fine_4_false fun σ => ⟨num (by omega), num (by omega), num (by omega), num (by omega), num (by omega), .int _ _, .bool _⟩
  · cases f with
    | true => exact go run_fine_5_true fun σ => ⟨num (by omega), num (by omega), num (by omega), num (by omega), num (by omega), .int _ _, .bool _⟩
    | false => exact go run_fine_5_false fun σ => ⟨num (by omega), num (by omega), num (by omega), num (by omega), num (by omega), .int _ _, .bool _⟩
  · cases f with
    | true => exact go run_fine_6_true fun σ => ⟨num (by omega), num (by omega), num (by omega), num (by omega), num (by omega), .int _ _, .bool _⟩
    | false => exact go run_fine_6_false fun σ => ⟨num (by omega), num (by omega), num (by omega), num (by omega), num (by omega), .int _ _, .bool _⟩
  · cases f with
    | true => exact go run_fine_7_true fun σ => ⟨num (by omega), num (by omega), num (by omega), num (by omega), num (by omega), .int _ _, .bool _⟩
    | false => exact go run_fine_7_false fun σ => ⟨num (by omega), num (by omega), num (by omega), num (by omega), num (by omega), .int _ _, .bool _⟩
end Go.Proofs.YtcllmbmgchhigaaGreat
