/- No member, and one that nobody made: MemberNil, by the abstract run. -/
import Derived.Test.YthgheamplcejkaaGreatKW
import Derived.Test.YthgheamplcejkaaGreatLI
import Derived.Test.YthgheamplcejkaaGreatXQ
namespace Go.Proofs.YthgheamplcejkaaGreat
open Go.RowKit

def anyC : Nat := cls 0 9223372036854775807
def entA (c : Nat) : List Value := junk 4 ++ [Value.chan (some 4), Value.chan (some 5)] ++ junk 5 ++ [Value.complex .f32 0 c]
def noteA (c1 c2 c3 : Nat) : List Value := junk 8 ++ [Value.complex .f32 1 c1] ++ junk 4 ++ [Value.chan (some 6), Value.chan (some 7)] ++ junk 5 ++ [Value.complex .f32 2 c2, Value.complex .f32 3 c3]
def entN (c : Nat) : List Value := List.replicate 8 (Value.int .i64 0) ++ [Value.slice none 0 0] ++ entA c ++ [Value.slice none 0 0]
def argS (c0 c1 c2 c3 : Nat) : List Value := [.agg (junk 4 ++ entA c0 ++ noteA c1 c2 c3).toArray, .agg (junk 2).toArray]
def ovs (c0 c1 c2 c3 : Nat) (a b : Bool) : OvF := ovOr (ovTrue 6) (ovOr (ovEq 99 [.agg (noteA c1 c2 c3).toArray] (.bool a)) (ovEq 99 [.agg (entN c0).toArray] (.bool b)))
noncomputable def goB (c0 c1 c2 c3 : Nat) (a b : Bool) : Bool := isTrue (funcS (ovs c0 c1 c2 c3 a b) (drawS Tryz.prog) Tryz.prog 100000 60 (.func 4) (argS c0 c1 c2 c3) ⟨0, .leaf⟩)
theorem run_small : goB (cls 0 30) (cls 0 30) (cls 0 30) (cls 0 3000) true true = true := by kernel_rfl
theorem run_note (b : Bool) : goB anyC anyC anyC anyC false b = true := by cases b <;> kernel_rfl
theorem run_ent : goB anyC anyC anyC anyC true false = true := by kernel_rfl
def extS (s0 s1 s2 s3 : Value) (k0 v0 k1 v1 : ByteArray) : Nat → Value
  | 0 => s0
  | 1 => s1
  | 2 => s2
  | 3 => s3
  | 4 => .string k0
  | 5 => .string v0
  | 6 => .string k1
  | 7 => .string v1
  | _ => undef
theorem nil_walk (w : World) (c : Array Value) (x : D_glebelaw22_Act) (h : D_glebelaw22_Act.k.K w x c.toList) (cp : Array Value) (q : D_api_Point) (hq : D_api_Point.k.K w q cp.toList) :
    Calls Tryz.prog 4 #[.agg c, .agg cp] w fun e w' => e = .returned (.bool true) ∧ Below w.heap.size w w' := by
  obtain ⟨s0, s1, s2, s3, e0, r0, r1, r2, r3, _⟩ := D_glebelaw22_Act.cells h
  obtain rfl : c = (D_glebelaw22_Act.cs x s0 s1 s2 s3).toArray := Array.ext' (by simpa using e0)
  obtain ⟨ep, _⟩ := D_api_Point.cells hq
  obtain rfl : cp = (D_api_Point.cs q).toArray := Array.ext' (by simpa using ep)
  clear h e0 hq ep
  obtain ⟨A0, c0, rfl⟩ := r0.slice
  obtain ⟨A1, c1, rfl⟩ := r1.slice
  obtain ⟨A2, c2, rfl⟩ := r2.slice
  obtain ⟨A3, c3, rfl⟩ := r3.slice
  have hrd : Rds (extS (.slice A0 x.e.chain.length c0) (.slice A1 x.note.chain.length c1) (.slice A2 x.note.pend.chain.length c2) (.slice A3 x.note.state.length c3) x.e.op.key x.e.op.value x.note.pend.op.key x.note.pend.op.value) w := by
    intro j a n c' h
    unfold extS at h
    split at h <;> cases h
    · exact opq_one r0 (fun n => .int .i64 n) (fun x cs hk => hk.1) (fun _ => rfl) rfl
    · exact opq_one r1 (fun n => .int .i64 n) (fun x cs hk => hk.1) (fun _ => rfl) rfl
    · exact opq_one r2 (fun n => .int .i64 n) (fun x cs hk => hk.1) (fun _ => rfl) rfl
    · exact opq_one r3 (fun n => .int .u8 n) (fun x cs hk => hk.1) (fun _ => rfl) rfl
  have l0 := r0.le
  have l1 := r1.le
  have l2 := r2.le
  have l3 := r3.le
  unfold maxLen at l0 l1 l2 l3
  have ha : ∀ b0 b1 b2 b3, x.e.chain.length ≤ b0 → x.note.chain.length ≤ b1 → x.note.pend.chain.length ≤ b2 → x.note.state.length ≤ b3 → b0 < 18446744073709551616 → b1 < 18446744073709551616 → b2 < 18446744073709551616 → b3 < 18446744073709551616 →
      VRs (ctx0 _ w hrd).σ (argS (cls 0 b0) (cls 0 b1) (cls 0 b2) (cls 0 b3)) #[.agg (D_glebelaw22_Act.cs x (.slice A0 x.e.chain.length c0) (.slice A1 x.note.chain.length c1) (.slice A2 x.note.pend.chain.length c2) (.slice A3 x.note.state.length c3)).toArray, .agg (D_api_Point.cs q).toArray].toList := by
    intro b0 b1 b2 b3 q0 q1 q2 q3 t0 t1 t2 t3
    refine VRs.cons (VR.agg' ?_) (VRs.cons (VR.agg' (junk_all rfl (by simp [D_api_Point.cs, Value.oneCell']))) (VRs.nil _))
    unfold D_glebelaw22_Act.cs
    repeat' (first | exact VRs.nil _ | refine VRs.cons ?_ ?_)
    all_goals first | exact .any _ rfl | exact VR.slice rfl (Nat.zero_le _) q0 t0 | exact VR.slice rfl (Nat.zero_le _) q1 t1 | exact VR.slice rfl (Nat.zero_le _) q2 t2 | exact VR.slice rfl (Nat.zero_le _) q3 t3 | exact VR.ext 4 rfl | exact VR.ext 5 rfl | exact VR.ext 6 rfl | exact VR.ext 7 rfl
  have hov : ∀ d0 d1 d2 d3, OvOK Tryz.prog (ctx0 _ w hrd) (ovs d0 d1 d2 d3 (smallB x.note.state.length x.note.chain.length x.note.pend.chain.length x.note.pend.op.key x.note.pend.op.value) (smallB 0 0 x.e.chain.length x.e.op.key x.e.op.value)) := by
    intro d0 d1 d2 d3
    refine ovOr_ok (ovTrue_ok knows_any) (ovOr_ok (ovEq_ok ?_) (ovEq_ok ?_))
    · intro σ w' args' hσ _ hargs
      obtain ⟨v', c', e1, h1, h2⟩ := hargs.uncons
      obtain ⟨⟩ : c' = [] := by have := h2.1; simpa using this.symm
      obtain rfl : args' = #[v'] := Array.ext' (by simpa using e1)
      obtain ⟨cs, rfl, hc⟩ := h1.of_agg
      obtain ⟨u8, p8, g8⟩ := VRs.at_ hc (i := 8) (v := .complex .f32 1 d1) rfl
      obtain ⟨u13, p13, g13⟩ := VRs.at_ hc (i := 13) (v := .chan (some 6)) rfl
      obtain ⟨u14, p14, g14⟩ := VRs.at_ hc (i := 14) (v := .chan (some 7)) rfl
      obtain ⟨u20, p20, g20⟩ := VRs.at_ hc (i := 20) (v := .complex .f32 2 d2) rfl
      obtain ⟨u21, p21, g21⟩ := VRs.at_ hc (i := 21) (v := .complex .f32 3 d3) rfl
      rw [g8.of_slc, hσ] at p8
      rw [g13.of_ext, hσ] at p13
      rw [g14.of_ext, hσ] at p14
      rw [g20.of_slc, hσ] at p20
      rw [g21.of_slc, hσ] at p21
      refine (light_any cs _ _ _ _ _ _ _ _ _ _ _ w' p8 p13 p14 p20 p21).mono ?_
      rintro e w2 ⟨rfl, hb⟩
      exact ⟨_, rfl, .bool _, hb⟩
    · intro σ w' args' hσ _ hargs
      obtain ⟨v', c', e1, h1, h2⟩ := hargs.uncons
      obtain ⟨⟩ : c' = [] := by have := h2.1; simpa using this.symm
      obtain rfl : args' = #[v'] := Array.ext' (by simpa using e1)
      obtain ⟨cs, rfl, hc⟩ := h1.of_agg
      obtain ⟨u8, p8, g8⟩ := VRs.at_ hc (i := 8) (v := .slice none 0 0) rfl
      obtain ⟨u13, p13, g13⟩ := VRs.at_ hc (i := 13) (v := .chan (some 4)) rfl
      obtain ⟨u14, p14, g14⟩ := VRs.at_ hc (i := 14) (v := .chan (some 5)) rfl
      obtain ⟨u20, p20, g20⟩ := VRs.at_ hc (i := 20) (v := .complex .f32 0 d0) rfl
      obtain ⟨u21, p21, g21⟩ := VRs.at_ hc (i := 21) (v := .slice none 0 0) rfl
      cases g8
      cases g21
      rw [g13.of_ext, hσ] at p13
      rw [g14.of_ext, hσ] at p14
      rw [g20.of_slc, hσ] at p20
      refine (light_any cs _ _ _ _ _ _ _ _ _ _ _ w' p8 p13 p14 p20 p21).mono ?_
      rintro e w2 ⟨rfl, hb⟩
      exact ⟨_, rfl, .bool _, hb⟩
  cases h1 : smallB x.note.state.length x.note.chain.length x.note.pend.chain.length x.note.pend.op.key x.note.pend.op.value with
  | false =>
    rw [h1] at hov
    exact run_true (draw_ok Tryz.prog) _ hrd (hov anyC anyC anyC anyC) (ha _ _ _ _ l0 l1 l2 l3 (by omega) (by omega) (by omega) (by omega)) (run_note _)
  | true =>
    cases h2 : smallB 0 0 x.e.chain.length x.e.op.key x.e.op.value with
    | false =>
      rw [h1, h2] at hov
      exact run_true (draw_ok Tryz.prog) _ hrd (hov anyC anyC anyC anyC) (ha _ _ _ _ l0 l1 l2 l3 (by omega) (by omega) (by omega) (by omega)) run_ent
    | true =>
      rw [h1, h2] at hov
      unfold smallB at h1 h2
      simp only [Bool.and_eq_true, decide_eq_true_eq] at h1 h2
      exact run_true (draw_ok Tryz.prog) _ hrd (hov _ _ _ _) (ha 30 30 30 3000 (by omega) (by omega) (by omega) (by omega) (by omega) (by omega) (by omega) (by omega)) run_small
end Go.Proofs.YthgheamplcejkaaGreat
