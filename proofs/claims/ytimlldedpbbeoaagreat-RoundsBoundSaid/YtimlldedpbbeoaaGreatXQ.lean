/- Slices and texts from without, as the abstract run sees them; functions of which it is known that they hand back something. -/
import Derived.Test.YtimlldedpbbeoaaGreatX1
import Derived.Test.YtimlldedpbbeoaaGreatKD
namespace Go.Proofs.YtimlldedpbbeoaaGreat
open Go.RowKit
noncomputable section

theorem opq_rd {w : World} {A : Option Addr} {n c : Nat} {xs : List Value} (h : Rd w (.slice A n c) n xs) (hl : n ≤ xs.length) (h1 : ∀ u ∈ xs, u.oneCell' = true) : Opq w A n := by
  rcases h with ⟨h0, _⟩ | ⟨g, o, c', he, hg, hc⟩
  · exact .inl h0
  · cases he
    refine .inr ⟨g, o, rfl, hg, xs.take n, by simp; omega, fun u hu => h1 u (List.mem_of_mem_take hu), fun j u hj => ?_⟩
    rw [List.getElem?_take] at hj
    split at hj
    · exact hc j u hj
    · cases hj
/-- Of elements of one cell each. -/
theorem opq_one {α : Type} {k : RK α} {w : World} {A : Option Addr} {c : Nat} {l : List α} (h : RdK k w (.slice A l.length c) l) (enc : α → Value) (he : ∀ x cs, k.K w x cs → cs = [enc x]) (h1 : ∀ x, (enc x).oneCell' = true) (hs : k.sz = 1) : Opq w A l.length := by
  have := h.flat (fun x => [enc x]) he (fun x => by simp [hs]) (by omega)
  refine opq_rd this ?_ fun u hu => ?_
  · have : ∀ m : List α, (m.flatMap fun x => [enc x]).length = m.length := fun m => by induction m <;> simp_all
    rw [this]; exact Nat.le_refl _
  · rw [List.mem_flatMap] at hu
    obtain ⟨x, _, hx⟩ := hu
    simp at hx
    subst hx
    exact h1 x
theorem low_cls {lo hi : Nat} (h : hi < 18446744073709551616) : lowOf (cls lo hi) = lo := by unfold lowOf cls; omega
theorem high_cls {lo hi : Nat} (h : hi < 18446744073709551616) : highOf (cls lo hi) = hi := by unfold highOf cls; omega
theorem VR.slice {σ : Sg} {j lo hi n c : Nat} {a : Option Addr} (h : σ.ext j = .slice a n c) (h1 : lo ≤ n) (h2 : n ≤ hi) (h3 : hi < 18446744073709551616) : VR σ (.complex .f32 j (cls lo hi)) (.slice a n c) :=
  .slc j _ a n c h (by rw [low_cls h3]; exact h1) (by rw [high_cls h3]; exact h2)
theorem VR.text {σ : Sg} {lo hi : Nat} {s : ByteArray} (h1 : lo ≤ s.size) (h2 : s.size ≤ hi) (h3 : hi < 18446744073709551616) : VR σ (.float .f64 (cls lo hi)) (.string s) :=
  .strc _ s (by rw [low_cls h3]; exact h1) (by rw [high_cls h3]; exact h2)
/-- A number from lo to hi. -/
def numA (lo hi : Int) : Value := .complex .f64 (lo + 9223372036854775808).toNat (hi + 9223372036854775808).toNat
theorem VR.num {σ : Sg} {lo hi n : Int} (h0 : -9223372036854775808 ≤ lo) (h1 : lo ≤ n) (h2 : n ≤ hi) : VR σ (numA lo hi) (.int .i64 n) :=
  .ivl _ _ n (by omega) (by omega)
/-- A function asked of a slice from without, that hands back something of one cell. -/
def ovSome (F j : Nat) : OvF := fun f args s => if f = F then (match args with
  | [.complex .f32 i _] => if i = j then some (.chan none, s) else none
  | _ => none) else none
theorem ovSome_ok {P : Program} {B : Ctx} {F j : Nat} (H : ∀ w, Below B.w.heap.size B.w w → Calls P F #[B.σ.ext j] w fun e w' => ∃ v', e = .returned v' ∧ v'.oneCell' = true ∧ Below w.heap.size w w') : OvOK P B (ovSome F j) := by
  refine ⟨fun g args s v s' h σ w args' hi hargs => ?_⟩
  unfold ovSome at h
  split at h
  · rename_i hg
    subst hg
    split at h
    · rename_i i c
      split at h
      · rename_i hij
        subst hij
        cases h
        obtain ⟨v', c', e1, h1, h2⟩ := hargs.uncons
        obtain ⟨⟩ : c' = [] := by have := h2.1; simpa using this.symm
        obtain rfl : args' = #[v'] := Array.ext' (by simpa using e1)
        cases h1 with
        | slc _ _ a n c' hj _ _ =>
          rw [← hj, hi.own.2]
          refine (H w hi.base).mono ?_
          rintro e w' ⟨v', rfl, q1, q2⟩
          exact ⟨v', σ, rfl, .any v' q1, stp_below hi q2⟩
      · cases h
    · cases h
  · cases h
/-- A function asked of just these, that hands back just that. -/
def ovEq (F : Nat) (A : List Value) (v : Value) : OvF := fun f args s => if f = F then (if veqs (veq 40) args A then some (v, s) else none) else none
theorem ovEq_ok {P : Program} {B : Ctx} {F : Nat} {A : List Value} {v : Value} (H : ∀ (σ : Sg) (w : World) (args' : Array Value), σ.ext = B.σ.ext → Below B.w.heap.size B.w w → VRs σ A args'.toList → Calls P F args' w fun e w' => ∃ v', e = .returned v' ∧ VR σ v v' ∧ Below w.heap.size w w') : OvOK P B (ovEq F A v) := by
  refine ⟨fun g args s v s' h σ w args' hi hargs => ?_⟩
  unfold ovEq at h
  split at h
  · rename_i hg
    subst hg
    split at h
    · rename_i he
      have := veqs_eq (veq_eq 40) _ _ he
      subst this
      cases h
      refine (H σ w args' hi.own.2 hi.base hargs).mono ?_
      rintro e w' ⟨v', rfl, q1, q2⟩
      exact ⟨v', σ, rfl, q1, stp_below hi q2⟩
    · cases h
  · cases h
theorem VRs.at_ {σ : Sg} {c : List Value} {c' : Array Value} (h : VRs σ c c'.toList) {i : Nat} {v : Value} (hi : c[i]? = some v) : ∃ v', c'[i]? = some v' ∧ VR σ v v' := by
  obtain ⟨v', q1, q2⟩ := h.get hi
  exact ⟨v', by simpa using q1, q2⟩
theorem VR.of_ext {σ : Sg} {i : Nat} {v' : Value} (h : VR σ (.chan (some i)) v') : v' = σ.ext i := by cases h; rfl
theorem VR.of_slc {σ : Sg} {j c : Nat} {v' : Value} (h : VR σ (.complex .f32 j c) v') : v' = σ.ext j := by
  cases h with
  | slc _ _ a n c' hj _ _ => exact hj.symm
theorem junk_all {τ : Sg} {n : Nat} {cs : List Value} (hl : cs.length = n) (h : ∀ v ∈ cs, v.oneCell' = true) : VRs τ (List.replicate n (.chan none)) cs := junk_vrs τ hl h
end
end Go.Proofs.YtimlldedpbbeoaaGreat
